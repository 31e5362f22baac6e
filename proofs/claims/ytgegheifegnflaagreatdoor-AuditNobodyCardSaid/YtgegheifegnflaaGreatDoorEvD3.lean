/- The abstract evaluator: append, held against the model's. -/
import Derived.Test.YtgegheifegnflaaGreatDoorEvD2
namespace Go.Ab
open Go.RowKit

section
variable {P : Program}

/-- append, in its place -/
theorem append_in {st xt ty elem : TypeId} {dx : TypeDesc} {ti : TypeInfo} (ht : P.underlying st = some (.slice elem)) (hxt : P.underlying xt = some dx) (hdx : ∀ k, dx ≠ .int k) (hi : P.info? elem = some ti)
    (b : Addr) (la cap : Nat) (cx : Value) (n : Nat) (w : World) (hn : (Builtin.lenOf cx).run P w = .ok n w) (hle : la + n ≤ cap) (news : List Value) (w' : World)
    (hnew : (Builtin.firstCells ti.size n cx).run P w = .ok ⟨news⟩ w) (hst : (storeCells (b.add (la * ti.size)) news).run P w = .ok () w') :
    (Builtin.append_ #[st, xt] ty #[.slice (some b) la cap, cx]).run P w = .ok (.slice (some b) (la + n) cap) w' := by
  have hz : ∀ w : World, (underlying xt).run P w = .ok dx w := fun w => run_underlying hxt w
  simp [Builtin.append_, run_underlying ht, hz, sizeOf, typeInfo, hi, hn, hle, hnew, hst]

theorem append_nil0 {st xt ty elem : TypeId} {dx : TypeDesc} {ti : TypeInfo} (ht : P.underlying st = some (.slice elem)) (hxt : P.underlying xt = some dx) (hdx : ∀ k, dx ≠ .int k) (hi : P.info? elem = some ti)
    (base : Option Addr) (la cap : Nat) (cx : Value) (w : World) (hn : (Builtin.lenOf cx).run P w = .ok 0 w) (hle : la ≤ cap) 
    (hnew : (Builtin.firstCells ti.size 0 cx).run P w = .ok ⟨[]⟩ w) :
    (Builtin.append_ #[st, xt] ty #[.slice base la cap, cx]).run P w = .ok (.slice base la cap) w := by
  have hz : ∀ w : World, (underlying xt).run P w = .ok dx w := fun w => run_underlying hxt w
  cases base <;> simp [Builtin.append_, run_underlying ht, hz, sizeOf, typeInfo, hi, hn, hle, hnew, storeCells]

/-- append, that grows -/
theorem append_out {st xt ty elem : TypeId} {dx : TypeDesc} {ti : TypeInfo} {zv : Value} (ht : P.underlying st = some (.slice elem)) (hxt : P.underlying xt = some dx) (hdx : ∀ k, dx ≠ .int k) (hi : P.info? elem = some ti) (hzv : ti.zero = some zv)
    (base : Option Addr) (la cap : Nat) (cx : Value) (n : Nat) (w : World) (hn : (Builtin.lenOf cx).run P w = .ok n w) (hlt : cap < la + n) (hb : (la + n) * ti.bytes ≤ maxBytes) (hm : la + n ≤ maxBytes) (olds news : List Value)
    (hold : (Builtin.firstCells ti.size la (.slice base la cap)).run P w.drew = .ok ⟨olds⟩ w.drew)
    (hnew : (Builtin.firstCells ti.size n cx).run P w.drew = .ok ⟨news⟩ w.drew) :
    (Builtin.append_ #[st, xt] ty #[.slice base la cap, cx]).run P w =
      .ok (.slice (some ⟨w.heap.size, 0, none⟩) (la + n) (grownCap w (la + n) cap elem))
        (w.drew.alloc (.cells ⟨olds ++ news ++ (Builtin.zeroCells zv.cells (grownCap w (la + n) cap elem - (la + n))).toList⟩ elem)) := by
  have hz : ∀ w : World, (underlying xt).run P w = .ok dx w := fun w => run_underlying hxt w
  have hle : ¬ (la + n ≤ cap) := by omega
  unfold maxBytes at hb hm
  have h63 : ¬ (9223372036854775807 < ((la : Int) + (n : Int))) := by omega
  have hf := growslice_fits (old := cap) (need := la + n) (bytes := ti.bytes) hlt (by omega)
  have h48 : ¬ (281474976710656 < Builtin.nextslicecap (la + n) cap * ti.bytes) := by omega
  have key : ∀ z : Array Value, (⟨olds⟩ : Array Value) ++ (⟨news⟩ ++ z) = ⟨olds ++ (news ++ z.toList)⟩ := fun z => by apply Array.ext'; simp
  simp [Builtin.append_, run_underlying ht, hz, sizeOf, typeInfo, zeroValue, hi, hzv, hn, hle, h63, h48, Question.forced, hnew, hold, newRow, grownCap, key]

theorem le_grownCap (w : World) (need old : Nat) (e : TypeId) : need ≤ grownCap w need old e := by
  simp only [grownCap, Question.cut]; omega

theorem zeroCells_length (z : Array Value) (n : Nat) : (Builtin.zeroCells z n).toList.length = n * z.size := by
  simp [Builtin.zeroCells]
end

section
variable {β : Type} {call : CallF} {s : St} {r : β × St} {P : Program} {B0 : Nat} {w0 : World} {E : Env}

/-- what is asked of both slices of an append, at one moment -/
structure AppAt (P : Program) (B0 : Nat) (w0 : World) (M : Mp) (s : St) (w : World) (st xt ty elem : TypeId) (ei : TyI) (a x : AV) (ca cx : Value) (la n : Nat) (new : List AV) : Prop where
  inv : Inv B0 w0 M s.h w
  ha : Rel M a ca
  hx : Rel M x cx
  len : (Builtin.lenOf cx).run P w = .ok n w
  news : ∃ vs, RelL M new vs ∧ ∀ w1 : World, (∀ p, w1.cell? p = w.cell? p) → (Builtin.firstCells ei.size n cx).run P w1 = .ok ⟨vs⟩ w1
  nlen : new.length = n * ei.size

theorem growK_run {sz la n : Nat} {a : AV} {new : List AV} {K : AV → EM β} (h : (growK sz la n a new K).run call s = some r) :
    ∃ old s1, s1.h = s.h.set s.nxt (some (.cells (old ++ new) sz false)) ∧ s1.nxt = s.nxt + 1 ∧ (K (.slc s.nxt 0 (la + n) none)).run call s1 = some r ∧ old.length = la * sz ∧
      ∀ {M : Mp} {w : World} {ca : Value}, Inv B0 w0 M s.h w → Rel M a ca → ∃ vs, RelL M old vs ∧ ∀ w1 : World, (∀ p, w1.cell? p = w.cell? p) → (Builtin.firstCells sz la ca).run P w1 = .ok ⟨vs⟩ w1 := by
  unfold growK at h
  obtain ⟨old, s1, ⟨e1, e2⟩, h2, hl, hrest⟩ := firstK_run (P := P) (B0 := B0) (w0 := w0) h
  simp only [EM.run] at h2
  refine ⟨old, { s1 with h := s1.h.set s1.nxt (some (.cells (old ++ new) sz false)), nxt := s1.nxt + 1 }, by simp only [e1, e2], by simp only [e2], by rw [← e2]; exact h2, hl, fun I hr => hrest I hr⟩

theorem grow_out (hty : ∀ t i, E.ty t = some i → TyOk P t i) {st xt ty elem : TypeId} {ei : TyI} {zz : AV} {dx : TypeDesc} (ht : P.underlying st = some (.slice elem)) (hxt : P.underlying xt = some dx) (hdx : ∀ k, dx ≠ .int k) (hei : E.ty elem = some ei) (hz : ei.zero = some zz)
    {a x : AV} {ca cx : Value} {la n : Nat} {new old : List AV} {M : Mp} {w : World} {s1 : St} {base : Option Addr} {cap : Nat} (hca : ca = .slice base la cap)
    (A : AppAt P B0 w0 M s w st xt ty elem ei a x ca cx la n new) (hlt : cap < la + n) (hb : (la + n) * ei.bytes ≤ maxBytes) (hm : la + n ≤ maxBytes) 
    (hfresh : M.m s.nxt = none)
    (h1 : s1.h = s.h.set s.nxt (some (.cells (old ++ new) ei.size false))) (h2 : s1.nxt = s.nxt + 1) (hol : old.length = la * ei.size)
    (hold : ∃ vs, RelL M old vs ∧ ∀ w1 : World, (∀ p, w1.cell? p = w.cell? p) → (Builtin.firstCells ei.size la ca).run P w1 = .ok ⟨vs⟩ w1) :
    OutV B0 w0 M s s1 (.slc s.nxt 0 (la + n) none) ((Builtin.append_ #[st, xt] ty #[ca, cx]).run P w) := by
  obtain ⟨ti, hi, hu, esz, eby, eag, hzz, _⟩ := hty elem ei hei
  obtain ⟨zv, hzv, hzo, hzl⟩ := hzz zz hz
  obtain ⟨ov, hov, hold⟩ := hold
  obtain ⟨nv, hnv, hnew⟩ := A.news
  have hzc : zv.cells.size = ei.size := by
    obtain ⟨vs, e1, e2⟩ := Rel.cells (ofVal_rel M 400 zv zz hzo) (by intro l e; subst e; simp [AV.cells] at hzl; unfold ofVal at hzo; split at hzo <;> first | (cases hzo; done) | (split at hzo <;> cases hzo))
    rw [e1]; simp only [List.size_toArray]; rw [e2.length]; exact hzl
  have hrun := append_out (ty := ty) ht hxt hdx hi hzv base la cap cx n w A.len hlt (by rw [eby]; exact hb) hm ov nv
    (by rw [esz, ← hca]; exact hold w.drew fun _ => rfl) (by rw [esz]; exact hnew w.drew fun _ => rfl)
  rw [hca, hrun]
  have hg := le_grownCap w (la + n) cap elem
  have hovl := hov.length
  have hnvl := hnv.length
  have hCl : (ov ++ nv ++ (Builtin.zeroCells zv.cells (grownCap w (la + n) cap elem - (la + n))).toList).length = grownCap w (la + n) cap elem * ei.size := by
    rw [List.length_append, List.length_append, zeroCells_length, hzc, hovl, hnvl, hol, A.nlen, ← Nat.add_mul, ← Nat.add_mul]
    congr 1; omega
  have I2 := (A.inv.drew).newRow s.nxt (old ++ new) ei.size false (ov ++ nv ++ (Builtin.zeroCells zv.cells (grownCap w (la + n) cap elem - (la + n))).toList) elem hfresh
    (by rw [List.length_append, List.length_append, List.length_append]; omega) (by simp)
    (by
      have e : (old ++ new).length = (ov ++ nv).length := by simp; omega
      rw [e, List.take_left']
      · exact hov.append hnv
      · rfl)
  refine ⟨_, _, _, rfl, M.le_lay s.nxt _ (.inl hfresh), ?_, by rw [h1]; exact I2, ?_⟩
  · intro k hk
    by_cases e : k = s.nxt
    · right; omega
    · left; rw [Mp.lay_ne M _ e] at hk; exact hk
  · simp only [Rel, slcRel]
    refine ⟨_, Mp.lay_self _ _ _, _, _, rfl, hg, .inr rfl, ?_⟩
    simp only [Nat.add_zero]
    rw [hCl]
end
end Go.Ab
