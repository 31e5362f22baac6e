/- The abstract evaluator: its operations on memory, held against the model's. -/
import Derived.Test.YtgegheifegnflaaGreatDoorEvC
namespace Go.Ab
open Go.RowKit

def isAggD : TypeDesc → Bool
  | .struct _ | .array _ _ => true
  | _ => false

/-- what the evaluator knows of a type is so -/
def TyOk (P : Program) (t : TypeId) (i : TyI) : Prop :=
  ∃ ti, P.info? t = some ti ∧ P.underlying t = some i.d ∧ ti.size = i.size ∧ ti.bytes = i.bytes ∧ i.agg = isAggD i.d ∧
    (∀ z, i.zero = some z → ∃ zv, ti.zero = some zv ∧ ofVal 400 zv = some z ∧ z.cells.length = i.size) ∧
    (i.eqOk = true → P.stoodInHeld t = false ∧ P.eqGuardType P.depth t = false)

/-! ### address-free values -/

mutual
theorem ofVal_rel (M : Mp) : ∀ (k : Nat) (v : Value) (a : AV), ofVal k v = some a → Rel M a v
  | 0, _, _, h => by simp [ofVal] at h
  | k + 1, v, a, h => by
    unfold ofVal at h
    split at h
    all_goals first
      | (cases h; simp only [Rel]; done)
      | skip
    · rename_i cs
      split at h
      · rename_i l hl; cases h; simp only [Rel]; exact ⟨cs, rfl, ofVals_rel M k cs l hl⟩
      · cases h
    · rename_i cs
      split at h
      · rename_i l hl; cases h; simp only [Rel]; exact ⟨cs, rfl, ofVals_rel M k cs l hl⟩
      · cases h
    · cases h
theorem ofVals_rel (M : Mp) : ∀ (k : Nat) (v : List Value) (a : List AV), ofVals k v = some a → RelL M a v
  | 0, _, _, h => by simp [ofVals] at h
  | k + 1, [], a, h => by simp [ofVals] at h; subst h; simp [RelL]
  | k + 1, v :: l, a, h => by
    simp only [ofVals] at h
    split at h
    · rename_i x r hx hr; cases h
      simp only [RelL]
      exact ⟨v, l, rfl, ofVal_rel M k v x hx, ofVals_rel M k l r hr⟩
    · cases h
end

/-! ### cells of values -/

theorem Rel.cells {M : Mp} {a : AV} {c : Value} (h : Rel M a c) (hne : ∀ l, a ≠ .sc (.agg l)) : ∃ vs, c.cells = ⟨vs⟩ ∧ RelL M a.cells vs := by
  cases a with
  | agg cs => simp only [Rel] at h; obtain ⟨vs, rfl, hr⟩ := h; exact ⟨vs, rfl, hr⟩
  | sc v =>
    simp only [Rel] at h; subst h
    refine ⟨[c], ?_, by simp [AV.cells, RelL, Rel]⟩
    cases c <;> first | rfl | exact absurd rfl (hne _)
  | ptr n o => simp only [Rel] at h; obtain ⟨z, hz, rfl⟩ := h; exact ⟨[_], rfl, by simp only [AV.cells, RelL]; exact ⟨_, _, rfl, by simp only [Rel]; exact ⟨z, hz, rfl⟩, rfl⟩⟩
  | slc n o l k =>
    have h' := h
    simp only [Rel] at h; obtain ⟨z, hz, x, k, rfl, r⟩ := h
    exact ⟨[_], rfl, by simp only [AV.cells, RelL]; exact ⟨_, _, rfl, h', rfl⟩⟩
  | isl cs l k =>
    have h' := h
    simp only [Rel] at h; obtain ⟨x, k, vs, rfl, r⟩ := h
    exact ⟨[_], rfl, by simp only [AV.cells, RelL]; exact ⟨_, _, rfl, h', rfl⟩⟩
  | eptr cs =>
    have h' := h
    simp only [Rel] at h; obtain ⟨x, vs, rfl, r⟩ := h
    exact ⟨[_], rfl, by simp only [AV.cells, RelL]; exact ⟨_, _, rfl, h', rfl⟩⟩
  | mp n =>
    have h' := h
    simp only [Rel] at h; obtain ⟨z, hz, rfl⟩ := h
    exact ⟨[_], rfl, by simp only [AV.cells, RelL]; exact ⟨_, _, rfl, h', rfl⟩⟩
  | fn f x y =>
    have h' := h
    simp only [Rel] at h; obtain ⟨va, vb, rfl, r⟩ := h
    exact ⟨[_], rfl, by simp only [AV.cells, RelL]; exact ⟨_, _, rfl, h', rfl⟩⟩
  | ifc t v =>
    have h' := h
    simp only [Rel] at h; obtain ⟨cv, rfl, r⟩ := h
    exact ⟨[_], rfl, by simp only [AV.cells, RelL]; exact ⟨_, _, rfl, h', rfl⟩⟩
  | tup cs =>
    have h' := h
    simp only [Rel] at h; obtain ⟨vs, rfl, r⟩ := h
    exact ⟨[_], rfl, by simp only [AV.cells, RelL]; exact ⟨_, _, rfl, h', rfl⟩⟩

theorem Rel.oneCell {M : Mp} {a : AV} {c : Value} (h : Rel M a c) (hc : a.isCell = true) : c.oneCell' = true := by
  cases a with
  | agg cs => simp [AV.isCell] at hc
  | tup cs => simp [AV.isCell] at hc
  | sc v => simp only [Rel] at h; subst h; cases c <;> first | rfl | simp [AV.isCell] at hc
  | ptr n o => simp only [Rel] at h; obtain ⟨z, hz, rfl⟩ := h; rfl
  | slc n o l k => simp only [Rel] at h; obtain ⟨z, hz, x, k, rfl, r⟩ := h; rfl
  | isl cs l k => simp only [Rel] at h; obtain ⟨x, k, vs, rfl, r⟩ := h; rfl
  | eptr cs => simp only [Rel] at h; obtain ⟨x, vs, rfl, r⟩ := h; rfl
  | mp n => simp only [Rel] at h; obtain ⟨z, hz, rfl⟩ := h; rfl
  | fn f x y => simp only [Rel] at h; obtain ⟨va, vb, rfl, r⟩ := h; rfl
  | ifc t v => simp only [Rel] at h; obtain ⟨cv, rfl, r⟩ := h; rfl

theorem RelL.oneCells {M : Mp} : ∀ {l : List AV} {vs : List Value}, RelL M l vs → l.all AV.isCell = true → ∀ v ∈ vs, v.oneCell' = true
  | [], _, h, _ => by simp only [RelL] at h; subst h; intro v hv; cases hv
  | a :: l, _, h, hc => by
    simp only [RelL] at h; obtain ⟨x, r, rfl, h1, h2⟩ := h
    simp only [List.all_cons, Bool.and_eq_true] at hc
    intro v hv
    cases hv with
    | head => exact Rel.oneCell h1 hc.1
    | tail _ hv => exact RelL.oneCells h2 hc.2 v hv

theorem Addr.add_none (b o n : Nat) : (⟨b, o, none⟩ : Addr).add n = ⟨b, o + n, none⟩ := by
  unfold Addr.add; split <;> simp_all

/-! ### the combinators, turned round -/

section
variable {α β : Type} {call : CallF} {s : St} {r : β × St}

theorem withO_run {x : Option α} {k : α → EM β} (h : (withO x k).run call s = some r) : ∃ a, x = some a ∧ (k a).run call s = some r := by
  cases x with
  | none => simp [withO, EM.run] at h
  | some a => exact ⟨a, rfl, h⟩

theorem guardE_run {b : Bool} {k : EM β} (h : (guardE b k).run call s = some r) : b = true ∧ k.run call s = some r := by
  cases b with
  | false => simp [guardE, EM.run] at h
  | true => exact ⟨rfl, h⟩

theorem St.at_some {s : St} {n : Nat} {b : Blk} (h : s.at n = some b) : s.h.get n = some b ∧ n < s.nxt := by
  unfold St.at at h
  cases hb : Nat.blt n s.nxt with
  | true => rw [hb] at h; exact ⟨h, Nat.le_of_ble_eq_true hb⟩
  | false => rw [hb] at h; cases h

theorem look_run {n : Nat} {k : Blk → EM β} (h : (EM.look n k).run call s = some r) : ∃ b, s.h.get n = some b ∧ (k b).run call { s with rd := n :: s.rd } = some r := by
  simp only [EM.run] at h
  split at h
  · rename_i hb; exact ⟨_, (St.at_some hb).1, h⟩
  · cases h

theorem put_run {n : Nat} {b : Option Blk} {k : EM β} (h : (EM.put n b k).run call s = some r) : (∃ b0, s.h.get n = some b0) ∧ k.run call { s with h := s.h.set n b, wr := n :: s.wr } = some r := by
  simp only [EM.run] at h
  split at h
  · rename_i hb; exact ⟨⟨_, (St.at_some hb).1⟩, h⟩
  · cases h

theorem fail_run (h : (EM.fail : EM β).run call s = some r) : False := by simp [EM.run] at h

theorem ite_cond_run {b : Bool} {x y : EM β} (h : (bif b then x else y).run call s = some r) : (b = true ∧ x.run call s = some r) ∨ (b = false ∧ y.run call s = some r) := by
  cases b with
  | true => exact .inl ⟨rfl, h⟩
  | false => exact .inr ⟨rfl, h⟩

/-- two states of one heap -/
def St.like (s s1 : St) : Prop := s1.h = s.h ∧ s1.nxt = s.nxt

variable {P : Program} {B0 : Nat} {w0 : World}

theorem loadK_run {a : AV} {k : Nat} {K : List AV → EM β} (h : (loadK a k K).run call s = some r) :
    ∃ l s1, s.like s1 ∧ (K l).run call s1 = some r ∧ l.length = k ∧ ∀ {M : Mp} {w : World} {ca : Value}, Inv B0 w0 M s.h w → Rel M a ca →
      ∃ b o vs, ca = .pointer (some ⟨b, o, none⟩) ∧ RelL M l vs ∧ ∀ j v, vs[j]? = some v → w.cell? ⟨b, o + j, none⟩ = some v := by
  cases a <;> simp only [loadK] at h
  case ptr n off =>
    obtain ⟨b, hb, h⟩ := look_run h
    cases b with
    | amap _ _ => exact (fail_run h).elim
    | siter _ _ => exact (fail_run h).elim
    | cells c sz ex =>
      obtain ⟨l, hl, h⟩ := withO_run h
      obtain ⟨e1, e2⟩ := takeN_eq _ _ _ hl
      refine ⟨l, { s with rd := n :: s.rd }, ⟨rfl, rfl⟩, h, by rw [e1]; simp only [List.length_take]; simp only [List.length_drop] at e2 ⊢; omega, fun {M w ca} I hr => ?_⟩
      simp only [Rel] at hr
      obtain ⟨z, hz, rfl⟩ := hr
      obtain ⟨z', hz', hbk⟩ := I.blk n _ hb
      rw [hz] at hz'; cases hz'
      obtain ⟨_, h2, _, h4⟩ := hbk
      have hlen : off + k ≤ c.length ∨ k = 0 := by simp only [List.length_drop] at e2; omega
      have hex : ∀ j, j < k → ∃ v, w.cell? ⟨z.B, z.O + off + j, none⟩ = some v ∧ ∀ a, l[j]? = some a → Rel M a v := fun j hj => by
        obtain ⟨⟨v, hv, hrv⟩, _⟩ := h4 (off + j) (by omega)
        refine ⟨v, by rw [Nat.add_assoc]; exact hv, fun a ha => hrv a ?_⟩
        rw [e1, List.getElem?_take_of_lt hj, List.getElem?_drop] at ha
        exact ha
      refine ⟨z.B, z.O + off, (List.range k).map fun j => (w.cell? ⟨z.B, z.O + off + j, none⟩).getD undef, rfl, RelL.of_get ?_ ?_, ?_⟩
      · rw [e1]; simp only [List.length_take, List.length_drop, List.length_map, List.length_range]; simp only [List.length_drop] at e2; omega
      · intro i v x h1 h2
        have hi : i < k := by
          rcases Nat.lt_or_ge i k with h' | h'
          · exact h'
          · rw [List.getElem?_eq_none (by simpa using h')] at h2; cases h2
        obtain ⟨y, hy, hry⟩ := hex i hi
        rw [List.getElem?_map, List.getElem?_range hi] at h2
        simp only [Option.map_some, hy, Option.getD_some, Option.some.injEq] at h2
        subst h2; exact hry v h1
      · intro j v hv
        have hj : j < k := by
          rcases Nat.lt_or_ge j k with h' | h'
          · exact h'
          · rw [List.getElem?_eq_none (by simpa using h')] at hv; cases hv
        obtain ⟨y, hy, _⟩ := hex j hj
        rw [List.getElem?_map, List.getElem?_range hj] at hv
        simp only [Option.map_some, hy, Option.getD_some, Option.some.injEq] at hv
        subst hv; exact hy
  case eptr c =>
    obtain ⟨l, hl, h⟩ := withO_run h
    obtain ⟨e1, e2⟩ := takeN_eq _ _ _ hl
    refine ⟨l, s, ⟨rfl, rfl⟩, h, by rw [e1]; simp only [List.length_take]; omega, fun {M w ca} I hr => ?_⟩
    simp only [Rel] at hr
    obtain ⟨a, vs, rfl, hs, hr, hat⟩ := hr
    obtain ⟨b, o, sp⟩ := a
    simp only at hs; subst hs
    refine ⟨b, o, vs.take k, rfl, by rw [e1]; exact hr.take k, fun j v hv => ?_⟩
    have hat' : ∀ (l : List Value) (o j : Nat) (v : Value), AtI M.im b o l → l[j]? = some v → M.im b (o + j) = some v := by
      intro l
      induction l with
      | nil => intro o j v _ h; simp at h
      | cons x l ih =>
        intro o j v ⟨h1, h2⟩ h
        cases j with
        | zero => simp at h; subst h; exact h1
        | succ j => simp at h; have := ih (o + 1) j v h2 h; rwa [show o + 1 + j = o + (j + 1) by omega] at this
    have hv' : vs[j]? = some v := by
      rw [List.getElem?_take] at hv
      split at hv
      · exact hv
      · cases hv
    exact (I.im _ _ _ (hat' vs o j v hat hv')).1
  all_goals exact (fail_run h).elim

theorem storeK_run {a : AV} {l : List AV} {K : EM β} (h : (storeK a l K).run call s = some r) :
    ∃ s1, s1.nxt = s.nxt ∧ K.run call s1 = some r ∧ ∀ {M : Mp} {w : World} {ca : Value} {vs : List Value}, Inv B0 w0 M s.h w → Rel M a ca → RelL M l vs →
      ∃ b o, ca = .pointer (some ⟨b, o, none⟩) ∧ (storeCells ⟨b, o, none⟩ vs).run P w = .ok () (w.setCells b o vs) ∧ Inv B0 w0 M s1.h (w.setCells b o vs) := by
  cases a <;> simp only [storeK] at h
  case ptr n off =>
    obtain ⟨b, hb, h⟩ := look_run h
    cases b with
    | amap _ _ => exact (fail_run h).elim
    | siter _ _ => exact (fail_run h).elim
    | cells c sz ex =>
      obtain ⟨hg, h⟩ := guardE_run h
      obtain ⟨_, h⟩ := put_run h
      simp only [Bool.and_eq_true] at hg
      have hg1 : off + l.length ≤ c.length := Nat.le_of_ble_eq_true hg.1
      refine ⟨{ s with h := s.h.set n (some (.cells (spliceL c off l) sz ex)), rd := n :: s.rd, wr := n :: s.wr }, rfl, h, fun {M w ca vs} I hr hl => ?_⟩
      simp only [Rel] at hr
      obtain ⟨z, hz, rfl⟩ := hr
      obtain ⟨z', hz', hbk⟩ := I.blk n _ hb
      rw [hz] at hz'; cases hz'
      obtain ⟨b1, h2, h3, h4⟩ := hbk
      have hlen := hl.length
      have hone := hl.oneCells hg.2
      refine ⟨z.B, z.O + off, rfl, ?_, ?_⟩
      · have := run_storeCells_cells (P := P) z.B (z.O + off) vs 0 w (fun j hj => by
            obtain ⟨⟨v, hv, _⟩, _⟩ := h4 (off + j) (by omega)
            rw [show z.O + off + 0 + j = z.O + (off + j) by omega, hv]; rfl)
          (fun j hj => by
            have := (h4 (off + j) (by omega)).2
            rwa [show z.O + off + 0 + j = z.O + (off + j) by omega]) hone
        simpa using this
      · refine I.write n z c (spliceL c off l) sz ex vs off hz hb (by omega) ?_ ?_ ?_
        · simp only [spliceL, List.length_append, List.length_take, List.length_drop]; omega
        · intro e; rw [(h3 e).1]; simp only [spliceL, List.length_append, List.length_take, List.length_drop]; omega
        · intro j a ha
          unfold spliceL at ha
          by_cases h5 : j < off
          · right
            refine ⟨.inl h5, ?_⟩
            rw [List.getElem?_append_left (by simp; omega), List.getElem?_append_left (by simp; omega), List.getElem?_take_of_lt h5] at ha
            exact ha
          · by_cases h6 : j < off + l.length
            · left
              rw [List.getElem?_append_left (by simp; omega), List.getElem?_append_right (by simp; omega)] at ha
              have e : (List.take off c).length = off := by simp; omega
              rw [e] at ha
              obtain ⟨x, hx, hrx⟩ := hl.get (j - off) a ha
              exact ⟨x, by omega, hx, hrx⟩
            · right
              refine ⟨.inr (by omega), ?_⟩
              rw [List.getElem?_append_right (by simp; omega), List.getElem?_drop] at ha
              have e : off + l.length + (j - (List.take off c ++ l).length) = j := by simp; omega
              rw [e] at ha; exact ha
  all_goals exact (fail_run h).elim

end

end Go.Ab
