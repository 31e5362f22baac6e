/- The abstract evaluator: lengths, copies, conversions, clear, held against the model's. -/
import Derived.Test.YtgegheifegnflaaGreatDoorEvE
import Derived.Laws.IdiomStrings
namespace Go.Ab
open Go.RowKit

section
variable {β : Type} {call : CallF} {s : St} {r : β × St} {P : Program} {B0 : Nat} {w0 : World} {E : Env}

theorem getMap {w : World} {q : Nat} {es : Array MapEntry} {clock : Nat} (h : w.heap[q]? = some (.map es clock)) : (getObj q).run P w = .ok (.map es clock) w := by
  simp [getObj, Sem.run, h]

theorem setMap {w : World} {q : Nat} {es : Array MapEntry} {clock : Nat} (o : Obj) (h : w.heap[q]? = some (.map es clock)) : (setObj q o).run P w = .ok () { w with heap := w.heap.setIfInBounds q o } := by
  simp [setObj, Sem.run, h]

theorem flatten_get (l : List Value) : ∀ (n i : Nat), i < n * l.length → (List.replicate n l).flatten[i]? = l[i % l.length]?
  | 0, i, h => by simp at h
  | n + 1, i, h => by
    rw [List.replicate_succ, List.flatten_cons]
    by_cases hi : i < l.length
    · rw [List.getElem?_append_left hi, Nat.mod_eq_of_lt hi]
    · rw [List.getElem?_append_right (by omega), flatten_get l n (i - l.length) (by rw [Nat.succ_mul] at h; omega)]
      congr 1
      exact (Nat.mod_eq_sub_mod (by omega)).symm

theorem zeroCells_flat (l : List Value) (n : Nat) : (Builtin.zeroCells ⟨l⟩ n).toList = (List.replicate n l).flatten := by
  have hlen : ((List.replicate n l).flatten).length = n * l.length := by simp
  apply List.ext_getElem?
  intro i
  unfold Builtin.zeroCells
  by_cases hi : i < n * l.length
  · rw [flatten_get l n i hi]
    have hl : 0 < l.length := by
      rcases Nat.eq_zero_or_pos l.length with e | e
      · rw [e] at hi; simp at hi
      · exact e
    have hm : i % l.length < l.length := Nat.mod_lt _ hl
    simp only [List.size_toArray, Array.toList_map, Array.toList_range, List.getElem?_map, List.getElem?_range hi, Option.map_some]
    rw [List.getElem?_eq_getElem hm]
    simp [hm]
  · rw [List.getElem?_eq_none (by simpa using hi), List.getElem?_eq_none (by rw [hlen]; omega)]

theorem RelL.repl {M : Mp} {l : List AV} {v : List Value} (h : RelL M l v) : ∀ n, RelL M (repl n l) (List.replicate n v).flatten
  | 0 => by simp [Ab.repl, RelL]
  | n + 1 => by
    have := RelL.repl h n
    unfold Ab.repl at this ⊢
    simp only [List.replicate_succ, List.flatten_cons]
    exact h.append this

theorem EsRel.length {M : Mp} : ∀ {a : List (AV × AV × Nat)} {c : List MapEntry}, EsRel M a c → c.length = a.length
  | [], _, e => by simp only [EsRel] at e; subst e; rfl
  | _ :: l, _, e => by simp only [EsRel] at e; obtain ⟨x, r, rfl, _, _, _, e3⟩ := e; simp [EsRel.length e3]

/-- a map that is known -/
theorem map_at {M : Mp} {h : T Blk} {w : World} (I : Inv B0 w0 M h w) {n : Nat} {es : List (AV × AV × Nat)} {clock : Nat} (hb : h.get n = some (.amap es clock)) {c : Value} (hr : Rel M (.mp n) c) :
    ∃ z ces, c = .map (some z.B) ∧ M.m n = some z ∧ z.O = 0 ∧ z.K = 1 ∧ w.heap[z.B]? = some (.map ces clock) ∧ EsRel M es ces.toList := by
  simp only [Rel] at hr
  obtain ⟨z, hz, rfl⟩ := hr
  obtain ⟨z', hz', hbk⟩ := I.blk n _ hb
  rw [hz] at hz'; cases hz'
  obtain ⟨h1, h2, ces, h3, h4⟩ := hbk
  exact ⟨z, ces, rfl, hz, h1, h2, h3, h4⟩

theorem lenK_run (hty : ∀ t i, E.ty t = some i → TyOk P t i) {t : TypeId} {x : AV} {K : AV → EM β} (hh : (lenK E t x K).run call s = some r) :
    ∃ v s1, s.like s1 ∧ (K v).run call s1 = some r ∧ ∀ {M : Mp} {w : World} {cx : Value} (ats : Array TypeId) (ty : TypeId), ats[0]? = some t → Inv B0 w0 M s.h w → Rel M x cx →
      ∃ cv, Rel M v cv ∧ (Builtin.len_ ats ty #[cx]).run P w = .ok cv w := by
  unfold lenK at hh
  split at hh
  · rename_i n e hd
    have hu := E_d hty hd
    exact ⟨_, s, ⟨rfl, rfl⟩, hh, fun {M w cx} ats ty ha I hx => ⟨goInt n, by simp only [Rel], by simp [Builtin.len_, ha, run_underlying hu]⟩⟩
  · rename_i k e hd
    have hu := E_d hty hd
    refine ⟨_, s, ⟨rfl, rfl⟩, hh, fun {M w cx} ats ty ha I hx => ⟨goInt 0, by simp only [Rel], ?_⟩⟩
    simp only [Rel] at hx; subst hx
    simp [Builtin.len_, ha, run_underlying hu]
  · rename_i k e n hd
    have hu := E_d hty hd
    obtain ⟨b, hb, hh⟩ := look_run hh
    split at hh
    · rename_i es clock
      refine ⟨_, { s with rd := n :: s.rd }, ⟨rfl, rfl⟩, hh, fun {M w cx} ats ty ha I hx => ⟨goInt es.length, by simp only [Rel], ?_⟩⟩
      obtain ⟨z, ces, rfl, hz, h1, h2, h3, h4⟩ := map_at I hb hx
      have := h4.length
      simp [Builtin.len_, ha, run_underlying hu, getMap h3, ← this]
    · exact (fail_run hh).elim
  · rename_i b hd
    have hu := E_d hty hd
    refine ⟨_, s, ⟨rfl, rfl⟩, hh, fun {M w cx} ats ty ha I hx => ⟨goInt b.size, by simp only [Rel], ?_⟩⟩
    simp only [Rel] at hx; subst hx
    simp [Builtin.len_, ha, run_underlying hu]
  · rename_i e hd
    have hu := E_d hty hd
    refine ⟨_, s, ⟨rfl, rfl⟩, hh, fun {M w cx} ats ty ha I hx => ⟨goInt 0, by simp only [Rel], ?_⟩⟩
    simp only [Rel] at hx; subst hx
    simp [Builtin.len_, ha, run_underlying hu]
  · rename_i e m off n k hd
    have hu := E_d hty hd
    refine ⟨_, s, ⟨rfl, rfl⟩, hh, fun {M w cx} ats ty ha I hx => ⟨goInt n, by simp only [Rel], ?_⟩⟩
    simp only [Rel] at hx; obtain ⟨z, hz, a, k, rfl, _⟩ := hx
    simp [Builtin.len_, ha, run_underlying hu]
  · rename_i e cs n k hd
    have hu := E_d hty hd
    refine ⟨_, s, ⟨rfl, rfl⟩, hh, fun {M w cx} ats ty ha I hx => ⟨goInt n, by simp only [Rel], ?_⟩⟩
    simp only [Rel] at hx; obtain ⟨a, k, vs, rfl, _⟩ := hx
    simp [Builtin.len_, ha, run_underlying hu]
  · exact (fail_run hh).elim

theorem capK_run (hty : ∀ t i, E.ty t = some i → TyOk P t i) {t : TypeId} {x : AV} {K : AV → EM β} (hh : (capK E t x K).run call s = some r) :
    ∃ v, (K v).run call s = some r ∧ ∀ {M : Mp} {w : World} {cx : Value} (ats : Array TypeId) (ty : TypeId), ats[0]? = some t → Rel M x cx →
      ∃ cv, Rel M v cv ∧ (Builtin.cap_ ats ty #[cx]).run P w = .ok cv w := by
  unfold capK at hh
  split at hh
  · rename_i e hd
    have hu := E_d hty hd
    refine ⟨_, hh, fun {M w cx} ats ty ha hx => ⟨goInt 0, by simp only [Rel], ?_⟩⟩
    simp only [Rel] at hx; subst hx
    simp [Builtin.cap_, ha, run_underlying hu]
  · rename_i e m off n c hd
    have hu := E_d hty hd
    refine ⟨_, hh, fun {M w cx} ats ty ha hx => ⟨goInt c, by simp only [Rel], ?_⟩⟩
    obtain ⟨z, a, hz, rfl, _⟩ := slc_some hx
    simp [Builtin.cap_, ha, run_underlying hu]
  · rename_i e cs n hd
    have hu := E_d hty hd
    refine ⟨_, hh, fun {M w cx} ats ty ha hx => ⟨goInt n, by simp only [Rel], ?_⟩⟩
    simp only [Rel] at hx; obtain ⟨a, k, vs, rfl, _, hk, _⟩ := hx
    have := hk trivial
    subst this
    simp [Builtin.cap_, ha, run_underlying hu]
  · exact (fail_run hh).elim

theorem copyK_run (hty : ∀ t i, E.ty t = some i → TyOk P t i) {t : TypeId} {d x : AV} {K : AV → EM β} (hh : (copyK E t d x K).run call s = some r) :
    ∃ v s1, s1.nxt = s.nxt ∧ (K v).run call s1 = some r ∧ ∀ {M : Mp} {w : World} {cd cx : Value} (ats : Array TypeId) (ty : TypeId), ats[0]? = some t → Inv B0 w0 M s.h w → Rel M d cd → Rel M x cx →
      ∃ cv w', Rel M v cv ∧ (Builtin.copy_ ats ty #[cd, cx]).run P w = .ok cv w' ∧ Inv B0 w0 M s1.h w' := by
  unfold copyK at hh
  split at hh
  case h_2 => exact (fail_run hh).elim
  rename_i elem hd
  have hu := E_d hty hd
  obtain ⟨ei, hei, h1⟩ := withO_run hh
  obtain ⟨ld, hld, h2⟩ := withO_run h1
  obtain ⟨lx, hlx, h3⟩ := withO_run h2
  clear hh h1 h2
  have hsize : ∀ w, (sizeOf elem).run P w = .ok ei.size w := fun w => size_run (hty elem ei hei) w
  rcases ite_cond_run h3 with ⟨h0, h4⟩ | ⟨h0, h4⟩
  · have h0 := Nat.eq_of_beq_eq_true h0
    have hns : ∀ b, d ≠ .sc (.string b) := by intro b e; subst e; exact fail_run h4
    have h5 : (K (.sc (goInt 0))).run call s = some r := by
      split at h4
      · exact (fail_run h4).elim
      · exact h4
    refine ⟨_, s, rfl, h5, fun {M w cd cx} ats ty ha I hdd hx => ⟨goInt 0, w, by simp only [Rel], ?_, I⟩⟩
    have hlen := lenA_run (P := P) hlx hx w
    have hf : (Builtin.firstCells ei.size 0 cx).run P w = .ok ⟨[]⟩ w := by
      unfold lenA at hlx
      split at hlx
      · simp only [Rel] at hx; subst hx; simp [Builtin.firstCells]
      · simp only [Rel] at hx; subst hx; simp [Builtin.firstCells]
      · simp only [Rel] at hx; obtain ⟨z, hz, b, k, rfl, _⟩ := hx; simp [Builtin.firstCells, loadCells, loadCellsFrom]
      · simp only [Rel] at hx; obtain ⟨b, k, vs, rfl, _⟩ := hx; simp [Builtin.firstCells, loadCells, loadCellsFrom]
      · cases hlx
    have hcd : ∃ base cap, cd = .slice base ld cap := by
      unfold lenA at hld
      split at hld
      · simp only [Rel] at hdd; subst hdd; cases hld; exact ⟨_, _, rfl⟩
      · exact absurd rfl (hns _)
      · cases hld; simp only [Rel] at hdd; obtain ⟨z, hz, b, k, rfl, _⟩ := hdd; exact ⟨_, _, rfl⟩
      · cases hld; simp only [Rel] at hdd; obtain ⟨b, k, vs, rfl, _⟩ := hdd; exact ⟨_, _, rfl⟩
      · cases hld
    obtain ⟨base, cap, rfl⟩ := hcd
    cases base <;> simp [Builtin.copy_, ha, run_underlying hu, hsize, hlen, h0, hf, storeCells]
  · have hn0 : Nat.min lx ld ≠ 0 := fun e => by rw [e] at h0; simp at h0
    obtain ⟨c, s1, ⟨e1, e2⟩, h5, hcl, hrest⟩ := firstK_run (P := P) (B0 := B0) (w0 := w0) h4
    split at h5
    · rename_i m off l k
      obtain ⟨s2, hs2, h6, hst⟩ := storeK_run (P := P) (B0 := B0) (w0 := w0) h5
      refine ⟨_, s2, by omega, h6, fun {M w cd cx} ats ty ha I hdd hx => ?_⟩
      have hlen := lenA_run (P := P) hlx hx w
      obtain ⟨vs, hvs, hf⟩ := hrest I hx
      have hll : l = ld := by simpa [lenA] using hld
      subst hll
      simp only [Rel, slcRel] at hdd
      obtain ⟨z, hz, a, kk, rfl, hk, haa, _⟩ := hdd
      have hle : Nat.min lx l ≤ l := Nat.min_le_right _ _
      have haa := haa.resolve_left (by omega)
      subst haa
      obtain ⟨b, o, e, hrun, I2⟩ := hst (ca := .pointer (some ⟨z.B, z.O + off, none⟩)) (by rw [e1]; exact I) (by simp only [Rel]; exact ⟨z, hz, rfl⟩) hvs
      cases e
      refine ⟨goInt (Nat.min lx l), _, by simp only [Rel], ?_, I2⟩
      simp [Builtin.copy_, ha, run_underlying hu, hsize, hlen, hf w fun _ => rfl, hrun]
    · exact (fail_run h5).elim

theorem clearK_run (hty : ∀ t i, E.ty t = some i → TyOk P t i) {t : TypeId} {x : AV} {K : AV → EM β} (hh : (clearK E t x K).run call s = some r) :
    ∃ v s1, s1.nxt = s.nxt ∧ (K v).run call s1 = some r ∧ ∀ {M : Mp} {w : World} {cx : Value} (ats : Array TypeId) (ty : TypeId), ats[0]? = some t → Inv B0 w0 M s.h w → Rel M x cx →
      ∃ cv w', Rel M v cv ∧ (Builtin.clear_ ats ty #[cx]).run P w = .ok cv w' ∧ Inv B0 w0 M s1.h w' := by
  have hun : ∀ M, Rel M (AV.tup []) (.tuple #[]) := fun M => by simp only [Rel]; exact ⟨[], rfl, by simp only [RelL]⟩
  unfold clearK at hh
  split at hh
  · rename_i e n off len k hd
    have hu := E_d hty hd
    rcases ite_cond_run hh with ⟨h0, h4⟩ | ⟨h0, h4⟩
    · have h0 := Nat.eq_of_beq_eq_true h0
      subst h0
      refine ⟨_, s, rfl, h4, fun {M w cx} ats ty ha I hx => ⟨.tuple #[], w, hun M, ?_, I⟩⟩
      simp only [Rel] at hx; obtain ⟨z, hz, a, k, rfl, _⟩ := hx
      simp [Builtin.clear_, ha, run_underlying hu]
    · have hn0 : len ≠ 0 := fun e => by subst e; simp at h0
      obtain ⟨ei, hei, h5⟩ := withO_run h4
      obtain ⟨zz, hzz, h6⟩ := withO_run h5
      obtain ⟨s1, hs1, h7, hst⟩ := storeK_run (P := P) (B0 := B0) (w0 := w0) h6
      refine ⟨_, s1, hs1, h7, fun {M w cx} ats ty ha I hx => ?_⟩
      obtain ⟨ti, hti, _, esz, eby, _, hz0, _⟩ := hty e ei hei
      obtain ⟨zv, hzv, hzo, hzl⟩ := hz0 zz hzz
      obtain ⟨zc, hzc, hzr⟩ := Rel.cells (ofVal_rel M 400 zv zz hzo) (by intro l e; subst e; unfold ofVal at hzo; split at hzo <;> first | (cases hzo; done) | (split at hzo <;> cases hzo))
      simp only [Rel, slcRel] at hx
      obtain ⟨z, hz, a, kk, rfl, hk, haa, _⟩ := hx
      have haa := haa.resolve_left (by omega)
      subst haa
      have hrep : RelL M (repl len zz.cells) (List.replicate len zc).flatten := hzr.repl len
      obtain ⟨b, o, e, hrun, I2⟩ := hst (ca := .pointer (some ⟨z.B, z.O + off, none⟩)) I (by simp only [Rel]; exact ⟨z, hz, rfl⟩) hrep
      cases e
      refine ⟨.tuple #[], _, hun M, ?_, I2⟩
      have hzl' : zc.length = ei.size := by rw [hzr.length]; exact hzl
      have hcells : (Builtin.zeroCells zv.cells len).toList = (List.replicate len zc).flatten := by
        rw [hzc]; exact zeroCells_flat zc len
      obtain ⟨len', rfl⟩ : ∃ q, len = q + 1 := ⟨len - 1, by omega⟩
      simp [Builtin.clear_, ha, run_underlying hu, zeroValue, typeInfo, hti, hzv, hcells, hrun]
  · rename_i e hd
    have hu := E_d hty hd
    refine ⟨_, s, rfl, hh, fun {M w cx} ats ty ha I hx => ⟨.tuple #[], w, hun M, ?_, I⟩⟩
    simp only [Rel] at hx; subst hx
    simp [Builtin.clear_, ha, run_underlying hu]
  · rename_i k e n hd
    have hu := E_d hty hd
    obtain ⟨b, hb, h2⟩ := look_run hh
    split at h2
    · rename_i es clock
      obtain ⟨_, h3⟩ := put_run h2
      refine ⟨_, { s with h := s.h.set n (some (.amap [] clock)), rd := n :: s.rd, wr := n :: s.wr }, rfl, h3, fun {M w cx} ats ty ha I hx => ?_⟩
      obtain ⟨z, ces, rfl, hz, g1, g2, g3, g4⟩ := map_at I hb hx
      have hlt := (I.base n z hz).2
      refine ⟨.tuple #[], _, hun M, ?_, I.setObj n z _ _ (.map #[] clock) hz hb g1 g2 ⟨_, g3, by simp⟩ (by simp) ⟨g1, g2, #[], by simp [hlt], by simp only [EsRel]⟩⟩
      simp [Builtin.clear_, ha, run_underlying hu, getMap g3, setMap _ g3]
    · exact (fail_run h2).elim
  · exact (fail_run hh).elim
end
end Go.Ab
