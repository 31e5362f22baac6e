/- The abstract evaluator: append, slices, and the other operations on slices, held against the model's. -/
import Derived.Test.YtgegheifegnflaaGreatDoorEvD
namespace Go.Ab
open Go.RowKit

/-- what an operation that hands back a value comes to -/
def OutV (B0 : Nat) (w0 : World) (M : Mp) (s s' : St) (v : AV) (res : Result Value) : Prop :=
  ∃ M' w' cv, res = .ok cv w' ∧ M.le M' ∧ (∀ n, M'.m n ≠ none → M.m n ≠ none ∨ (s.nxt ≤ n ∧ n < s'.nxt)) ∧ Inv B0 w0 M' s'.h w' ∧ Rel M' v cv

/-- nothing in memory has turned -/
theorem OutV.of_same {B0 : Nat} {w0 : World} {M : Mp} {s s' : St} {v : AV} {res : Result Value} {w : World} {cv : Value} (I : Inv B0 w0 M s.h w) (hs : s'.h = s.h) (hr : res = .ok cv w) (h : Rel M v cv) : OutV B0 w0 M s s' v res :=
  ⟨M, w, cv, hr, M.le_refl, fun _ h => .inl h, by rw [hs]; exact I, h⟩

section
variable {β : Type} {call : CallF} {s : St} {r : β × St} {P : Program} {B0 : Nat} {w0 : World} {E : Env}

theorem bytes_take (b : ByteArray) (n : Nat) : (b.extract 0 n).data.map (fun c => Value.int .u8 (c.toNat : Int)) = ⟨(b.data.toList.take n).map fun c => Value.int .u8 (c.toNat : Int)⟩ := by
  apply Array.ext'
  simp [ByteArray.data_extract, Array.toList_map]

theorem firstK_run {sz n : Nat} {x : AV} {K : List AV → EM β} (h : (firstK sz n x K).run call s = some r) :
    ∃ l s1, s.like s1 ∧ (K l).run call s1 = some r ∧ l.length = n * sz ∧ ∀ {M : Mp} {w : World} {cx : Value}, Inv B0 w0 M s.h w → Rel M x cx →
      ∃ vs, RelL M l vs ∧ ∀ w1 : World, (∀ p, w1.cell? p = w.cell? p) → (Builtin.firstCells sz n cx).run P w1 = .ok ⟨vs⟩ w1 := by
  unfold firstK at h
  split at h
  · obtain ⟨hn, h2⟩ := guardE_run h
    have hn := Nat.eq_of_beq_eq_true hn
    subst hn
    refine ⟨[], s, ⟨rfl, rfl⟩, h2, by simp, fun {M w cx} I hr => ⟨[], by simp [RelL], fun w1 _ => ?_⟩⟩
    simp only [Rel] at hr; subst hr
    simp [Builtin.firstCells]
  · rename_i b
    obtain ⟨hn, h2⟩ := guardE_run h
    simp only [Bool.and_eq_true] at hn
    have hsz := Nat.eq_of_beq_eq_true hn.1
    have hle := Nat.le_of_ble_eq_true hn.2
    refine ⟨_, s, ⟨rfl, rfl⟩, h2, ?_, fun {M w cx} I hr => ⟨(b.data.toList.take n).map fun c => .int .u8 c.toNat, ?_, fun w1 _ => ?_⟩⟩
    · simp only [List.length_map, List.length_take, Array.length_toList]
      have : b.data.size = b.size := rfl
      rw [hsz]; omega
    · generalize b.data.toList.take n = l
      induction l with
      | nil => simp [RelL]
      | cons c l ih => simp only [List.map_cons, RelL]; exact ⟨_, _, rfl, by simp only [Rel], ih⟩
    · simp only [Rel] at hr; subst hr
      simp only [Builtin.firstCells, Sem.run_pure]
      rw [bytes_take]
  · rename_i m off len cap
    obtain ⟨hn, h2⟩ := guardE_run h
    have hle := Nat.le_of_ble_eq_true hn
    rcases ite_cond_run h2 with ⟨h0, h3⟩ | ⟨h0, h3⟩
    · have h0 := Nat.eq_of_beq_eq_true h0
      refine ⟨[], s, ⟨rfl, rfl⟩, h3, by simp [h0], fun {M w cx} I hr => ⟨[], by simp [RelL], fun w1 _ => ?_⟩⟩
      simp only [Rel] at hr
      obtain ⟨z, hz, a, k, rfl, _⟩ := hr
      subst h0
      simp [Builtin.firstCells, loadCells, loadCellsFrom]
    · have h0 : n ≠ 0 := fun e => by subst e; simp at h0
      obtain ⟨l, s1, hs, h4, hl, hrest⟩ := loadK_run (B0 := B0) (w0 := w0) h3
      refine ⟨l, s1, hs, h4, hl, fun {M w cx} I hr => ?_⟩
      simp only [Rel] at hr
      obtain ⟨z, hz, a, k, rfl, hk, ha, _⟩ := hr
      have ha : a = ⟨z.B, z.O + off, none⟩ := ha.resolve_left (by omega)
      subst ha
      obtain ⟨b, o, vs, e, hrel, hcell⟩ := hrest (ca := .pointer (some ⟨z.B, z.O + off, none⟩)) I (by simp only [Rel]; exact ⟨z, hz, rfl⟩)
      cases e
      refine ⟨vs, hrel, fun w1 hw1 => ?_⟩
      have hlen := hrel.length
      simp only [Builtin.firstCells]
      rw [← hl, ← hlen]
      exact run_loadCells_list w1 _ vs fun j v hv => by rw [Addr.add_none, hw1]; exact hcell j v hv
  · rename_i cs len clip
    obtain ⟨hn, h2⟩ := guardE_run h
    have hle := Nat.le_of_ble_eq_true hn
    rcases ite_cond_run h2 with ⟨h0, h3⟩ | ⟨h0, h3⟩
    · have h0 := Nat.eq_of_beq_eq_true h0
      refine ⟨[], s, ⟨rfl, rfl⟩, h3, by simp [h0], fun {M w cx} I hr => ⟨[], by simp [RelL], fun w1 _ => ?_⟩⟩
      simp only [Rel] at hr
      obtain ⟨a, k, vs, rfl, _⟩ := hr
      subst h0
      simp [Builtin.firstCells, loadCells, loadCellsFrom]
    · obtain ⟨l, s1, hs, h4, hl, hrest⟩ := loadK_run (B0 := B0) (w0 := w0) h3
      refine ⟨l, s1, hs, h4, hl, fun {M w cx} I hr => ?_⟩
      simp only [Rel] at hr
      obtain ⟨a, k, vs, rfl, hk, _, hvs, hsp, hat⟩ := hr
      rcases hsp with hsp | rfl
      · obtain ⟨ab, ao, asp⟩ := a
        simp only at hsp; subst hsp
        obtain ⟨b, o, vs', e, hrel, hcell⟩ := hrest (ca := .pointer (some ⟨ab, ao, none⟩)) I (by simp only [Rel]; exact ⟨_, vs, rfl, rfl, hvs, hat⟩)
        cases e
        refine ⟨vs', hrel, fun w1 hw1 => ?_⟩
        have hlen := hrel.length
        simp only [Builtin.firstCells]
        rw [← hl, ← hlen]
        exact run_loadCells_list w1 _ vs' fun j v hv => by rw [Addr.add_none, hw1]; exact hcell j v hv
      · have hcs : cs = [] := by have := hvs.length; simpa using this.symm
        subst hcs
        simp only [loadK] at h3
        obtain ⟨l', hl', _⟩ := withO_run h3
        obtain ⟨_, e2⟩ := takeN_eq _ _ _ hl'
        simp only [List.length_nil, Nat.le_zero] at e2
        have hl0 : l = [] := by apply List.eq_nil_of_length_eq_zero; omega
        refine ⟨[], by rw [hl0]; simp [RelL], fun w1 _ => ?_⟩
        simp only [Builtin.firstCells]
        rw [e2]; simp [loadCells, loadCellsFrom]
  · exact (fail_run h).elim

theorem lenA_run {a : AV} {n : Nat} (h : lenA a = some n) {M : Mp} {ca : Value} (hr : Rel M a ca) (w : World) : (Builtin.lenOf ca).run P w = .ok n w := by
  unfold lenA at h
  split at h
  · cases h; simp only [Rel] at hr; subst hr; rfl
  · cases h; simp only [Rel] at hr; subst hr; rfl
  · cases h; simp only [Rel] at hr; obtain ⟨z, hz, a, k, rfl, _⟩ := hr; rfl
  · cases h; simp only [Rel] at hr; obtain ⟨a, k, vs, rfl, _⟩ := hr; rfl
  · cases h

end
end Go.Ab
