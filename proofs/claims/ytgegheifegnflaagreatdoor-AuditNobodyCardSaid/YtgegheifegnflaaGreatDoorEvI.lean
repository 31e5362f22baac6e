/- The abstract evaluator held against the model: slots, and a region in the order of the text. -/
import Derived.Test.YtgegheifegnflaaGreatDoorEvG
import Derived.Test.YtgegheifegnflaaGreatDoorEvH
import Derived.Orders
import Derived.Scope
import Derived.LoopN
namespace Go.Ab
open Go.RowKit

def slotA (t : T AV) (i : Nat) : AV := match t.get i with | some v => v | none => undefA

def RelT (M : Mp) (t : T AV) (tmps : Array Value) : Prop := ∀ i, Rel M (slotA t i) (tmps.getD i undef)

theorem rel_undef (M : Mp) : Rel M undefA undef := by
  simp only [undefA, Rel, RelL]
  exact ⟨[], rfl, rfl⟩

theorem RelT.mono {M M' : Mp} {t : T AV} {tmps : Array Value} (h : M.le M') (r : RelT M t tmps) : RelT M' t tmps := fun i => Rel.mono h _ _ (r i)

theorem operand_rel {M : Mp} {t : T AV} {a : Act} (h : RelT M t a.tmps) {x : Operand} {v : AV} (e : operand t x = some v) : Rel M v (a.eval x) := by
  cases x with
  | tmp i =>
    simp only [operand, Option.some.injEq] at e
    subst e
    exact h i
  | const c => exact ofVal_rel M _ _ _ e
  | global g => simp [operand] at e
  | func f =>
    simp only [operand, Option.some.injEq] at e
    subst e
    simp only [Rel, RelL, Act.eval]
    exact ⟨[], [], rfl, rfl, rfl⟩

theorem operands_rel {M : Mp} {t : T AV} {a : Act} (h : RelT M t a.tmps) : ∀ (l : List Operand) (xs : List AV), operands t l = some xs → RelL M xs (l.map a.eval)
  | [], xs, e => by simp only [operands, Option.some.injEq] at e; subst e; simp [RelL]
  | x :: l, xs, e => by
    simp only [operands] at e
    cases e1 : operand t x with
    | none => rw [e1] at e; cases e
    | some v =>
      cases e2 : operands t l with
      | none => rw [e1, e2] at e; cases e
      | some r =>
        rw [e1, e2] at e
        simp only [Option.some.injEq] at e
        subst e
        simp only [List.map_cons, RelL]
        exact ⟨_, _, rfl, operand_rel h e1, operands_rel h l r e2⟩

theorem rel_bool {M : Mp} {v : AV} {b : Bool} (h : Rel M v (.bool b)) : v = .sc (.bool b) := by
  cases v <;> simp only [Rel] at h
  case sc v => rw [h]
  case slc => obtain ⟨z, _, hz⟩ := h; obtain ⟨a, k, he, _⟩ := hz; cases he
  case ptr => obtain ⟨_, _, h⟩ := h; cases h
  case isl => obtain ⟨_, _, _, h, _⟩ := h; cases h
  case eptr => obtain ⟨_, _, h, _⟩ := h; cases h
  case mp => obtain ⟨_, _, h⟩ := h; cases h
  case fn => obtain ⟨_, _, h, _⟩ := h; cases h
  case ifc => obtain ⟨_, h, _⟩ := h; cases h
  case agg => obtain ⟨_, h, _⟩ := h; cases h
  case tup => obtain ⟨_, h, _⟩ := h; cases h

theorem wanted_rel {M : Mp} {t : T AV} {a : Act} (h : RelT M t a.tmps) (ops : Array Oper) (o : Oper) : Region.wanted o (yielded ops a.tmps) = wantedA ops t o := by
  unfold Region.wanted wantedA
  cases o.guard with
  | none => rfl
  | some g =>
    obtain ⟨j, want⟩ := g
    simp only [yielded]
    cases (ops[j]?).bind (·.dst) with
    | none => rfl
    | some d =>
      simp only [Option.bind_some]
      have hd := h d
      unfold slotA at hd
      by_cases hb : ∃ b, t.get d = some (.sc (.bool b))
      · obtain ⟨b, hb⟩ := hb
        rw [hb] at hd ⊢
        simp only [Rel] at hd
        have : a.tmps[d]? = some (.bool b) := by
          cases e : a.tmps[d]? with
          | none => rw [Array.getD_eq_getD_getElem?, e] at hd; cases hd
          | some c => rw [Array.getD_eq_getD_getElem?, e] at hd; simp only [Option.getD_some] at hd; rw [hd]
        rw [this]
        simp
      · refine Eq.trans (b := false) ?_ (Eq.symm ?_)
        case neg.refine_2 =>
          split
          · rename_i b h'; exact absurd ⟨b, h'⟩ hb
          · rfl
        cases e : a.tmps[d]? with
        | none => rfl
        | some c =>
          rw [Array.getD_eq_getD_getElem?, e] at hd
          simp only [Option.getD_some] at hd
          cases c <;> try rfl
          rename_i b
          exfalso
          have := rel_bool hd
          cases ht : t.get d with
          | none => rw [ht] at this; cases this
          | some v => rw [ht] at this; simp only at this; exact hb ⟨b, by rw [ht, this]⟩

def Fresh (M : Mp) (c c' : Nat) : Prop := ∀ k, c ≤ k → k < c' → M.m k = none

def Grow (M M' : Mp) (c c' : Nat) : Prop := M.le M' ∧ ∀ n, M'.m n ≠ none → M.m n ≠ none ∨ (c ≤ n ∧ n < c')

theorem Grow.refl (M : Mp) (c c' : Nat) : Grow M M c c' := ⟨M.le_refl, fun _ h => .inl h⟩

theorem Grow.trans {M M1 M2 : Mp} {c c1 c2 : Nat} (h : Grow M M1 c c1) (h' : Grow M1 M2 c1 c2) (e : c ≤ c1) (e' : c1 ≤ c2) : Grow M M2 c c2 :=
  ⟨Mp.le_trans h.1 h'.1, fun n hn => by
    rcases h'.2 n hn with k | k
    · rcases h.2 n k with k | k
      · exact .inl k
      · exact .inr ⟨k.1, by omega⟩
    · exact .inr ⟨by omega, k.2⟩⟩

theorem Fresh.next {M M1 : Mp} {c c1 c2 : Nat} (h : Fresh M c c2) (g : Grow M M1 c c1) (e : c ≤ c1) : Fresh M1 c1 c2 := by
  intro k h1 h2
  cases hk : M1.m k with
  | none => rfl
  | some z =>
    rcases g.2 k (by rw [hk]; simp) with hh | hh
    · exact absurd (h k (by omega) h2) hh
    · omega

theorem Fresh.sub {M : Mp} {c c1 c2 c3 : Nat} (h : Fresh M c c3) (e : c ≤ c1) (e' : c2 ≤ c3) : Fresh M c1 c2 := fun k h1 h2 => h k (by omega) (by omega)

/-- an activation, held against slots -/
structure Ok (B0 : Nat) (w0 : World) (nt : Nat) (M : Mp) (t : T AV) (h : T Blk) (a : Act) (w : World) : Prop where
  inv : Inv B0 w0 M h w
  slots : RelT M t a.tmps
  size : nt ≤ a.tmps.size
  defers : a.defers = []

theorem put_rel {B0 : Nat} {w0 : World} {nt : Nat} {M M' : Mp} {t t' : T AV} {h h' : T Blk} {a : Act} {w w' : World} (o : Ok B0 w0 nt M t h a w) (hM : M.le M') (I : Inv B0 w0 M' h' w') {d : Option Tmp} {v : AV} {cv : Value}
    (hp : putA nt t d v = some t') (hv : Rel M' v cv) : Ok B0 w0 nt M' t' h' (a.put d cv) w' := by
  cases d with
  | none =>
    simp only [putA, Option.some.injEq] at hp
    subst hp
    exact ⟨I, o.slots.mono hM, o.size, o.defers⟩
  | some d =>
    simp only [putA] at hp
    cases hd : Nat.blt d nt with
    | false => rw [hd] at hp; simp at hp
    | true =>
      rw [hd] at hp
      simp only [cond_true, Option.some.injEq] at hp
      subst hp
      have hlt : d < a.tmps.size := Nat.lt_of_lt_of_le (Nat.le_of_ble_eq_true hd) o.size
      refine ⟨I, fun i => ?_, by simp [Act.put, o.size], by simpa [Act.put] using o.defers⟩
      unfold slotA
      rw [T.get_set]
      by_cases hi : i = d
      · subst hi
        simp only [if_true]
        have : (a.put (some i) cv).tmps.getD i undef = cv := by simp [Act.put, hlt]
        rw [this]
        exact hv
      · simp only [hi, if_false]
        have : (a.put (some d) cv).tmps.getD i undef = a.tmps.getD i undef := by
          simp [Act.put, Array.getElem?_setIfInBounds_ne (Ne.symm hi)]
        rw [this]
        exact Rel.mono hM _ _ (o.slots i)

section
variable {P : Program} {B0 : Nat} {w0 : World} {E : Env} {call : CallF} (hE : EnvOk P E) (hcall : CallOk P B0 w0 call)
include hE hcall

theorem val_run {ops : Array Oper} {o : Oper} {t : T AV} {s s' : St} {v : AV} (h : val1 E call ops o t s = some (v, s')) :
    s.nxt ≤ s'.nxt ∧ ∀ {M : Mp} {w : World} {a : Act}, Inv B0 w0 M s.h w → RelT M t a.tmps → Fresh M s.nxt s'.nxt → ∀ (K : Act → World → Prop) (Q : Exit → Act → World → Prop),
      (∀ M' w' cv, Grow M M' s.nxt s'.nxt → Inv B0 w0 M' s'.h w' → Rel M' v cv → K (a.put o.dst cv) w') →
      if Region.wanted o (yielded ops a.tmps) then o.wp P a w K Q ∨ (o.asks P a w ∧ LetsOut Q) else K (a.put o.dst undef) w := by
  unfold val1 at h
  split at h
  · rename_i hw
    split at h
    · rename_i xs hxs
      obtain ⟨hm, hr⟩ := op_run hE hcall h
      refine ⟨hm, fun {M w a} I ht hf K Q hK => ?_⟩
      rw [wanted_rel ht, hw]
      simp only [if_true]
      exact .inl (hr I (operands_rel ht _ _ hxs) hf K Q fun M' w' cv h1 h2 h3 h4 => hK M' w' cv ⟨h1, h2⟩ h3 h4)
    · cases h
  · rename_i hw
    simp only [Option.some.injEq, Prod.mk.injEq] at h
    obtain ⟨rfl, rfl⟩ := h
    refine ⟨Nat.le_refl _, fun {M w a} I ht hf K Q hK => ?_⟩
    rw [wanted_rel ht, hw]
    simp only [Bool.false_eq_true, if_false]
    exact hK M w undef (Grow.refl _ _ _) I (rel_undef M)

theorem runOps_run {nt : Nat} {ops : Array Oper} : ∀ (l : List Oper) {t t' : T AV} {s s' : St}, runOps E call nt ops l t s = some (t', s') →
    s.nxt ≤ s'.nxt ∧ ∀ {M : Mp} {w : World} {a : Act}, Ok B0 w0 nt M t s.h a w → Fresh M s.nxt s'.nxt → ∀ (Q : Exit → Act → World → Prop),
      (∀ M' w' a', Grow M M' s.nxt s'.nxt → Ok B0 w0 nt M' t' s'.h a' w' → Q .normal a' w') → wpList P ops Q l a w
  | [], t, t', s, s', h => by
    simp only [runOps, Option.some.injEq, Prod.mk.injEq] at h
    obtain ⟨rfl, rfl⟩ := h
    exact ⟨Nat.le_refl _, fun {M w a} o _ Q hQ => hQ M w a (Grow.refl _ _ _) o⟩
  | o :: l, t, t', s, s', h => by
    simp only [runOps] at h
    cases e : step1 E call nt ops o t s with
    | none => rw [e] at h; cases h
    | some p =>
      obtain ⟨t1, s1⟩ := p
      rw [e] at h
      simp only at h
      obtain ⟨m2, r2⟩ := runOps_run l h
      unfold step1 at e
      cases ev : val1 E call ops o t s with
      | none => rw [ev] at e; cases e
      | some p =>
        obtain ⟨v, s1'⟩ := p
        rw [ev] at e
        simp only at e
        cases ep : putA nt t o.dst v with
        | none => rw [ep] at e; cases e
        | some t1' =>
          rw [ep] at e
          simp only [Option.some.injEq, Prod.mk.injEq] at e
          obtain ⟨rfl, rfl⟩ := e
          obtain ⟨m1, r1⟩ := val_run hE hcall ev
          refine ⟨Nat.le_trans m1 m2, fun {M w a} ok hf Q hQ => ?_⟩
          unfold wpList
          refine r1 ok.inv ok.slots (hf.sub (Nat.le_refl _) m2) _ Q fun M1 w1 cv g1 I1 hv => ?_
          refine r2 (put_rel ok g1.1 I1 ep hv) (hf.next g1 m1) Q fun M2 w2 a2 g2 ok2 => ?_
          exact hQ M2 w2 a2 (g1.trans g2 m1 m2) ok2
end
end Go.Ab
