/- A call that is known hands on: a function whose call comes to true is taken as one step. -/
import Derived.Test.YtgegheifegnflaaGreatDoorEvN
namespace Go.Ab
open Go.RowKit

def isT : Option (AV × St) → Bool
  | some (.sc (.bool true), _) => true
  | _ => false

theorem of_isT {x : Option (AV × St)} (h : isT x = true) : ∃ s', x = some (.sc (.bool true), s') := by
  unfold isT at h
  split at h
  · exact ⟨_, rfl⟩
  · cases h

def trueP (args : List AV) (s : St) : Option (AV × St) := match args with | [] => some (.sc (.bool true), s) | _ => none

def withTrue (E : Env) (f : FuncId) : Env := { E with prim := fun g => bif g.beq f then some trueP else E.prim g }

theorem fr_trueP (args : List AV) : Fr (trueP args) := by
  cases args with
  | nil => exact fr_pure (AV.sc (.bool true))
  | cons a l => exact fr_none

theorem withTrue_ok {P : Program} {E : Env} {f : FuncId} (hA : EnvAll P E) (hf : ∃ fn, P.funcs[f]? = some fn ∧ fn.body.isSome = true ∧ fn.name ≠ "runtime.NumGoroutine")
    (hc : ∀ w, Calls P f #[] w fun e w' => e = .returned (.bool true) ∧ Below w.heap.size w w') : EnvAll P (withTrue E f) := {
  ok := ⟨hA.ok.ty, hA.ok.ext⟩
  mixed := hA.mixed
  fn := hA.fn
  primFr := fun g p h args => by
    simp only [withTrue] at h
    cases hb : Nat.beq g f with
    | true =>
      rw [hb] at h
      simp only [cond_true, Option.some.injEq] at h
      subst h
      exact fr_trueP args
    | false => rw [hb] at h; exact hA.primFr g p h args
  primOk := fun B0 w0 g args s v s' h => by
    simp only [withTrue] at h
    cases hb : Nat.beq g f with
    | true =>
      have := Nat.eq_of_beq_eq_true hb
      subst this
      rw [hb] at h
      simp only [cond_true] at h
      unfold trueP at h
      split at h
      · simp only [Option.some.injEq, Prod.mk.injEq] at h
        obtain ⟨rfl, rfl⟩ := h
        refine ⟨Nat.le_refl _, fun M w cargs I hr _ => ⟨hf, ?_⟩⟩
        simp only [RelL] at hr
        subst hr
        refine (hc w).mono ?_
        rintro e w' ⟨rfl, hb⟩
        exact ⟨_, M, rfl, M.le_refl, fun _ h => .inl h, I.grow hb, by simp only [Rel]⟩
      · cases h
    | false => rw [hb] at h; exact hA.primOk B0 w0 g args s v s' h }
end Go.Ab
