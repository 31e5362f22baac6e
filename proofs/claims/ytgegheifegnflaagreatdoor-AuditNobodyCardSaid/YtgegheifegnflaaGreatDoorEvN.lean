/- An environment off a program: what the evaluator is told is so. -/
import Derived.Test.YtgegheifegnflaaGreatDoorEvM
import Derived.Test.YtgegheifegnflaaGreatDoorEvM2
import Derived.Lib.Bytealg
import Derived.Laws.Externs
import Derived.MapKept
namespace Go.Ab
open Go.RowKit

/-! ### types and functions -/

def tyOf (P : Program) (t : TypeId) : Option TyI :=
  match P.info? t with
  | none => none
  | some ti => match P.underlying t with
    | none => none
    | some d => some ⟨d, ti.size, ti.bytes, isAggD d,
        match ti.zero with
        | none => none
        | some zv => match ofVal 400 zv with
          | none => none
          | some z => bif z.cells.length.beq ti.size then some z else none,
        !P.stoodInHeld t && !P.eqGuardType P.depth t⟩

theorem tyOf_ok {P : Program} (t : TypeId) (i : TyI) (h : tyOf P t = some i) : TyOk P t i := by
  unfold tyOf at h
  split at h
  · cases h
  · rename_i ti hti
    split at h
    · cases h
    · rename_i d hd
      simp only [Option.some.injEq] at h
      subst h
      refine ⟨ti, hti, hd, rfl, rfl, rfl, fun z hz => ?_, fun he => by simpa using he⟩
      simp only at hz
      split at hz
      · cases hz
      · rename_i zv hzv
        split at hz
        · cases hz
        · rename_i z' hz'
          cases hb : z'.cells.length.beq ti.size with
          | false => rw [hb] at hz; cases hz
          | true =>
            rw [hb] at hz
            simp only [cond_true, Option.some.injEq] at hz
            subst hz
            exact ⟨zv, hzv, hz', Nat.eq_of_beq_eq_true hb⟩

def fnOf (P : Program) (f : FuncId) : Option Func :=
  match P.funcs[f]? with
  | none => none
  | some fn => match fn.body with
    | none => none
    | some b => bif codeOk b && !(fn.name == "runtime.NumGoroutine") then some fn else none

theorem fnOf_ok {P : Program} (f : FuncId) (fn : Func) (h : fnOf P f = some fn) : P.funcs[f]? = some fn ∧ fn.name ≠ "runtime.NumGoroutine" ∧ ∀ b, fn.body = some b → codeOk b = true := by
  unfold fnOf at h
  split at h
  · cases h
  · rename_i fn' hf
    split at h
    · cases h
    · rename_i b hb
      cases hc : codeOk b && !(fn'.name == "runtime.NumGoroutine") with
      | false => rw [hc] at h; cases h
      | true =>
        rw [hc] at h
        simp only [cond_true, Option.some.injEq] at h
        subst h
        simp only [Bool.and_eq_true, Bool.not_eq_true', beq_eq_false_iff_ne] at hc
        exact ⟨hf, hc.2, fun b' hb' => by rw [hb] at hb'; cases hb'; exact hc.1⟩

/-! ### functions without a text -/

/-- f has no text; e stands for it -/
structure ExtFact (P : Program) (f : FuncId) (e : Array Value → Sem Value) : Prop where
  ex : ∃ fn, P.funcs[f]? = some fn ∧ (fn.name == "runtime.NumGoroutine") = false ∧ fn.body.isNone = true ∧ Extern.findNext fn = none ∧ Extern.find fn = some e

theorem idxB_eq (c : UInt8) : ∀ (l : List UInt8) (k : Nat), idxB c l k = if Lib.indexByte l c < 0 then -1 else (k : Int) + Lib.indexByte l c
  | [], k => by simp [idxB, Lib.indexByte]
  | a :: l, k => by
    have ih := idxB_eq c l (k + 1)
    have hnn : Lib.indexByte l c < 0 ∨ 0 ≤ Lib.indexByte l c := by omega
    simp only [idxB, Lib.indexByte]
    by_cases h : a = c
    · subst h; simp
    · have h' : (a == c) = false := by simpa using h
      simp only [h, if_false, ih]
      simp
      split <;> split <;> first | rfl | omega | (split <;> omega)

theorem cmpB_eq : ∀ a b, cmpB a b = Lib.compareBytes a b
  | [], [] => rfl
  | [], _ :: _ => rfl
  | _ :: _, [] => rfl
  | a :: l, b :: m => by simp only [cmpB, Lib.compareBytes, cmpB_eq l m]

structure Seat where
  ib : List FuncId
  cs : List FuncId
  mc : List FuncId
  so : List (FuncId × List FuncId)
  si : List (FuncId × List FuncId)

def soAt : List (FuncId × List FuncId) → FuncId → Option (List FuncId)
  | [], _ => none
  | (f, gs) :: l, g => bif f.beq g then some gs else soAt l g

theorem soAt_mem : ∀ {l : List (FuncId × List FuncId)} {f : FuncId} {gs : List FuncId}, soAt l f = some gs → (f, gs) ∈ l
  | [], _, _, h => by cases h
  | (f', gs') :: l, f, gs, h => by
    simp only [soAt] at h
    cases hb : Nat.beq f' f with
    | true =>
      rw [hb] at h
      simp only [cond_true, Option.some.injEq] at h
      have := Nat.eq_of_beq_eq_true hb
      subst this; subst h
      exact List.mem_cons_self
    | false =>
      rw [hb] at h
      exact List.mem_cons_of_mem _ (soAt_mem h)

def mkEnv (P : Program) (S : Seat) : Env := {
  fn := fnOf P
  ty := tyOf P
  ext := fun f => bif S.ib.elem f then some .indexByte else bif S.cs.elem f then some .cmpString else bif S.mc.elem f then some .mapsClone else none
  prim := fun f => match soAt S.so f with | some gs => some (sortedS gs) | none => match soAt S.si f with | some gs => some (sortedSZ gs) | none => none }

theorem run_clone {P : Program} {r : Nat} {es : Array MapEntry} {clock : Nat} (t : TypeId) {w : World} (hb : w.heap[r]? = some (.map es clock)) :
    (Extern.MapsClone.clone #[.iface t (.map (some r))]).run P w = .ok (.iface t (.map (some w.heap.size))) (w.alloc (.map es clock)) := by
  have e : Extern.MapsClone.clone #[.iface t (.map (some r))] = (getObj r >>= fun o => match o with
      | .map entries clock => (newObj (.map entries clock) >>= fun n => pure (.iface t (.map (some n))))
      | _ => stuck "maps.clone: a map expected") := rfl
  rw [e]
  simp [MapKept.run_getObj_map hb, Result.andThen, go_sem]

theorem mkEnv_ok {P : Program} {S : Seat} (hmix : P.follows .mixedOrders = true)
    (hib : ∀ f ∈ S.ib, ExtFact P f Extern.BytealgIndexByte.indexByte) (hcs : ∀ f ∈ S.cs, ExtFact P f Extern.BytealgCompare.compare) (hmc : ∀ f ∈ S.mc, ExtFact P f Extern.MapsClone.clone)
    (hso : ∀ p ∈ S.so, ∀ g ∈ p.2, SortedAt P p.1 g) (hsi : ∀ p ∈ S.si, ∀ g ∈ p.2, SortedAtZ P p.1 g) : EnvAll P (mkEnv P S) := {
  ok := ⟨tyOf_ok, fun f k h => by
    simp only [mkEnv] at h
    cases h1 : S.ib.elem f with
    | true =>
      rw [h1] at h
      simp only [cond_true, Option.some.injEq] at h
      subst h
      obtain ⟨fn, g1, g2, g3, g4, g5⟩ := (hib f (by simpa using h1)).ex
      intro a c w
      rw [run_callFunc_extern g1 g2 g3 g4 g5, Lib.run_indexByteString]
      simp only [Result.andThen, goInt, Result.ok.injEq, Next.value.injEq, and_true]
      congr 1
      rw [idxB_eq]
      have : UInt8.ofNat c.toNat = c.toNat.toUInt8 := rfl
      rw [this]
      have hb := Lib.indexByte_ge a.data.toList c.toNat.toUInt8
      split <;> omega
    | false =>
      rw [h1] at h
      cases h2 : S.cs.elem f with
      | true =>
        rw [h2] at h
        simp only [cond_true, cond_false, Option.some.injEq] at h
        subst h
        obtain ⟨fn, g1, g2, g3, g4, g5⟩ := (hcs f (by simpa using h2)).ex
        intro a b w
        rw [run_callFunc_extern g1 g2 g3 g4 g5, Lib.run_compareString]
        simp only [Result.andThen, goInt, cmpB_eq]
      | false =>
        rw [h2] at h
        cases h3 : S.mc.elem f with
        | true =>
          rw [h3] at h
          simp only [cond_true, cond_false, Option.some.injEq] at h
          subst h
          obtain ⟨fn, g1, g2, g3, g4, g5⟩ := (hmc f (by simpa using h3)).ex
          intro t q es clock w hq
          rw [run_callFunc_extern g1 g2 g3 g4 g5, run_clone t hq]
          simp only [Result.andThen]
        | false => rw [h3] at h; cases h⟩
  mixed := hmix
  fn := fnOf_ok
  primFr := fun f p h args => by
    simp only [mkEnv] at h
    split at h
    · simp only [Option.some.injEq] at h
      subst h
      exact fr_sortedS _ args
    · split at h
      · simp only [Option.some.injEq] at h
        subst h
        exact fr_sortedSZ _ args
      · cases h
  primOk := fun B0 w0 f args s v s' h => by
    simp only [mkEnv] at h
    split at h
    · rename_i p hp
      split at hp
      · rename_i gs hgs
        simp only [Option.some.injEq] at hp
        subst hp
        exact sorted_ok (fun g hg => hso _ (soAt_mem hgs) g hg) B0 w0 h
      · split at hp
        · rename_i gs hgs
          simp only [Option.some.injEq] at hp
          subst hp
          exact sorted_okZ (fun g hg => hsi _ (soAt_mem hgs) g hg) B0 w0 h
        · cases hp
    · cases h }
end Go.Ab
