/- AuditNobody: the row holds: the call answers true for every argument; no condition. -/
import Derived.Test.YtgegheifegnflaaGreatDoorRows
import Derived.Test.YtgegheifegnflaaGreatDoorClosed
import Derived.Test.YtgegheifegnflaaGreatDoorRun
import Derived.WalkKit
import Derived.ProofKit
import Derived.OpenShut
import Derived.Carry
import Derived.Deep.DeepHandedRow
import Derived.Lib.LaidTab
import Derived.KernelRfl
namespace Go.Proofs.YtgegheifegnflaaGreatDoor
open Go.ChangeShapes Go.WideShapes Go.ChangeAt Go.RowKit Go.Ab

set_option maxRecDepth 1000000
theorem own : ownKnob Tryz.prog.godebug = none := by kernel_rfl
theorem laidOut : laidOutB Tryz.prog = true := by kernel_rfl
theorem cells39 : Tryz.prog.cellsOf 39 = 42 := by kernel_rfl
/-- the argument's shape -/
theorem shape39 {W : World} {base : Nat} {v : Value} (h : Value.okWide Tryz.prog W .any base 39 v) : ∃ cs, v = .agg cs ∧ cs.size = 42 := by
  unfold Value.okWide at h
  rw [Tryz.underlying39] at h
  obtain ⟨cs, rfl, hs, _⟩ := h
  exact ⟨cs, rfl, by rw [hs, cells39]⟩

theorem call (W : World) (base : Nat) (v0 : Value) (h0 : Value.okWide Tryz.prog W .any base 39 v0) :
    Calls Tryz.prog 3 #[v0] W fun e W' => e = .returned (.bool true) ∧ Below W.heap.size W W' := by
  obtain ⟨⟨l0⟩, rfl, s0⟩ := shape39 h0
  simp only [List.size_toArray] at s0
  rcases l0 with _ | ⟨p0x0, l0⟩
  · simp at s0
  rcases l0 with _ | ⟨p0x1, l0⟩
  · simp at s0
  rcases l0 with _ | ⟨p0x2, l0⟩
  · simp at s0
  rcases l0 with _ | ⟨p0x3, l0⟩
  · simp at s0
  rcases l0 with _ | ⟨p0x4, l0⟩
  · simp at s0
  rcases l0 with _ | ⟨p0x5, l0⟩
  · simp at s0
  rcases l0 with _ | ⟨p0x6, l0⟩
  · simp at s0
  rcases l0 with _ | ⟨p0x7, l0⟩
  · simp at s0
  rcases l0 with _ | ⟨p0x8, l0⟩
  · simp at s0
  rcases l0 with _ | ⟨p0x9, l0⟩
  · simp at s0
  rcases l0 with _ | ⟨p0x10, l0⟩
  · simp at s0
  rcases l0 with _ | ⟨p0x11, l0⟩
  · simp at s0
  rcases l0 with _ | ⟨p0x12, l0⟩
  · simp at s0
  rcases l0 with _ | ⟨p0x13, l0⟩
  · simp at s0
  rcases l0 with _ | ⟨p0x14, l0⟩
  · simp at s0
  rcases l0 with _ | ⟨p0x15, l0⟩
  · simp at s0
  rcases l0 with _ | ⟨p0x16, l0⟩
  · simp at s0
  rcases l0 with _ | ⟨p0x17, l0⟩
  · simp at s0
  rcases l0 with _ | ⟨p0x18, l0⟩
  · simp at s0
  rcases l0 with _ | ⟨p0x19, l0⟩
  · simp at s0
  rcases l0 with _ | ⟨p0x20, l0⟩
  · simp at s0
  rcases l0 with _ | ⟨p0x21, l0⟩
  · simp at s0
  rcases l0 with _ | ⟨p0x22, l0⟩
  · simp at s0
  rcases l0 with _ | ⟨p0x23, l0⟩
  · simp at s0
  rcases l0 with _ | ⟨p0x24, l0⟩
  · simp at s0
  rcases l0 with _ | ⟨p0x25, l0⟩
  · simp at s0
  rcases l0 with _ | ⟨p0x26, l0⟩
  · simp at s0
  rcases l0 with _ | ⟨p0x27, l0⟩
  · simp at s0
  rcases l0 with _ | ⟨p0x28, l0⟩
  · simp at s0
  rcases l0 with _ | ⟨p0x29, l0⟩
  · simp at s0
  rcases l0 with _ | ⟨p0x30, l0⟩
  · simp at s0
  rcases l0 with _ | ⟨p0x31, l0⟩
  · simp at s0
  rcases l0 with _ | ⟨p0x32, l0⟩
  · simp at s0
  rcases l0 with _ | ⟨p0x33, l0⟩
  · simp at s0
  rcases l0 with _ | ⟨p0x34, l0⟩
  · simp at s0
  rcases l0 with _ | ⟨p0x35, l0⟩
  · simp at s0
  rcases l0 with _ | ⟨p0x36, l0⟩
  · simp at s0
  rcases l0 with _ | ⟨p0x37, l0⟩
  · simp at s0
  rcases l0 with _ | ⟨p0x38, l0⟩
  · simp at s0
  rcases l0 with _ | ⟨p0x39, l0⟩
  · simp at s0
  rcases l0 with _ | ⟨p0x40, l0⟩
  · simp at s0
  rcases l0 with _ | ⟨p0x41, l0⟩
  · simp at s0
  obtain rfl : l0 = [] := List.eq_nil_of_length_eq_zero (by simp only [List.length_cons] at s0; omega)
  exact walk p0x0 p0x1 p0x2 p0x3 p0x4 p0x5 p0x6 p0x7 p0x8 p0x9 p0x10 p0x11 p0x12 p0x13 p0x14 p0x15 p0x16 p0x17 p0x18 p0x19 p0x20 p0x21 p0x22 p0x23 p0x24 p0x25 p0x26 p0x27 p0x28 p0x29 p0x30 p0x31 p0x32 p0x33 p0x34 p0x35 p0x36 p0x37 p0x38 p0x39 p0x40 p0x41 W

theorem contract (H : Type) (enc : TypeId × Value → H) (W : World) (base : Nat) (args : Array Value) (ds gs : List (DataW H)) (before : List MemPlace)
    (hval : ∀ (j : Nat) t v, Tryz.f3.params[j]? = some t → args[j]? = some v → Value.okWide Tryz.prog W .any base t v)
    (hW : DataW.Whole enc Tryz.prog Tryz.f3.params.toList Rows.auditNobodySpec.vars false W args.toList ds gs before) :
    Calls Tryz.prog 3 args W fun e W' => ∃ v, e = .returned v ∧ Rows.auditNobodySpec.post enc Tryz.prog Tryz.f3 false true false false W args v W' := by
  have hW' := hW
  obtain ⟨p, q, hA0, hV, rfl, hfz, hnd⟩ := hW
  have hA : DataW.TrodAll enc Tryz.prog W 0 (fun _ => true) true Tryz.f3.params.toList args.toList ds p := hA0
  rw [Tryz.params3] at hA hval
  obtain ⟨v0, d0, rfl, rfl, h0⟩ := trodAll_one hA
  obtain ⟨rfl, rfl⟩ := trodVars_none hV
  clear hA0
  simp only [List.append_nil] at hW'
  have hlt : ∀ x ∈ p, x.block < W.heap.size := fun x hx => by simpa using hW'.lt x hx
  refine (call W base v0 (hval 0 39 v0 rfl rfl)).mono fun e W' ⟨he, hn⟩ => ?_
  subst he
  have a0 := Below.trod laidOut (by kernel_rfl) (of_decide_eq_true (by kernel_rfl)) h0 hn (fun x hx => hlt x (hx))
  exact ⟨_, rfl, _, _, _, [], p, [], hW', trodAll_mk1 (shut_bool Tryz.underlying4 _), trodAll_mk1 a0, rfl, hn.frame _, fun h => by cases h⟩

/-! ### the witness -/

def lay (cs : Array Value) : Obj → Obj
  | .cells _ t frozen => .cells cs t frozen
  | o => o
noncomputable def laidWorld (os : Os) : World :=
  { World.holding Tryz.prog os ⟨#[], #[], []⟩ with heap := ((((World.holding Tryz.prog os ⟨#[], #[], []⟩).heap.modify 1 (lay #[.int .u64 1, .int .u64 10, .int .u64 100, .int .u64 1000, .int .u64 10000, .int .u64 100000, .int .u64 1000000, .int .u64 10000000, .int .u64 100000000, .int .u64 1000000000, .int .u64 10000000000, .int .u64 100000000000, .int .u64 1000000000000, .int .u64 10000000000000, .int .u64 100000000000000, .int .u64 1000000000000000, .int .u64 10000000000000000, .int .u64 100000000000000000, .int .u64 1000000000000000000, .int .u64 10000000000000000000])).modify 2 (lay #[.int .u8 0, .int .u8 1, .int .u8 28, .int .u8 2, .int .u8 29, .int .u8 14, .int .u8 24, .int .u8 3, .int .u8 30, .int .u8 22, .int .u8 20, .int .u8 15, .int .u8 25, .int .u8 17, .int .u8 4, .int .u8 8, .int .u8 31, .int .u8 27, .int .u8 13, .int .u8 23, .int .u8 21, .int .u8 19, .int .u8 16, .int .u8 7, .int .u8 26, .int .u8 12, .int .u8 18, .int .u8 6, .int .u8 11, .int .u8 5, .int .u8 10, .int .u8 9])).modify 3 (lay #[.int .u8 0, .int .u8 1, .int .u8 56, .int .u8 2, .int .u8 57, .int .u8 49, .int .u8 28, .int .u8 3, .int .u8 61, .int .u8 58, .int .u8 42, .int .u8 50, .int .u8 38, .int .u8 29, .int .u8 17, .int .u8 4, .int .u8 62, .int .u8 47, .int .u8 59, .int .u8 36, .int .u8 45, .int .u8 43, .int .u8 51, .int .u8 22, .int .u8 53, .int .u8 39, .int .u8 33, .int .u8 30, .int .u8 24, .int .u8 18, .int .u8 12, .int .u8 5, .int .u8 63, .int .u8 55, .int .u8 48, .int .u8 27, .int .u8 60, .int .u8 41, .int .u8 37, .int .u8 16, .int .u8 46, .int .u8 35, .int .u8 44, .int .u8 21, .int .u8 52, .int .u8 32, .int .u8 23, .int .u8 11, .int .u8 54, .int .u8 26, .int .u8 40, .int .u8 15, .int .u8 34, .int .u8 20, .int .u8 31, .int .u8 10, .int .u8 25, .int .u8 14, .int .u8 19, .int .u8 9, .int .u8 13, .int .u8 8, .int .u8 7, .int .u8 6])) }
def w0 : Array Value := #[.agg #[.int .i64 0, .int .i64 0, .int .i64 0, .slice none 0 0, .int .i64 0, .string ⟨#[]⟩, .string ⟨#[]⟩, .int .i64 0, .int .i64 0, .string ⟨#[]⟩, .slice none 0 0, .slice none 0 0, .int .i64 0, .int .i64 0, .string ⟨#[]⟩, .slice none 0 0, .slice none 0 0, .bool false, .int .i64 0, .int .i64 0, .string ⟨#[]⟩, .slice none 0 0, .slice none 0 0, .slice none 0 0, .int .i64 0, .int .i64 0, .bool false, .int .i64 0, .int .i64 0, .bool false, .int .i64 0, .int .i64 0, .int .i64 0, .int .i64 0, .string ⟨#[]⟩, .slice none 0 0, .slice none 0 0, .int .i64 0, .string ⟨#[]⟩, .slice none 0 0, .int .i64 0, .slice none 0 0]]
theorem laid_met (os : Os) : laidMet Tryz.prog Rows.auditNobodyRow.laid ((laidWorld os).forCall (fun _ _ => 0) ⟨#[], w0, []⟩).memory :=
  laidMet_of_run' 8 (by kernel_rfl) (by kernel_rfl)
theorem reads (os : Os) {H : Type} (enc : TypeId × Value → H) : ∃ r, DataW.whole enc Tryz.prog ((laidWorld os).forCall (fun _ _ => 0) ⟨#[], w0, []⟩).memory Tryz.f3.params.toList Rows.auditNobodySpec.vars false w0.toList 8 = some r :=
  Option.isSome_iff_exists.1 (by kernel_rfl)

theorem lifted (os : Os) (started : os.Started) (H : Type) (enc : TypeId × Value → H) (F : Stop.Interp) :
    ReturnsInHanded {} Tryz.checked os 3 .any ((OpenSpec.ofChange Rows.auditNobodySpec).preRow enc Tryz.prog Tryz.f3 Rows.auditNobodyRow.domain false Rows.auditNobodyRow.laid) (((OpenSpec.ofChange Rows.auditNobodySpec).at F).post enc Tryz.prog Tryz.f3 false true false false) := by
  obtain ⟨⟨ds, gs, places⟩, hx⟩ := reads os enc
  refine returnsInHanded_of_row (C := Tryz.checked) (s := OpenSpec.ofChange Rows.auditNobodySpec) own started (by kernel_rfl) Tryz.func3
    (witness_row_at (enc := enc) (C := Tryz.checked) false (laidWorld os) w0 rfl (by kernel_rfl) (by kernel_rfl) (by kernel_rfl)
      (OpenSpec.preRow_of_cond 8 hx (by kernel_rfl) (fun k hk => by cases hk) (by kernel_rfl) (laid_met os))) ?_
  intro W base args ds gs before hval hW _ _ _ _ _ _
  exact contract H enc W base args ds gs before hval hW

theorem said : Rows.AuditNobodySaid :=
  OpenClaim.holds_of_cond 3 Tryz.f3 rfl rfl rfl rfl rfl rfl rfl ⟨rfl, rfl, rfl, rfl, rfl⟩ rfl rfl rfl rfl rfl (by kernel_rfl) Tryz.func3 closedFacts
    (of_decide_eq_true (by kernel_rfl)) (by unfold Func.isWrapper; first | (rw [if_pos (by decide +kernel)]; kernel_rfl) | (rw [if_neg (by decide +kernel)]; exact ⟨rfl, rfl⟩))
    (fun os started H enc _ F => by rw [OpenClaim.pre_eq_preRow]; exact lifted os started H enc F)
end Go.Proofs.YtgegheifegnflaaGreatDoor
