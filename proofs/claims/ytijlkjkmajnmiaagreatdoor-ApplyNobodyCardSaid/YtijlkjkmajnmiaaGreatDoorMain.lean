/- Law 15, ApplyNobody: the call answers true for every argument; no condition. The lives half is run by the evaluator of Ev*.lean in the kernel. -/
import Derived.Test.YtijlkjkmajnmiaaGreatDoorCards
import Derived.Test.YtijlkjkmajnmiaaGreatDoorTie
import Derived.Test.YtijlkjkmajnmiaaGreatDoorSort
import Derived.WalkKit
import Derived.ProofKit
import Derived.OpenShut
import Derived.Carry
import Derived.Deep.DeepHandedRow
import Derived.Lib.LaidTab
import Derived.KernelRfl
namespace Go.Proofs.YtijlkjkmajnmiaaGreatDoor
open Go.ChangeShapes Go.WideShapes Go.ChangeAt Go.RowKit Go.Ab

set_option maxRecDepth 1000000
noncomputable def E1 : Env := mkEnv Tryz.prog ⟨[200], [198], [67], [(54, [86])]⟩
noncomputable def E2 : Env := withTrue E1 6

theorem e1 : EnvAll Tryz.prog E1 := by
  refine mkEnv_ok (by kernel_rfl) ?_ ?_ ?_ ?_
  · intro f hf
    obtain rfl : f = 200 := by simpa using hf
    exact ⟨_, Tryz.func200, by kernel_rfl, by kernel_rfl, by kernel_rfl, by kernel_rfl⟩
  · intro f hf
    obtain rfl : f = 198 := by simpa using hf
    exact ⟨_, Tryz.func198, by kernel_rfl, by kernel_rfl, by kernel_rfl, by kernel_rfl⟩
  · intro f hf
    obtain rfl : f = 67 := by simpa using hf
    exact ⟨_, Tryz.func67, by kernel_rfl, by kernel_rfl, by kernel_rfl, by kernel_rfl⟩
  · intro p hp g hg
    obtain rfl : p = (54, [86]) := by simpa using hp
    obtain rfl : g = 86 := by simpa using hg
    exact sorted54

theorem livesRun : isT (callA E1 100000 1000 6 [] ⟨.leaf, 0, [], []⟩) = true := by kernel_rfl

theorem livesCall (w : World) : Calls Tryz.prog 6 #[] w fun e w' => e = .returned (.bool true) ∧ Below w.heap.size w w' := by
  obtain ⟨s', h⟩ := of_isT livesRun
  exact closed_call e1 h w (cargs := []) (by simp [RelL])

theorem e2 : EnvAll Tryz.prog E2 :=
  withTrue_ok e1 ⟨_, Tryz.func6, by kernel_rfl, by
    have h : (Tryz.f6.name == "runtime.NumGoroutine") = false := by kernel_rfl
    simpa using h⟩ livesCall

/-! ### the law's own call, by the kind of the entry -/

theorem run_n (n : Nat) (x0 x1 x2 x3 x4 x5 x6 x7 x8 x9 x10 x11 x12 x13 x14 x15 x16 x17 x18 x19 x20 x21 y0 y2 y3 y4 y5 y6 y7 y8 y9 y10 y11 y12 y13 y14 y15 y16 : Value) : isT (callA E2 100 100 3 [.agg [.sc x0, .sc x1, .sc x2, .sc x3, .sc x4, .sc x5, .sc x6, .sc x7, .sc x8, .sc x9, .sc x10, .sc x11, .sc x12, .sc x13, .sc x14, .sc x15, .sc x16, .sc x17, .sc x18, .sc x19, .sc x20, .sc x21], .agg [.sc y0, .sc (.int .i64 (.negSucc n)), .sc y2, .sc y3, .sc y4, .sc y5, .sc y6, .sc y7, .sc y8, .sc y9, .sc y10, .sc y11, .sc y12, .sc y13, .sc y14, .sc y15, .sc y16]] ⟨.leaf, 0, [], []⟩) = true := by kernel_rfl
theorem run_0 (x0 x1 x2 x3 x4 x5 x6 x7 x8 x9 x10 x11 x12 x13 x14 x15 x16 x17 x18 x19 x20 x21 y0 y2 y3 y4 y5 y6 y7 y8 y9 y10 y11 y12 y13 y14 y15 y16 : Value) : isT (callA E2 100 100 3 [.agg [.sc x0, .sc x1, .sc x2, .sc x3, .sc x4, .sc x5, .sc x6, .sc x7, .sc x8, .sc x9, .sc x10, .sc x11, .sc x12, .sc x13, .sc x14, .sc x15, .sc x16, .sc x17, .sc x18, .sc x19, .sc x20, .sc x21], .agg [.sc y0, .sc (.int .i64 (.ofNat 0)), .sc y2, .sc y3, .sc y4, .sc y5, .sc y6, .sc y7, .sc y8, .sc y9, .sc y10, .sc y11, .sc y12, .sc y13, .sc y14, .sc y15, .sc y16]] ⟨.leaf, 0, [], []⟩) = true := by kernel_rfl
theorem run_1 (x0 x1 x2 x3 x4 x5 x6 x7 x8 x9 x10 x11 x12 x13 x14 x15 x16 x17 x18 x19 x20 x21 y0 y2 y3 y4 y5 y6 y7 y8 y9 y10 y11 y12 y13 y14 y15 y16 : Value) : isT (callA E2 100 100 3 [.agg [.sc x0, .sc x1, .sc x2, .sc x3, .sc x4, .sc x5, .sc x6, .sc x7, .sc x8, .sc x9, .sc x10, .sc x11, .sc x12, .sc x13, .sc x14, .sc x15, .sc x16, .sc x17, .sc x18, .sc x19, .sc x20, .sc x21], .agg [.sc y0, .sc (.int .i64 (.ofNat 1)), .sc y2, .sc y3, .sc y4, .sc y5, .sc y6, .sc y7, .sc y8, .sc y9, .sc y10, .sc y11, .sc y12, .sc y13, .sc y14, .sc y15, .sc y16]] ⟨.leaf, 0, [], []⟩) = true := by kernel_rfl
theorem run_2 (x0 x1 x2 x3 x4 x5 x6 x7 x8 x9 x10 x11 x12 x13 x14 x15 x16 x17 x18 x19 x20 x21 y0 y2 y3 y4 y5 y6 y7 y8 y9 y10 y11 y12 y13 y14 y15 y16 : Value) : isT (callA E2 100 100 3 [.agg [.sc x0, .sc x1, .sc x2, .sc x3, .sc x4, .sc x5, .sc x6, .sc x7, .sc x8, .sc x9, .sc x10, .sc x11, .sc x12, .sc x13, .sc x14, .sc x15, .sc x16, .sc x17, .sc x18, .sc x19, .sc x20, .sc x21], .agg [.sc y0, .sc (.int .i64 (.ofNat 2)), .sc y2, .sc y3, .sc y4, .sc y5, .sc y6, .sc y7, .sc y8, .sc y9, .sc y10, .sc y11, .sc y12, .sc y13, .sc y14, .sc y15, .sc y16]] ⟨.leaf, 0, [], []⟩) = true := by kernel_rfl
theorem run_3 (x0 x1 x2 x3 x4 x5 x6 x7 x8 x9 x10 x11 x12 x13 x14 x15 x16 x17 x18 x19 x20 x21 y0 y2 y3 y4 y5 y6 y7 y8 y9 y10 y11 y12 y13 y14 y15 y16 : Value) : isT (callA E2 100 100 3 [.agg [.sc x0, .sc x1, .sc x2, .sc x3, .sc x4, .sc x5, .sc x6, .sc x7, .sc x8, .sc x9, .sc x10, .sc x11, .sc x12, .sc x13, .sc x14, .sc x15, .sc x16, .sc x17, .sc x18, .sc x19, .sc x20, .sc x21], .agg [.sc y0, .sc (.int .i64 (.ofNat 3)), .sc y2, .sc y3, .sc y4, .sc y5, .sc y6, .sc y7, .sc y8, .sc y9, .sc y10, .sc y11, .sc y12, .sc y13, .sc y14, .sc y15, .sc y16]] ⟨.leaf, 0, [], []⟩) = true := by kernel_rfl
theorem run_4 (x0 x1 x2 x3 x4 x5 x6 x7 x8 x9 x10 x11 x12 x13 x14 x15 x16 x17 x18 x19 x20 x21 y0 y2 y3 y4 y5 y6 y7 y8 y9 y10 y11 y12 y13 y14 y15 y16 : Value) : isT (callA E2 100 100 3 [.agg [.sc x0, .sc x1, .sc x2, .sc x3, .sc x4, .sc x5, .sc x6, .sc x7, .sc x8, .sc x9, .sc x10, .sc x11, .sc x12, .sc x13, .sc x14, .sc x15, .sc x16, .sc x17, .sc x18, .sc x19, .sc x20, .sc x21], .agg [.sc y0, .sc (.int .i64 (.ofNat 4)), .sc y2, .sc y3, .sc y4, .sc y5, .sc y6, .sc y7, .sc y8, .sc y9, .sc y10, .sc y11, .sc y12, .sc y13, .sc y14, .sc y15, .sc y16]] ⟨.leaf, 0, [], []⟩) = true := by kernel_rfl
theorem run_b (n : Nat) (x0 x1 x2 x3 x4 x5 x6 x7 x8 x9 x10 x11 x12 x13 x14 x15 x16 x17 x18 x19 x20 x21 y0 y2 y3 y4 y5 y6 y7 y8 y9 y10 y11 y12 y13 y14 y15 y16 : Value) : isT (callA E2 100 100 3 [.agg [.sc x0, .sc x1, .sc x2, .sc x3, .sc x4, .sc x5, .sc x6, .sc x7, .sc x8, .sc x9, .sc x10, .sc x11, .sc x12, .sc x13, .sc x14, .sc x15, .sc x16, .sc x17, .sc x18, .sc x19, .sc x20, .sc x21], .agg [.sc y0, .sc (.int .i64 (.ofNat (Nat.succ (Nat.succ (Nat.succ (Nat.succ (Nat.succ n))))))), .sc y2, .sc y3, .sc y4, .sc y5, .sc y6, .sc y7, .sc y8, .sc y9, .sc y10, .sc y11, .sc y12, .sc y13, .sc y14, .sc y15, .sc y16]] ⟨.leaf, 0, [], []⟩) = true := by kernel_rfl

theorem run (k : Int) (x0 x1 x2 x3 x4 x5 x6 x7 x8 x9 x10 x11 x12 x13 x14 x15 x16 x17 x18 x19 x20 x21 y0 y2 y3 y4 y5 y6 y7 y8 y9 y10 y11 y12 y13 y14 y15 y16 : Value) : isT (callA E2 100 100 3 [.agg [.sc x0, .sc x1, .sc x2, .sc x3, .sc x4, .sc x5, .sc x6, .sc x7, .sc x8, .sc x9, .sc x10, .sc x11, .sc x12, .sc x13, .sc x14, .sc x15, .sc x16, .sc x17, .sc x18, .sc x19, .sc x20, .sc x21], .agg [.sc y0, .sc (.int .i64 k), .sc y2, .sc y3, .sc y4, .sc y5, .sc y6, .sc y7, .sc y8, .sc y9, .sc y10, .sc y11, .sc y12, .sc y13, .sc y14, .sc y15, .sc y16]] ⟨.leaf, 0, [], []⟩) = true :=
  match k with
  | .negSucc n => run_n n _ _ _ _ _ _ _ _ _ _ _ _ _ _ _ _ _ _ _ _ _ _ _ _ _ _ _ _ _ _ _ _ _ _ _ _ _ _
  | .ofNat 0 => run_0 _ _ _ _ _ _ _ _ _ _ _ _ _ _ _ _ _ _ _ _ _ _ _ _ _ _ _ _ _ _ _ _ _ _ _ _ _ _
  | .ofNat 1 => run_1 _ _ _ _ _ _ _ _ _ _ _ _ _ _ _ _ _ _ _ _ _ _ _ _ _ _ _ _ _ _ _ _ _ _ _ _ _ _
  | .ofNat 2 => run_2 _ _ _ _ _ _ _ _ _ _ _ _ _ _ _ _ _ _ _ _ _ _ _ _ _ _ _ _ _ _ _ _ _ _ _ _ _ _
  | .ofNat 3 => run_3 _ _ _ _ _ _ _ _ _ _ _ _ _ _ _ _ _ _ _ _ _ _ _ _ _ _ _ _ _ _ _ _ _ _ _ _ _ _
  | .ofNat 4 => run_4 _ _ _ _ _ _ _ _ _ _ _ _ _ _ _ _ _ _ _ _ _ _ _ _ _ _ _ _ _ _ _ _ _ _ _ _ _ _
  | .ofNat (n + 5) => run_b n _ _ _ _ _ _ _ _ _ _ _ _ _ _ _ _ _ _ _ _ _ _ _ _ _ _ _ _ _ _ _ _ _ _ _ _ _ _

theorem walk (k : Int) (x0 x1 x2 x3 x4 x5 x6 x7 x8 x9 x10 x11 x12 x13 x14 x15 x16 x17 x18 x19 x20 x21 y0 y2 y3 y4 y5 y6 y7 y8 y9 y10 y11 y12 y13 y14 y15 y16 : Value) (w : World) : Calls Tryz.prog 3 #[.agg #[x0, x1, x2, x3, x4, x5, x6, x7, x8, x9, x10, x11, x12, x13, x14, x15, x16, x17, x18, x19, x20, x21], .agg #[y0, .int .i64 k, y2, y3, y4, y5, y6, y7, y8, y9, y10, y11, y12, y13, y14, y15, y16]] w fun e w' => e = .returned (.bool true) ∧ Below w.heap.size w w' := by
  obtain ⟨s', h⟩ := of_isT (run k x0 x1 x2 x3 x4 x5 x6 x7 x8 x9 x10 x11 x12 x13 x14 x15 x16 x17 x18 x19 x20 x21 y0 y2 y3 y4 y5 y6 y7 y8 y9 y10 y11 y12 y13 y14 y15 y16)
  exact closed_call e2 h w (cargs := [.agg #[x0, x1, x2, x3, x4, x5, x6, x7, x8, x9, x10, x11, x12, x13, x14, x15, x16, x17, x18, x19, x20, x21], .agg #[y0, .int .i64 k, y2, y3, y4, y5, y6, y7, y8, y9, y10, y11, y12, y13, y14, y15, y16]]) (by simp [RelL, Rel])

theorem own : ownKnob Tryz.prog.godebug = none := by kernel_rfl
theorem laidOut : laidOutB Tryz.prog = true := by kernel_rfl
theorem cells30 : Tryz.prog.cellsOf 30 = 22 := by kernel_rfl
theorem cells33 : Tryz.prog.cellsOf 33 = 17 := by kernel_rfl
theorem kind33 : (Tryz.prog.cellTypes Tryz.prog.depth 33).map (fun ts => (ts.length, ts[1]?)) = some (17, some 3) := by kernel_rfl

/-- the arguments' shapes -/
theorem shape30 {W : World} {base : Nat} {v : Value} (h : Value.okWide Tryz.prog W .any base 30 v) : ∃ cs, v = .agg cs ∧ cs.size = 22 := by
  unfold Value.okWide at h
  rw [Tryz.underlying30] at h
  obtain ⟨cs, rfl, hs, _⟩ := h
  exact ⟨cs, rfl, by rw [hs, cells30]⟩

theorem shape33 {W : World} {base : Nat} {v : Value} (h : Value.okWide Tryz.prog W .any base 33 v) : ∃ cs k, v = .agg cs ∧ cs.size = 17 ∧ cs[1]? = some (.int .i64 k) := by
  unfold Value.okWide at h
  rw [Tryz.underlying33] at h
  obtain ⟨cs, rfl, hs, ts, hts, _, hc⟩ := h
  rw [cells33] at hs
  have hk := kind33
  rw [hts] at hk
  simp only [Option.map_some, Option.some.injEq, Prod.mk.injEq] at hk
  obtain ⟨hl, h1⟩ := hk
  have hlt : 1 < cs.size := by omega
  obtain ⟨u, hu, hok⟩ := hc 1 cs[1] (by simp [hlt])
  rw [hl, show 1 % 17 = 1 from rfl, h1] at hu
  cases hu
  unfold Cell.okWide Cell.ok at hok
  rw [Tryz.underlying3] at hok
  cases hv : cs[1] <;> rw [hv] at hok <;> simp at hok
  rename_i kk n
  obtain ⟨rfl, _⟩ := hok
  exact ⟨cs, n, rfl, hs, by rw [← hv]; simp [hlt]⟩

theorem call (W : World) (base : Nat) (v0 v1 : Value) (h0 : Value.okWide Tryz.prog W .any base 30 v0) (h1 : Value.okWide Tryz.prog W .any base 33 v1) :
    Calls Tryz.prog 3 #[v0, v1] W fun e W' => e = .returned (.bool true) ∧ Below W.heap.size W W' := by
  obtain ⟨⟨l0⟩, rfl, s0⟩ := shape30 h0
  obtain ⟨⟨l1⟩, k, rfl, s1, c1⟩ := shape33 h1
  simp only [List.size_toArray] at s0 s1
  rcases l0 with _ | ⟨x0, l0⟩
  · simp at s0
  rcases l0 with _ | ⟨x1, l0⟩
  · simp at s0
  rcases l0 with _ | ⟨x2, l0⟩
  · simp at s0
  rcases l0 with _ | ⟨x3, l0⟩
  · simp at s0
  rcases l0 with _ | ⟨x4, l0⟩
  · simp at s0
  rcases l0 with _ | ⟨x5, l0⟩
  · simp at s0
  rcases l0 with _ | ⟨x6, l0⟩
  · simp at s0
  rcases l0 with _ | ⟨x7, l0⟩
  · simp at s0
  rcases l0 with _ | ⟨x8, l0⟩
  · simp at s0
  rcases l0 with _ | ⟨x9, l0⟩
  · simp at s0
  rcases l0 with _ | ⟨x10, l0⟩
  · simp at s0
  rcases l0 with _ | ⟨x11, l0⟩
  · simp at s0
  rcases l0 with _ | ⟨x12, l0⟩
  · simp at s0
  rcases l0 with _ | ⟨x13, l0⟩
  · simp at s0
  rcases l0 with _ | ⟨x14, l0⟩
  · simp at s0
  rcases l0 with _ | ⟨x15, l0⟩
  · simp at s0
  rcases l0 with _ | ⟨x16, l0⟩
  · simp at s0
  rcases l0 with _ | ⟨x17, l0⟩
  · simp at s0
  rcases l0 with _ | ⟨x18, l0⟩
  · simp at s0
  rcases l0 with _ | ⟨x19, l0⟩
  · simp at s0
  rcases l0 with _ | ⟨x20, l0⟩
  · simp at s0
  rcases l0 with _ | ⟨x21, l0⟩
  · simp at s0
  obtain rfl : l0 = [] := List.eq_nil_of_length_eq_zero (by simp only [List.length_cons] at s0; omega)
  rcases l1 with _ | ⟨y0, l1⟩
  · simp at s1
  rcases l1 with _ | ⟨y1, l1⟩
  · simp at s1
  rcases l1 with _ | ⟨y2, l1⟩
  · simp at s1
  rcases l1 with _ | ⟨y3, l1⟩
  · simp at s1
  rcases l1 with _ | ⟨y4, l1⟩
  · simp at s1
  rcases l1 with _ | ⟨y5, l1⟩
  · simp at s1
  rcases l1 with _ | ⟨y6, l1⟩
  · simp at s1
  rcases l1 with _ | ⟨y7, l1⟩
  · simp at s1
  rcases l1 with _ | ⟨y8, l1⟩
  · simp at s1
  rcases l1 with _ | ⟨y9, l1⟩
  · simp at s1
  rcases l1 with _ | ⟨y10, l1⟩
  · simp at s1
  rcases l1 with _ | ⟨y11, l1⟩
  · simp at s1
  rcases l1 with _ | ⟨y12, l1⟩
  · simp at s1
  rcases l1 with _ | ⟨y13, l1⟩
  · simp at s1
  rcases l1 with _ | ⟨y14, l1⟩
  · simp at s1
  rcases l1 with _ | ⟨y15, l1⟩
  · simp at s1
  rcases l1 with _ | ⟨y16, l1⟩
  · simp at s1
  obtain rfl : l1 = [] := List.eq_nil_of_length_eq_zero (by simp only [List.length_cons] at s1; omega)
  obtain rfl : y1 = .int .i64 k := by simpa using c1
  exact walk k x0 x1 x2 x3 x4 x5 x6 x7 x8 x9 x10 x11 x12 x13 x14 x15 x16 x17 x18 x19 x20 x21 y0 y2 y3 y4 y5 y6 y7 y8 y9 y10 y11 y12 y13 y14 y15 y16 W

theorem contract (H : Type) (enc : TypeId × Value → H) (W : World) (base : Nat) (args : Array Value) (ds gs : List (DataW H)) (before : List MemPlace)
    (hval : ∀ (j : Nat) t v, Tryz.f3.params[j]? = some t → args[j]? = some v → Value.okWide Tryz.prog W .any base t v)
    (hW : DataW.Whole enc Tryz.prog Tryz.f3.params.toList Rows.applyNobodySpec.vars false W args.toList ds gs before) :
    Calls Tryz.prog 3 args W fun e W' => ∃ v, e = .returned v ∧ Rows.applyNobodySpec.post enc Tryz.prog Tryz.f3 false true false false W args v W' := by
  have hW' := hW
  obtain ⟨p, q, hA0, hV, rfl, hfz, hnd⟩ := hW
  have hA : DataW.TrodAll enc Tryz.prog W 0 (fun _ => true) true Tryz.f3.params.toList args.toList ds p := hA0
  rw [Tryz.params3] at hA hval
  obtain ⟨v0, v1, d0, d1, p0, p1, rfl, rfl, rfl, h0, h1⟩ := trodAll_two hA
  obtain ⟨rfl, rfl⟩ := trodVars_none hV
  clear hA0
  simp only [List.append_nil] at hW'
  have hlt : ∀ x ∈ p0 ++ p1, x.block < W.heap.size := fun x hx => by simpa using hW'.lt x hx
  refine (call W base v0 v1 (hval 0 30 v0 rfl rfl) (hval 1 33 v1 rfl rfl)).mono fun e W' ⟨he, hn⟩ => ?_
  subst he
  have a0 := Below.trod laidOut (by kernel_rfl) (of_decide_eq_true (by kernel_rfl)) h0 hn (fun x hx => hlt x (List.mem_append_left _ hx))
  have a1 := Below.trod laidOut (by kernel_rfl) (of_decide_eq_true (by kernel_rfl)) h1 hn (fun x hx => hlt x (List.mem_append_right _ hx))
  exact ⟨_, rfl, _, _, _, [], p0 ++ p1, [], hW', trodAll_mk1 (shut_bool Tryz.underlying4 _), trodAll_mk2 a0 a1, rfl, hn.frame _, fun h => by cases h⟩

/-! ### the witness -/

def lay (cs : Array Value) : Obj → Obj
  | .cells _ t frozen => .cells cs t frozen
  | o => o
noncomputable def laidWorld (os : Os) : World :=
  { World.holding Tryz.prog os ⟨#[], #[], []⟩ with heap := ((((World.holding Tryz.prog os ⟨#[], #[], []⟩).heap.modify 1 (lay #[.int .u64 1, .int .u64 10, .int .u64 100, .int .u64 1000, .int .u64 10000, .int .u64 100000, .int .u64 1000000, .int .u64 10000000, .int .u64 100000000, .int .u64 1000000000, .int .u64 10000000000, .int .u64 100000000000, .int .u64 1000000000000, .int .u64 10000000000000, .int .u64 100000000000000, .int .u64 1000000000000000, .int .u64 10000000000000000, .int .u64 100000000000000000, .int .u64 1000000000000000000, .int .u64 10000000000000000000])).modify 2 (lay #[.int .u8 0, .int .u8 1, .int .u8 28, .int .u8 2, .int .u8 29, .int .u8 14, .int .u8 24, .int .u8 3, .int .u8 30, .int .u8 22, .int .u8 20, .int .u8 15, .int .u8 25, .int .u8 17, .int .u8 4, .int .u8 8, .int .u8 31, .int .u8 27, .int .u8 13, .int .u8 23, .int .u8 21, .int .u8 19, .int .u8 16, .int .u8 7, .int .u8 26, .int .u8 12, .int .u8 18, .int .u8 6, .int .u8 11, .int .u8 5, .int .u8 10, .int .u8 9])).modify 3 (lay #[.int .u8 0, .int .u8 1, .int .u8 56, .int .u8 2, .int .u8 57, .int .u8 49, .int .u8 28, .int .u8 3, .int .u8 61, .int .u8 58, .int .u8 42, .int .u8 50, .int .u8 38, .int .u8 29, .int .u8 17, .int .u8 4, .int .u8 62, .int .u8 47, .int .u8 59, .int .u8 36, .int .u8 45, .int .u8 43, .int .u8 51, .int .u8 22, .int .u8 53, .int .u8 39, .int .u8 33, .int .u8 30, .int .u8 24, .int .u8 18, .int .u8 12, .int .u8 5, .int .u8 63, .int .u8 55, .int .u8 48, .int .u8 27, .int .u8 60, .int .u8 41, .int .u8 37, .int .u8 16, .int .u8 46, .int .u8 35, .int .u8 44, .int .u8 21, .int .u8 52, .int .u8 32, .int .u8 23, .int .u8 11, .int .u8 54, .int .u8 26, .int .u8 40, .int .u8 15, .int .u8 34, .int .u8 20, .int .u8 31, .int .u8 10, .int .u8 25, .int .u8 14, .int .u8 19, .int .u8 9, .int .u8 13, .int .u8 8, .int .u8 7, .int .u8 6])) }
def w0 : Array Value := #[.agg #[.int .i64 0, .string ⟨#[]⟩, .string ⟨#[]⟩, .int .i64 0, .int .i64 0, .string ⟨#[]⟩, .slice none 0 0, .slice none 0 0, .int .i64 0, .int .i64 0, .string ⟨#[]⟩, .slice none 0 0, .slice none 0 0, .bool false, .int .i64 0, .int .i64 0, .string ⟨#[]⟩, .slice none 0 0, .slice none 0 0, .slice none 0 0, .int .i64 0, .int .i64 0], .agg #[.int .i64 0, .int .i64 0, .string ⟨#[]⟩, .string ⟨#[]⟩, .int .i64 0, .int .i64 0, .string ⟨#[]⟩, .slice none 0 0, .slice none 0 0, .int .i64 0, .int .i64 0, .string ⟨#[]⟩, .slice none 0 0, .slice none 0 0, .slice none 0 0, .int .i64 0, .int .i64 0]]
theorem laid_met (os : Os) : laidMet Tryz.prog Rows.applyNobodyRow.laid ((laidWorld os).forCall (fun _ _ => 0) ⟨#[], w0, []⟩).memory :=
  laidMet_of_run' 8 (by kernel_rfl) (by kernel_rfl)
theorem reads (os : Os) {H : Type} (enc : TypeId × Value → H) : ∃ r, DataW.whole enc Tryz.prog ((laidWorld os).forCall (fun _ _ => 0) ⟨#[], w0, []⟩).memory Tryz.f3.params.toList Rows.applyNobodySpec.vars false w0.toList 8 = some r :=
  Option.isSome_iff_exists.1 (by kernel_rfl)

theorem lifted (os : Os) (started : os.Started) (H : Type) (enc : TypeId × Value → H) (F : Stop.Interp) :
    ReturnsInHanded {} Tryz.checked os 3 .any ((OpenSpec.ofChange Rows.applyNobodySpec).preRow enc Tryz.prog Tryz.f3 Rows.applyNobodyRow.domain false Rows.applyNobodyRow.laid) (((OpenSpec.ofChange Rows.applyNobodySpec).at F).post enc Tryz.prog Tryz.f3 false true false false) := by
  obtain ⟨⟨ds, gs, places⟩, hx⟩ := reads os enc
  refine returnsInHanded_of_row (C := Tryz.checked) (s := OpenSpec.ofChange Rows.applyNobodySpec) own started (by kernel_rfl) Tryz.func3
    (witness_row_at (enc := enc) (C := Tryz.checked) false (laidWorld os) w0 rfl (by kernel_rfl) (by kernel_rfl) (by kernel_rfl)
      (OpenSpec.preRow_of_cond 8 hx (by kernel_rfl) (fun k hk => by cases hk) (by kernel_rfl) (laid_met os))) ?_
  intro W base args ds gs before hval hW _ _ _ _ _ _
  exact contract H enc W base args ds gs before hval hW

theorem said : Rows.ApplyNobodySaid :=
  OpenClaim.holds_of_cond 3 Tryz.f3 rfl rfl rfl rfl rfl rfl rfl ⟨rfl, rfl, rfl, rfl, rfl⟩ rfl rfl rfl rfl rfl (by kernel_rfl) Tryz.func3 (by kernel_rfl)
    (of_decide_eq_true (by kernel_rfl)) (by unfold Func.isWrapper; first | (rw [if_pos (by decide +kernel)]; kernel_rfl) | (rw [if_neg (by decide +kernel)]; exact ⟨rfl, rfl⟩))
    (fun os started H enc _ F => by rw [OpenClaim.pre_eq_preRow]; exact lifted os started H enc F)

/-- No parameter wants a stand-in; the program's own looks are off: what the card asks. -/
theorem plain (f : FuncId) (fn : Func) (hf : Tryz.pinned.checked.prog.funcNamed "tributary/tributarylaw15.ApplyNobody" = some f) (hfn : Tryz.pinned.checked.prog.funcs[f]? = some fn) :
    true = Tryz.pinned.checked.prog.looks [] ∧ ∀ (j : Nat) t, fn.params[j]? = some t → Tryz.pinned.checked.prog.wantsStandIn t = false := by
  obtain rfl : f = 3 := Option.some.inj ((show Tryz.prog.funcNamed "tributary/tributarylaw15.ApplyNobody" = some 3 by kernel_rfl).symm.trans hf) |>.symm
  obtain rfl : fn = Tryz.f3 := (Option.some.inj (Tryz.func3.symm.trans hfn)).symm
  refine ⟨by kernel_rfl, fun j t ht => ?_⟩
  rw [Tryz.params3] at ht
  have h : t = 30 ∨ t = 33 := by simpa using Array.mem_of_getElem? ht
  rcases h with rfl | rfl
  · exact (show Tryz.prog.wantsStandIn 30 = false by kernel_rfl)
  · exact (show Tryz.prog.wantsStandIn 33 = false by kernel_rfl)

/-- THE CARD -/
theorem card : Rows.ApplyNobodyCardSaid :=
  Claim7.holds_tied_plain_at .later [] _ _ _ _ said (fun _ h => by cases h) (by kernel_rfl) (fun _ h => by cases h) applyNobody_row_tie rfl ⟨rfl, rfl⟩ (by kernel_rfl) rfl plain (by kernel_rfl)
end Go.Proofs.YtijlkjkmajnmiaaGreatDoor
