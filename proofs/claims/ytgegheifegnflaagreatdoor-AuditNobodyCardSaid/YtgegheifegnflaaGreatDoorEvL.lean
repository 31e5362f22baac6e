/- The abstract evaluator held against the model: every call it can run is so. -/
import Derived.Test.YtgegheifegnflaaGreatDoorEvK
namespace Go.Ab
open Go.RowKit

structure EnvAll (P : Program) (E : Env) : Prop where
  ok : EnvOk P E
  mixed : P.follows .mixedOrders = true
  fn : ∀ f fn, E.fn f = some fn → P.funcs[f]? = some fn ∧ fn.name ≠ "runtime.NumGoroutine" ∧ ∀ b, fn.body = some b → codeOk b = true
  primFr : ∀ f p, E.prim f = some p → ∀ args, Fr (p args)
  primOk : ∀ (B0 : Nat) (w0 : World), CallOk P B0 w0 (fun f args s => match E.prim f with | some p => p args s | none => none)

theorem argsT_slot : ∀ (l : List AV) (i : Nat) (t : T AV) (j : Nat), slotA (argsT l i t) j = if i ≤ j ∧ j < i + l.length then l.getD (j - i) undefA else slotA t j
  | [], i, t, j => by
    simp only [argsT, List.length_nil, Nat.add_zero]
    rw [if_neg (by omega)]
  | v :: l, i, t, j => by
    simp only [argsT]
    rw [argsT_slot l (i + 1) _ j]
    by_cases hj : j = i
    · subst hj
      rw [if_neg (by omega), if_pos (by simp)]
      unfold slotA
      rw [T.get_set_self]
      simp
    · by_cases h : i + 1 ≤ j ∧ j < i + 1 + l.length
      · rw [if_pos h, if_pos (by simp only [List.length_cons]; omega)]
        rw [show j - i = (j - (i + 1)) + 1 by omega, List.getD_cons_succ]
      · rw [if_neg h, if_neg (by simp only [List.length_cons]; omega)]
        unfold slotA
        rw [T.get_set_ne _ _ hj]

theorem args_rel {M : Mp} {args : List AV} {cargs : List Value} (h : RelL M args cargs) (nt : Nat) : RelT M (argsT args 0 .leaf) ((⟨cargs⟩ : Array Value) ++ Array.replicate (nt - (⟨cargs⟩ : Array Value).size) undef) := by
  intro j
  rw [argsT_slot]
  have hl := h.length
  simp only [Nat.zero_le, true_and, Nat.zero_add, Nat.sub_zero]
  rw [Array.getD_eq_getD_getElem?]
  by_cases hj : j < args.length
  · rw [if_pos hj]
    obtain ⟨x, hx, hr⟩ := h.get j (args[j]) (by simp [hj])
    have : ((⟨cargs⟩ : Array Value) ++ Array.replicate (nt - (⟨cargs⟩ : Array Value).size) undef)[j]? = some x := by
      rw [Array.getElem?_append_left (by simp; omega)]
      simpa using hx
    rw [this]
    simpa [List.getD_eq_getElem?_getD, hj] using hr
  · rw [if_neg hj]
    have : ((⟨cargs⟩ : Array Value) ++ Array.replicate (nt - (⟨cargs⟩ : Array Value).size) undef)[j]?.getD undef = undef := by
      rw [Array.getElem?_append_right (by simp; omega), Array.getElem?_replicate]
      split <;> rfl
    rw [this]
    unfold slotA
    rw [T.get_leaf]
    exact rel_undef M

theorem call_ok {P : Program} {E : Env} (hA : EnvAll P E) (B0 : Nat) (w0 : World) (L : Nat) : ∀ k, CallOk P B0 w0 (callA E L k)
  | 0 => fun f args s v s' h => by simp [callA] at h
  | k + 1 => fun f args s v s' h => by
    have ih := call_ok hA B0 w0 L k
    have ihF := fr_call (E := E) hA.primFr L k
    simp only [callA] at h
    cases hp : E.prim f with
    | some p =>
      rw [hp] at h
      exact hA.primOk B0 w0 f args s v s' (by simp only [hp]; exact h)
    | none =>
      rw [hp] at h
      simp only at h
      cases hf : E.fn f with
      | none => rw [hf] at h; cases h
      | some fn =>
        rw [hf] at h
        simp only at h
        obtain ⟨hfn, hname, hcode⟩ := hA.fn f fn hf
        cases hb : fn.body with
        | none => rw [hb] at h; cases h
        | some body =>
          rw [hb] at h
          simp only at h
          unfold bodyA fenced at h
          cases hin : inner E (callA E L k) L fn body args { s with rd := [], wr := [] } with
          | none => rw [hin] at h; cases h
          | some p =>
            obtain ⟨v2, s2⟩ := p
            rw [hin] at h
            simp only at h
            have hin' := hin
            unfold inner at hin
            cases hco : codeA E (callA E L k) fn.ntmps L body (argsT args 0 .leaf, { s with rd := [], wr := [] }) with
            | none => rw [hco] at hin; cases hin
            | some x =>
              obtain ⟨e, t1, s1⟩ := x
              rw [hco] at hin
              simp only at hin
              obtain ⟨m1, r1⟩ := sim_code hA.ok hA.mixed ih ihF fn.ntmps L body (hcode body hb) _ _ _ _ _ hco
              simp only at m1
              -- how it ended, and with what
              have hend : (e = .normal ∨ e = .ret) ∧ ∃ vs, resAll E (callA E L k) t1 fn.results.toList s1 = some (vs, s2) ∧ v2 = joinR vs := by
                unfold finish at hin
                cases e with
                | exit i => cases hin
                | normal =>
                  simp only at hin
                  cases hr : resAll E (callA E L k) t1 fn.results.toList s1 with
                  | none => rw [hr] at hin; cases hin
                  | some q =>
                    rw [hr] at hin
                    simp only [Option.some.injEq, Prod.mk.injEq] at hin
                    obtain ⟨rfl, rfl⟩ := hin
                    exact ⟨.inl rfl, _, rfl, rfl⟩
                | ret =>
                  simp only at hin
                  cases hr : resAll E (callA E L k) t1 fn.results.toList s1 with
                  | none => rw [hr] at hin; cases hin
                  | some q =>
                    rw [hr] at hin
                    simp only [Option.some.injEq, Prod.mk.injEq] at hin
                    obtain ⟨rfl, rfl⟩ := hin
                    exact ⟨.inr rfl, _, rfl, rfl⟩
              obtain ⟨he, vs, hres, rfl⟩ := hend
              obtain ⟨hlike, hrr⟩ := results_run (B0 := B0) (w0 := w0) hA.ok hres
              have hnx : s'.nxt = s2.nxt := by
                split at h
                · simp only [Option.some.injEq, Prod.mk.injEq] at h; rw [← h.2]
                · simp only [Option.some.injEq, Prod.mk.injEq] at h; rw [← h.2]
              have hv : v = joinR vs := by
                split at h
                · simp only [Option.some.injEq, Prod.mk.injEq] at h; exact h.1.symm
                · simp only [Option.some.injEq, Prod.mk.injEq] at h; exact h.1.symm
              have hnx1 : s'.nxt = s1.nxt := by rw [hnx, hlike.2]
              refine ⟨by omega, fun M w cargs I hr hfresh => ⟨⟨fn, hfn, by rw [hb]; rfl, hname⟩, ?_⟩⟩
              -- the heap behind it is part of what the run left
              have hsub : ∀ n b, s'.h.get n = some b → s1.h.get n = some b := by
                intro n b hn
                rw [← hlike.1]
                split at h
                · rename_i hcase
                  simp only [Option.some.injEq, Prod.mk.injEq] at h
                  obtain ⟨_, rfl⟩ := h
                  simp only at hn hfresh
                  have hfree : ∀ m, s.nxt ≤ m → m < s2.nxt → s.h.get m = none := by
                    intro m g1 g2
                    cases hg : s.h.get m with
                    | none => rfl
                    | some b' =>
                      obtain ⟨z, hz, _⟩ := I.blk m b' hg
                      rw [hfresh m g1 g2] at hz
                      cases hz
                  obtain ⟨_, F⟩ := fr_inner (E := E) ihF L fn body args _ _ _ hin'
                  obtain ⟨rd, wr, er, ew, b1, f1, _⟩ := F hfree
                  simp only [List.append_nil] at ew
                  simp only [Bool.and_eq_true, List.isEmpty_iff] at hcase
                  rw [← hn]
                  refine f1 n ?_
                  rcases Nat.lt_or_ge n s.nxt with hlt | hge
                  · refine .inl ⟨hlt, fun hw => ?_⟩
                    have : n ∈ below s.nxt s2.wr := mem_below.2 ⟨by rw [ew]; exact hw, hlt⟩
                    rw [hcase.1] at this
                    cases this
                  · right
                    rcases Nat.lt_or_ge n s2.nxt with hl2 | hg2
                    · have := hfree n hge hl2
                      rw [hn] at this
                      cases this
                    · exact hg2
                · simp only [Option.some.injEq, Prod.mk.injEq] at h
                  obtain ⟨_, rfl⟩ := h
                  exact hn
              refine calls_of_wp hfn hb ?_
              refine r1 (M := M) ⟨I, args_rel hr fn.ntmps, by simp; omega, rfl⟩ (by rw [← hnx1]; exact hfresh) _ fun M' w' a' g ok' => ?_
              obtain ⟨cv, h1, h2⟩ := hrr ok'.inv ok'.slots
              have post : a'.defers = [] ∧ ∃ v0, (results fn a'.tmps).run P w' = .ok v0 w' ∧ ∃ cv M', Ending.returned v0 = .returned cv ∧ M.le M' ∧ (∀ n, M'.m n ≠ none → M.m n ≠ none ∨ (s.nxt ≤ n ∧ n < s'.nxt)) ∧ Inv B0 w0 M' s'.h w' ∧ Rel M' v cv :=
                ⟨ok'.defers, cv, h2, cv, M', rfl, g.1, by rw [hnx1]; exact g.2, ok'.inv.sub hsub, by rw [hv]; exact h1⟩
              rcases he with rfl | rfl
              · exact post
              · exact post

/-- a call that the evaluator can run, in a world of which it knows nothing: it comes to what the evaluator says, and nothing that was there has turned -/
theorem closed_call {P : Program} {E : Env} (hA : EnvAll P E) {L k : Nat} {f : FuncId} {c : Value} {s' : St} {args : List AV} {cargs : List Value} (h : callA E L k f args ⟨.leaf, 0, [], []⟩ = some (.sc c, s')) (w : World)
    (hargs : RelL ⟨fun _ => none, fun _ _ => none⟩ args cargs) :
    Calls P f ⟨cargs⟩ w fun e w' => e = .returned c ∧ Below w.heap.size w w' := by
  have I : Inv w.heap.size w ⟨fun _ => none, fun _ _ => none⟩ .leaf w :=
    ⟨Below.refl _ _, Nat.le_refl _, fun n z e => (by cases e), fun n b e => (by rw [T.get_leaf] at e; cases e), fun n n' b b' z z' _ e => (by rw [T.get_leaf] at e; cases e), fun b o v e => (by cases e), fun n b z e => (by rw [T.get_leaf] at e; cases e)⟩
  obtain ⟨_, r⟩ := call_ok hA w.heap.size w L k f args _ _ _ h
  refine (r _ w cargs I hargs (fun _ _ _ => rfl)).2.mono ?_
  rintro e w' ⟨cv, M', rfl, _, _, I', hv⟩
  simp only [Rel] at hv
  exact ⟨by rw [hv], I'.below⟩
end Go.Ab
