/- The abstract evaluator: a piece of a run hangs on what it reads alone, and turns what it writes alone. -/
import Derived.Test.YtgegheifegnflaaGreatDoorEvB
namespace Go.Ab

/-- no name that a piece will give out is laid -/
def St.free (s : St) (c : Nat) : Prop := ∀ n, s.nxt ≤ n → n < c → s.h.get n = none

/-- the footprint law -/
def Fr {α : Type} (F : St → Option (α × St)) : Prop :=
  ∀ s a s', F s = some (a, s') → s.nxt ≤ s'.nxt ∧ (s.free s'.nxt →
    ∃ rd wr, s'.rd = rd ++ s.rd ∧ s'.wr = wr ++ s.wr ∧ (∀ n, n ∈ rd ∨ n ∈ wr → n < s'.nxt) ∧
      (∀ n, (n < s.nxt ∧ n ∉ wr) ∨ s'.nxt ≤ n → s'.h.get n = s.h.get n) ∧
      ∀ (g : T Blk) (r2 w2 : List Nat), (∀ n, n < s.nxt → (n ∈ rd ∨ n ∈ wr) → g.get n = s.h.get n) → (∀ n, s.nxt ≤ n → n < s'.nxt → g.get n = none) →
        ∃ g', F ⟨g, s.nxt, r2, w2⟩ = some (a, ⟨g', s'.nxt, rd ++ r2, wr ++ w2⟩) ∧
          ∀ n, g'.get n = if (n < s.nxt ∧ n ∈ wr) ∨ (s.nxt ≤ n ∧ n < s'.nxt) then s'.h.get n else g.get n)

theorem fr_pure {α : Type} (a : α) : Fr (fun s => some (a, s)) := by
  intro s a' s' h
  simp only [Option.some.injEq, Prod.mk.injEq] at h
  obtain ⟨rfl, rfl⟩ := h
  refine ⟨Nat.le_refl _, fun _ => ⟨[], [], by simp, by simp, by simp, by simp, fun g r2 w2 _ _ => ⟨g, by simp, fun n => ?_⟩⟩⟩
  rw [if_neg]
  simp

theorem fr_none {α : Type} : Fr (fun _ => (none : Option (α × St))) := by
  intro s a s' h; cases h

theorem fr_bind {α β : Type} {F : St → Option (α × St)} {G : α → St → Option (β × St)} (hF : Fr F) (hG : ∀ a, Fr (G a)) :
    Fr (fun s => match F s with | some (a, s) => G a s | none => none) := by
  intro s b s2 h
  simp only at h
  cases e : F s with
  | none => rw [e] at h; cases h
  | some p =>
    obtain ⟨a, s1⟩ := p
    rw [e] at h
    simp only at h
    obtain ⟨m1, k1⟩ := hF s a s1 e
    obtain ⟨m2, k2⟩ := hG a s1 b s2 h
    refine ⟨Nat.le_trans m1 m2, fun hfr => ?_⟩
    obtain ⟨rd1, wr1, er1, ew1, b1, f1, g1⟩ := k1 (fun n h1 h2 => hfr n h1 (by omega))
    obtain ⟨rd2, wr2, er2, ew2, b2, f2, g2⟩ := k2 (fun n h1 h2 => by rw [f1 n (.inr h1)]; exact hfr n (by omega) h2)
    refine ⟨rd2 ++ rd1, wr2 ++ wr1, by rw [er2, er1, List.append_assoc], by rw [ew2, ew1, List.append_assoc], ?_, ?_, ?_⟩
    · intro n hn
      simp only [List.mem_append] at hn
      rcases hn with (h | h) | (h | h)
      · exact b2 n (.inl h)
      · have := b1 n (.inl h); omega
      · exact b2 n (.inr h)
      · have := b1 n (.inr h); omega
    · intro n hn
      simp only [List.mem_append, not_or] at hn
      rcases hn with ⟨h1, h2, h3⟩ | h1
      · rw [f2 n (.inl ⟨by omega, h2⟩), f1 n (.inl ⟨h1, h3⟩)]
      · rw [f2 n (.inr h1), f1 n (.inr (by omega))]
    · intro g r2 w2 hag hfree
      obtain ⟨gg1, hr1, hv1⟩ := g1 g r2 w2 (fun n hn h => hag n hn (by simp only [List.mem_append]; rcases h with h | h; exact .inl (.inr h); exact .inr (.inr h))) (fun n h1 h2 => hfree n h1 (by omega))
      have hag1 : ∀ n, n < s1.nxt → (n ∈ rd2 ∨ n ∈ wr2) → gg1.get n = s1.h.get n := by
        intro n hn h
        rw [hv1]
        by_cases hc : (n < s.nxt ∧ n ∈ wr1) ∨ (s.nxt ≤ n ∧ n < s1.nxt)
        · rw [if_pos hc]
        · rw [if_neg hc]
          have hlt : n < s.nxt := by
            rcases Nat.lt_or_ge n s.nxt with h' | h'
            · exact h'
            · exact absurd (.inr ⟨h', hn⟩) hc
          have hnw : n ∉ wr1 := fun h' => hc (.inl ⟨hlt, h'⟩)
          rw [f1 n (.inl ⟨hlt, hnw⟩)]
          exact hag n hlt (by simp only [List.mem_append]; rcases h with h | h; exact .inl (.inl h); exact .inr (.inl h))
      have hfree1 : ∀ n, s1.nxt ≤ n → n < s2.nxt → gg1.get n = none := by
        intro n h1 h2
        rw [hv1, if_neg (by rintro (h | h) <;> omega)]
        exact hfree n (by omega) h2
      obtain ⟨gg2, hr2, hv2⟩ := g2 gg1 (rd1 ++ r2) (wr1 ++ w2) hag1 hfree1
      refine ⟨gg2, ?_, fun n => ?_⟩
      · simp only [hr1, hr2, List.append_assoc]
      · rw [hv2]
        by_cases hA : (n < s1.nxt ∧ n ∈ wr2) ∨ (s1.nxt ≤ n ∧ n < s2.nxt)
        · rw [if_pos hA, if_pos]
          simp only [List.mem_append]
          rcases hA with ⟨h1, h2⟩ | ⟨h1, h2⟩
          · rcases Nat.lt_or_ge n s.nxt with h' | h'
            · exact .inl ⟨h', .inl h2⟩
            · exact .inr ⟨h', by omega⟩
          · exact .inr ⟨by omega, h2⟩
        · rw [if_neg hA, hv1]
          by_cases hB : (n < s.nxt ∧ n ∈ wr1) ∨ (s.nxt ≤ n ∧ n < s1.nxt)
          · rw [if_pos hB]
            have hlt : n < s1.nxt := by rcases hB with h | h <;> omega
            have hnw : n ∉ wr2 := fun h' => hA (.inl ⟨hlt, h'⟩)
            rw [if_pos, f2 n (.inl ⟨hlt, hnw⟩)]
            simp only [List.mem_append]
            rcases hB with ⟨h1, h2⟩ | ⟨h1, h2⟩
            · exact .inl ⟨h1, .inr h2⟩
            · exact .inr ⟨h1, by omega⟩
          · rw [if_neg hB, if_neg]
            rintro (⟨h1, h2⟩ | ⟨h1, h2⟩)
            · simp only [List.mem_append] at h2
              rcases h2 with h2 | h2
              · exact hA (.inl ⟨by omega, h2⟩)
              · exact hB (.inl ⟨h1, h2⟩)
            · rcases Nat.lt_or_ge n s1.nxt with h' | h'
              · exact hB (.inr ⟨h1, h'⟩)
              · exact hA (.inr ⟨h', h2⟩)

theorem fr_congr {α : Type} {F G : St → Option (α × St)} (h : ∀ s, F s = G s) (hF : Fr F) : Fr G := by
  rw [← funext h]; exact hF

theorem Fr.cg {α : Type} {F G : St → Option (α × St)} (hF : Fr F) (h : ∀ s, F s = G s) : Fr G := by
  rw [← funext h]; exact hF

theorem fr_opt {α : Type} (x : Option α) : Fr (fun s => match x with | some a => some (a, s) | none => none) := by
  cases x with
  | none => exact fr_none
  | some a => exact fr_pure a

/-! ### the three things that touch the heap -/

theorem at_of {g : T Blk} {s : St} {n : Nat} {b : Blk} {r w : List Nat} (h : s.at n = some b) (hg : g.get n = s.h.get n) : (⟨g, s.nxt, r, w⟩ : St).at n = some b := by
  unfold St.at at h ⊢
  simp only [hg]
  exact h

theorem at_lt {s : St} {n : Nat} {b : Blk} (h : s.at n = some b) : n < s.nxt := by
  unfold St.at at h
  cases hb : Nat.blt n s.nxt with
  | true => exact Nat.le_of_ble_eq_true hb
  | false => rw [hb] at h; cases h

theorem fr_look (n : Nat) : Fr (fun s => match s.at n with | some b => some (b, { s with rd := n :: s.rd }) | none => none) := by
  intro s b s' h
  simp only at h
  cases e : s.at n with
  | none => rw [e] at h; cases h
  | some b0 =>
    rw [e] at h
    simp only [Option.some.injEq, Prod.mk.injEq] at h
    obtain ⟨rfl, rfl⟩ := h
    have hlt := at_lt e
    refine ⟨Nat.le_refl _, fun _ => ⟨[n], [], rfl, rfl, ?_, fun _ _ => rfl, fun g r2 w2 hag _ => ⟨g, ?_, fun m => ?_⟩⟩⟩
    · intro m hm; simp at hm; subst hm; exact hlt
    · simp only [at_of e (hag n hlt (.inl (by simp))), List.singleton_append, List.nil_append]
    · rw [if_neg]; simp

theorem fr_put (n : Nat) (b : Option Blk) : Fr (fun s => match s.at n with | some _ => some ((), { s with h := s.h.set n b, wr := n :: s.wr }) | none => none) := by
  intro s u s' h
  simp only at h
  cases e : s.at n with
  | none => rw [e] at h; cases h
  | some b0 =>
    rw [e] at h
    simp only [Option.some.injEq, Prod.mk.injEq] at h
    obtain ⟨_, rfl⟩ := h
    have hlt := at_lt e
    refine ⟨Nat.le_refl _, fun _ => ⟨[], [n], rfl, rfl, ?_, ?_, fun g r2 w2 hag _ => ⟨g.set n b, ?_, fun m => ?_⟩⟩⟩
    · intro m hm; simp at hm; subst hm; exact hlt
    · intro m hm
      have : m ≠ n := by
        rcases hm with ⟨_, h⟩ | h
        · simpa using h
        · simp only at h; omega
      exact T.get_set_ne _ _ this
    · simp only [at_of e (hag n hlt (.inr (by simp))), List.singleton_append, List.nil_append]
    · simp only [T.get_set]
      by_cases hm : m = n
      · subst hm; simp [hlt]
      · have : ¬ ((m < s.nxt ∧ m ∈ [n]) ∨ (s.nxt ≤ m ∧ m < s.nxt)) := by simp [hm]
        rw [if_neg this, if_neg hm]

theorem fr_alloc (b : Blk) : Fr (fun s => some (s.nxt, { s with h := s.h.set s.nxt (some b), nxt := s.nxt + 1 })) := by
  intro s u s' h
  simp only [Option.some.injEq, Prod.mk.injEq] at h
  obtain ⟨rfl, rfl⟩ := h
  refine ⟨by simp, fun _ => ⟨[], [], rfl, rfl, by simp, ?_, fun g r2 w2 _ _ => ⟨g.set s.nxt (some b), by simp, fun m => ?_⟩⟩⟩
  · intro m hm
    simp only
    refine T.get_set_ne _ _ ?_
    rcases hm with ⟨h, _⟩ | h
    · omega
    · simp only at h; omega
  · simp only [T.get_set]
    by_cases hm : m = s.nxt
    · subst hm; simp
    · have : ¬ ((m < s.nxt ∧ m ∈ ([] : List Nat)) ∨ (s.nxt ≤ m ∧ m < s.nxt + 1)) := by simp; omega
      rw [if_neg this, if_neg hm]

/-- a table of calls that keeps the law -/
def FrCall (call : CallF) : Prop := ∀ f args, Fr (call f args)

theorem fr_run {α : Type} {call : CallF} (hc : FrCall call) : ∀ m : EM α, Fr (m.run call)
  | .ret a => fr_pure a
  | .fail => fr_none
  | .look n k => (fr_bind (fr_look n) fun b => fr_run hc (k b)).cg fun s => by
      simp only [EM.run]
      cases s.at n <;> rfl
  | .put n b k => (fr_bind (fr_put n b) fun _ => fr_run hc k).cg fun s => by
      simp only [EM.run]
      cases s.at n <;> rfl
  | .alloc b k => (fr_bind (fr_alloc b) fun n => fr_run hc (k n)).cg fun s => by simp only [EM.run]
  | .call f args k => (fr_bind (hc f args) fun v => fr_run hc (k v)).cg fun s => by
      simp only [EM.run]
      rcases call f args s with _ | ⟨v, s1⟩ <;> rfl

/-! ### a piece with a footprint of its own -/

theorem mem_below {c n : Nat} {l : List Nat} : n ∈ below c l ↔ n ∈ l ∧ n < c := by
  unfold below
  rw [List.mem_filter]
  constructor
  · rintro ⟨h1, h2⟩; exact ⟨h1, Nat.le_of_ble_eq_true h2⟩
  · rintro ⟨h1, h2⟩; exact ⟨h1, Nat.ble_eq_true_of_le h2⟩

theorem fr_fenced {α : Type} {F : St → Option (α × St)} (hF : Fr F) : Fr (fenced F) := by
  intro s a s' h
  unfold fenced at h
  split at h
  · rename_i a1 s1 he
    simp only [Option.some.injEq, Prod.mk.injEq] at h
    obtain ⟨rfl, rfl⟩ := h
    obtain ⟨m1, k1⟩ := hF { s with rd := [], wr := [] } a1 s1 he
    refine ⟨m1, fun hfr => ?_⟩
    obtain ⟨rd1, wr1, er1, ew1, b1, f1, g1⟩ := k1 hfr
    simp only [List.append_nil] at er1 ew1
    refine ⟨below s.nxt s1.rd, below s.nxt s1.wr, rfl, rfl, ?_, ?_, ?_⟩
    · intro n hn
      simp only
      rcases hn with h | h
      · exact b1 n (.inl (by rw [← er1]; exact (mem_below.1 h).1))
      · exact b1 n (.inr (by rw [← ew1]; exact (mem_below.1 h).1))
    · intro n hn
      rcases hn with ⟨hn, hnw⟩ | hn
      · exact f1 n (.inl ⟨hn, fun h => hnw (mem_below.2 ⟨by rw [ew1]; exact h, hn⟩)⟩)
      · exact f1 n (.inr hn)
    · intro g r2 w2 hag hfree
      obtain ⟨g', hr, hv⟩ := g1 g [] [] (fun n hn h => hag n hn (by
        rcases h with h | h
        · exact .inl (mem_below.2 ⟨by rw [er1]; exact h, hn⟩)
        · exact .inr (mem_below.2 ⟨by rw [ew1]; exact h, hn⟩))) hfree
      refine ⟨g', ?_, fun n => ?_⟩
      · unfold fenced
        simp only at hr
        simp only [hr, List.append_nil, ← er1, ← ew1]
      · rw [hv]
        simp only
        have : (n < s.nxt ∧ n ∈ wr1 ∨ s.nxt ≤ n ∧ n < s1.nxt) ↔ (n < s.nxt ∧ n ∈ below s.nxt s1.wr ∨ s.nxt ≤ n ∧ n < s1.nxt) := by
          rw [mem_below, ew1]
          constructor
          · rintro (⟨h1, h2⟩ | h)
            · exact .inl ⟨h1, h2, h1⟩
            · exact .inr h
          · rintro (⟨h1, h2, _⟩ | h)
            · exact .inl ⟨h1, h2⟩
            · exact .inr h
        simp only [this]
  · cases h

/-! ### operations, regions, code, calls -/

section
variable {E : Env} {call : CallF} (hc : FrCall call)
include hc

theorem fr_val1 (ops : Array Oper) (o : Oper) (t : T AV) : Fr (val1 E call ops o t) := by
  cases hwa : wantedA ops t o with
  | true =>
    cases hxs : operands t o.op.operands.toList with
    | some xs => exact (fr_run hc (opE E o.op xs)).cg fun s => by simp only [val1, hwa, hxs]
    | none => exact fr_none.cg fun s => by simp only [val1, hwa, hxs]
  | false => exact (fr_pure undefA).cg fun s => by simp only [val1, hwa]

theorem fr_step1 (nt : Nat) (ops : Array Oper) (o : Oper) (t : T AV) : Fr (step1 E call nt ops o t) :=
  (fr_bind (fr_val1 hc ops o t) fun v => fr_opt (putA nt t o.dst v)).cg fun s => by
    unfold step1
    rcases val1 E call ops o t s with _ | ⟨v, s1⟩
    · rfl
    · simp only
      cases putA nt t o.dst v <;> rfl

theorem fr_runOps (nt : Nat) (ops : Array Oper) : ∀ (l : List Oper) (t : T AV), Fr (runOps E call nt ops l t)
  | [], t => fr_pure t
  | o :: l, t => (fr_bind (fr_step1 (E := E) hc nt ops o t) fun t => fr_runOps nt ops l t).cg fun s => by
      simp only [runOps]
      rcases step1 E call nt ops o t s with _ | ⟨t1, s1⟩ <;> rfl

theorem fr_runDraw (nt : Nat) (ops : Array Oper) (ms : List Nat) : ∀ (l : List Oper) (i : Nat) (acc : List Foot) (t : T AV), Fr (runDraw E call nt ops ms l i acc t)
  | [], _, _, t => fr_pure t
  | o :: l, i, acc, t => (fr_bind (fr_fenced (fr_step1 (E := E) hc nt ops o t)) (G := fun p => match clash (ms.getD i 0) p.2.1.1 p.2.1.2 acc with
      | true => fun _ => none
      | false => runDraw E call nt ops ms l (i + 1) (⟨i, p.2.1.1, p.2.1.2 ++ List.range' p.2.2.1 (p.2.2.2 - p.2.2.1)⟩ :: acc) p.1) fun p => by
        split
        · exact fr_none
        · exact fr_runDraw nt ops ms l _ _ _).cg fun s => by
      simp only [runDraw]
      cases fenced (step1 E call nt ops o t) s with
      | none => rfl
      | some p =>
        obtain ⟨⟨t1, f, c⟩, s1⟩ := p
        simp only
        split <;> simp_all

/-- a run of code, its state last -/
def tw {β : Type} (F : T AV × St → Option (β × (T AV × St))) (t : T AV) (s : St) : Option ((β × T AV) × St) :=
  match F (t, s) with | some (e, (t, s)) => some ((e, t), s) | none => none

/-- the law, for a piece of code -/
def FrC {β : Type} (F : T AV × St → Option (β × (T AV × St))) : Prop := ∀ t, Fr (tw F t)

omit hc in
theorem frC_bind {β γ : Type} {F : T AV × St → Option (β × (T AV × St))} {G : β → T AV × St → Option (γ × (T AV × St))} (hF : FrC F) (hG : ∀ b, FrC (G b)) :
    FrC (fun x => match F x with | some (b, x) => G b x | none => none) := fun t =>
  (fr_bind (hF t) fun p => hG p.1 p.2).cg fun s => by
    unfold tw
    simp only
    rcases F (t, s) with _ | ⟨b, t1, s1⟩ <;> rfl

omit hc in
theorem frC_pure {β : Type} (b : β) : FrC (fun x => some (b, x)) := fun t => (fr_pure (b, t)).cg fun _ => rfl

omit hc in
theorem frC_none {β : Type} : FrC (fun _ => (none : Option (β × (T AV × St)))) := fun _ => fr_none.cg fun _ => rfl

omit hc in
theorem frC_congr {β : Type} {F G : T AV × St → Option (β × (T AV × St))} (hF : FrC F) (h : ∀ x, F x = G x) : FrC G := by
  rw [← funext h]; exact hF

omit hc in
theorem frC_loop {F : T AV × St → Option (Ex × (T AV × St))} (hF : FrC F) : ∀ k, FrC (loopA F k)
  | 0 => frC_none
  | k + 1 => frC_congr (frC_bind hF (G := fun e => match e with | .normal => loopA F k | .exit i => fun x => some (.exit i, x) | .ret => fun x => some (.ret, x)) fun e => by
      cases e with
      | normal => exact frC_loop hF k
      | exit i => exact frC_pure _
      | ret => exact frC_pure _) fun x => by
    simp only [loopA]
    rcases F x with _ | ⟨e, x1⟩
    · rfl
    · cases e <;> rfl

theorem frC_code (nt L : Nat) : ∀ c : Code, FrC (codeA E call nt L c)
  | .skip => frC_congr (frC_pure Ex.normal) fun x => by simp only [codeA]
  | .region _ ops draw => fun t => by
    cases draw with
    | true =>
      exact (fr_bind (fr_runDraw (E := E) hc nt ops (masks ops.toList []) ops.toList 0 [] t) fun t => fr_pure (Ex.normal, t)).cg fun s => by
        simp only [tw, codeA]
        cases runDraw E call nt ops (masks ops.toList []) ops.toList 0 [] t s with
        | none => rfl
        | some p => rfl
    | false =>
      exact (fr_bind (fr_runOps (E := E) hc nt ops ops.toList t) fun t => fr_pure (Ex.normal, t)).cg fun s => by
        simp only [tw, codeA]
        cases runOps E call nt ops ops.toList t s with
        | none => rfl
        | some p => rfl
  | .seq a b => frC_congr (frC_bind (frC_code nt L a) (G := fun e => match e with | .normal => codeA E call nt L b | .exit i => fun x => some (.exit i, x) | .ret => fun x => some (.ret, x)) fun e => by
      cases e with
      | normal => exact frC_code nt L b
      | exit i => exact frC_pure _
      | ret => exact frC_pure _) fun x => by
    simp only [codeA]
    rcases codeA E call nt L a x with _ | ⟨e, x1⟩
    · rfl
    · cases e <;> rfl
  | .cond c a b => fun t => by
    by_cases h1 : operand t c = some (.sc (.bool true))
    · exact (frC_code nt L a t).cg fun s => by simp only [tw, codeA, h1]
    · by_cases h2 : operand t c = some (.sc (.bool false))
      · exact (frC_code nt L b t).cg fun s => by simp only [tw, codeA, h2]
      · exact fr_none.cg fun s => by
          simp only [tw, codeA]
  | .block id b => frC_congr (frC_bind (frC_code nt L b) (G := fun e x => match e with | .exit i => some (if i = id then .normal else .exit i, x) | .normal => some (.normal, x) | .ret => some (.ret, x)) fun e => by
      cases e with
      | normal => exact frC_pure _
      | exit i => exact frC_pure _
      | ret => exact frC_pure _) fun x => by
    simp only [codeA]
    rcases codeA E call nt L b x with _ | ⟨e, x1⟩
    · rfl
    · cases e <;> rfl
  | .loop b => frC_congr (frC_loop (frC_code nt L b) L) fun x => by simp only [codeA]
  | .exit id => frC_congr (frC_pure (Ex.exit id)) fun x => by simp only [codeA]
  | .ret => frC_congr (frC_pure Ex.ret) fun x => by simp only [codeA]
  | .label _ => frC_congr (frC_pure Ex.normal) fun x => by simp only [codeA]
  | .scope b => frC_congr (frC_code nt L b) fun x => by simp only [codeA]
  | .rangeFunc .. => frC_congr frC_none fun x => by simp only [codeA]
  | .goto _ => frC_congr frC_none fun x => by simp only [codeA]
  | .refuse _ => frC_congr frC_none fun x => by simp only [codeA]

theorem fr_res (t : T AV) : ∀ l, Fr (resAll E call t l)
  | [] => fr_pure []
  | x :: l => (fr_bind (fr_run hc (resOne E t x)) fun v => fr_bind (fr_res t l) fun vs => fr_pure (v :: vs)).cg fun s => by
      simp only [resAll]
      rcases (resOne E t x).run call s with _ | ⟨v, s1⟩
      · rfl
      · simp only
        rcases resAll E call t l s1 with _ | ⟨vs, s2⟩ <;> rfl

theorem fr_inner (L : Nat) (fn : Func) (body : Code) (args : List AV) : Fr (inner E call L fn body args) :=
  (fr_bind (frC_code (E := E) hc fn.ntmps L body (argsT args 0 .leaf)) (G := fun p => match p.1 with
      | .exit _ => fun _ => none
      | _ => fun s => match resAll E call p.2 fn.results.toList s with
        | some (vs, s) => some (joinR vs, s)
        | none => none) fun p => by
    have key : Fr (fun s => match resAll E call p.2 fn.results.toList s with
        | some (vs, s) => some (joinR vs, s)
        | none => none) := (fr_bind (fr_res (E := E) hc p.2 fn.results.toList) fun vs => fr_pure (joinR vs)).cg fun s => by
        rcases resAll E call p.2 fn.results.toList s with _ | ⟨v1, s1⟩ <;> rfl
    split
    · exact fr_none
    · exact key).cg fun s => by
  unfold inner tw
  rcases codeA E call fn.ntmps L body (argsT args 0 .leaf, s) with _ | ⟨e, t1, s1⟩
  · rfl
  · cases e <;> rfl

theorem fr_body (L : Nat) (fn : Func) (body : Code) (args : List AV) : Fr (bodyA E call L fn body args) := by
  intro s v s' h
  unfold bodyA at h
  split at h
  · rename_i v1 f c s1 he
    obtain ⟨m1, k1⟩ := fr_fenced (fr_inner (E := E) hc L fn body args) s _ s1 he
    have hs1 : s1.nxt = s'.nxt := by
      split at h
      · simp only [Option.some.injEq, Prod.mk.injEq] at h
        rw [← h.2]
      · simp only [Option.some.injEq, Prod.mk.injEq] at h
        rw [← h.2]
    refine ⟨by omega, fun hfr => ?_⟩
    obtain ⟨rd1, wr1, er1, ew1, b1, f1, g1⟩ := k1 (by rw [hs1]; exact hfr)
    -- what the piece's own footprint is
    have hf : f = (rd1, wr1) := by
      have he' := he
      unfold fenced at he'
      split at he'
      · simp only [Option.some.injEq, Prod.mk.injEq] at he'
        obtain ⟨⟨_, hf, _⟩, hs⟩ := he'
        subst hs
        simp only at er1 ew1
        rw [← hf, List.append_cancel_right er1, List.append_cancel_right ew1]
      · cases he'
    split at h
    · rename_i hcase
      simp only [Option.some.injEq, Prod.mk.injEq] at h
      obtain ⟨rfl, rfl⟩ := h
      have hwr : wr1 = [] := by
        simp only [Bool.and_eq_true, List.isEmpty_iff] at hcase
        rw [hf] at hcase; exact hcase.1
      subst hwr
      refine ⟨rd1, [], er1, ew1, b1, fun _ _ => rfl, ?_⟩
      intro g r2 w2 hag hfree
      obtain ⟨g', hr, hv⟩ := g1 g r2 w2 hag hfree
      refine ⟨g, ?_, fun n => ?_⟩
      · unfold bodyA
        simp only [hr, hcase]
      · split
        · rename_i hn
          rcases hn with ⟨_, h⟩ | ⟨h1, h2⟩
          · cases h
          · simp only at h2 ⊢
            rw [hfree n h1 h2, hfr n h1 h2]
        · rfl
    · rename_i hcase
      simp only [Option.some.injEq, Prod.mk.injEq] at h
      obtain ⟨rfl, rfl⟩ := h
      refine ⟨rd1, wr1, er1, ew1, b1, f1, ?_⟩
      intro g r2 w2 hag hfree
      obtain ⟨g', hr, hv⟩ := g1 g r2 w2 hag hfree
      refine ⟨g', ?_, hv⟩
      unfold bodyA
      simp only [hr, hcase]
  · cases h
end

/-- every call keeps the law, if those that are given by hand do -/
theorem fr_call {E : Env} (hp : ∀ f p, E.prim f = some p → ∀ args, Fr (p args)) (L : Nat) : ∀ k, FrCall (callA E L k)
  | 0 => fun f args => fr_none.cg fun s => by simp only [callA]
  | k + 1 => fun f args => by
    cases e : E.prim f with
    | some p => exact (hp f p e args).cg fun s => by simp only [callA, e]
    | none =>
      cases e2 : E.fn f with
      | none => exact fr_none.cg fun s => by simp only [callA, e, e2]
      | some fn =>
        cases e3 : fn.body with
        | none => exact fr_none.cg fun s => by simp only [callA, e, e2, e3]
        | some body => exact (fr_body (E := E) (fr_call hp L k) L fn body args).cg fun s => by simp only [callA, e, e2, e3]
end Go.Ab
