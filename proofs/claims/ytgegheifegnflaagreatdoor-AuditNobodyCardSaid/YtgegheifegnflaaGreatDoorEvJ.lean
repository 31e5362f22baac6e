/- The abstract evaluator held against the model: a region whose order is drawn. -/
import Derived.Test.YtgegheifegnflaaGreatDoorEvI
namespace Go.Ab
open Go.RowKit

/-! ### who wrote a place last -/

/-- the place's state when those of A among the first n have been run: the last of them that touches it has the word -/
def lastV {α : Type} (A : Nat → Bool) (touch : Nat → Nat → Bool) (st : Nat → Nat → α) : Nat → Nat → α
  | 0, x => st 0 x
  | k + 1, x => bif A k && touch k x then st (k + 1) x else lastV A touch st k x

section
variable {α : Type} {A : Nat → Bool} {touch : Nat → Nat → Bool} {st : Nat → Nat → α}

/-- a place that only those of A below i have touched is as it was at i in the text's order -/
theorem lastV_at {x i N : Nat} (hst : ∀ k, k < N → touch k x = false → st (k + 1) x = st k x) : ∀ n, n ≤ N → i ≤ n → (∀ k, k < n → touch k x = true → (A k = true ↔ k < i)) → lastV A touch st n x = st i x
  | 0, _, hi, _ => by have : i = 0 := by omega
                      subst this; rfl
  | n + 1, hN, hi, h => by
    simp only [lastV]
    rcases Nat.lt_or_ge n i with h1 | h1
    · have hin : i = n + 1 := by omega
      subst hin
      cases ht : touch n x with
      | true =>
        have := (h n (by omega) ht).2 (by omega)
        simp [this]
      | false =>
        simp only [Bool.and_false, cond_false]
        rw [hst n (by omega) ht]
        exact lastV_at (i := n) hst n (by omega) (Nat.le_refl _) (fun k hk ht' => ⟨fun _ => hk, fun _ => (h k (by omega) ht').2 (by omega)⟩)
    · have : (A n && touch n x) = false := by
        cases ht : touch n x with
        | false => simp
        | true =>
          cases hA : A n with
          | false => rfl
          | true => have := (h n (by omega) ht).1 hA; omega
      simp only [this, cond_false]
      exact lastV_at hst n (by omega) h1 (fun k hk => h k (by omega))

/-- one more has been run -/
theorem lastV_add {A' : Nat → Bool} {i x : Nat} (hA : ∀ k, A' k = (A k || k == i)) (hi : A i = false) : ∀ n, (∀ k, i < k → k < n → A k = true → touch k x = true → touch i x = false) →
    lastV A' touch st n x = if i < n ∧ touch i x = true then st (i + 1) x else lastV A touch st n x
  | 0, _ => by simp [lastV]
  | n + 1, h => by
    have ih := lastV_add hA hi n (fun k h1 h2 => h k h1 (by omega))
    simp only [lastV, hA n]
    by_cases hn : n = i
    · subst hn
      simp only [BEq.rfl, Bool.or_true, Bool.true_and, hi, Bool.false_and, cond_false]
      cases ht : touch n x with
      | true => simp
      | false => simp only [cond_false]; rw [ih]; simp
    · have hb : (n == i) = false := by simpa using hn
      simp only [hb, Bool.or_false]
      cases hc : (A n && touch n x) with
      | true =>
        simp only [cond_true]
        rw [Bool.and_eq_true] at hc
        rw [if_neg]
        rintro ⟨h1, h2⟩
        have := h n (by omega) (by omega) hc.1 hc.2
        rw [this] at h2; cases h2
      | false =>
        simp only [cond_false]
        rw [ih]
        by_cases hlt : i < n
        · simp [hlt, show i < n + 1 by omega]
        · simp [hlt, show ¬ i < n + 1 by omega]

theorem lastV_none (hA : ∀ k, A k = false) (x : Nat) : ∀ n, lastV A touch st n x = st 0 x
  | 0 => rfl
  | n + 1 => by simp only [lastV, hA n, Bool.false_and, cond_false]; exact lastV_none hA x n
end

/-! ### what is ordered behind what -/

theorem maskOf_bits {C : Nat → Prop} {acc : List Nat} (hacc : ∀ j, C j → ∀ i, (acc.getD j 0).testBit i = true → C i) : ∀ (l : List Edge) (m : Nat), (∀ i, m.testBit i = true → C i) →
    (∀ e ∈ l, Region.binds .any e = true → C e.on) → ∀ i, (l.foldl (fun s e => bif Region.binds .any e then s ||| 2 ^ e.on ||| acc.getD e.on 0 else s) m).testBit i = true → C i
  | [], _, hm, _ => hm
  | e :: l, m, hm, he => by
    simp only [List.foldl_cons]
    refine maskOf_bits hacc l _ (fun i hi => ?_) (fun e' h' => he e' (List.mem_cons_of_mem _ h'))
    cases hb : Region.binds .any e with
    | false => rw [hb] at hi; exact hm i hi
    | true =>
      rw [hb] at hi
      simp only [cond_true, Nat.testBit_or, Bool.or_eq_true] at hi
      have hC := he e (List.mem_cons_self) hb
      rcases hi with (hi | hi) | hi
      · exact hm i hi
      · rw [Nat.testBit_two_pow] at hi
        simp only [decide_eq_true_eq] at hi
        subst hi; exact hC
      · exact hacc _ hC i hi

theorem masks_bits {C : Nat → Prop} {ops : Array Oper} (hC : ∀ j o, ops[j]? = some o → C j → ∀ e ∈ o.after.toList, Region.binds .any e = true → C e.on) :
    ∀ (l : List Oper) (acc : List Nat), (∀ j, l[j]? = ops[acc.length + j]?) → (∀ j, C j → ∀ i, (acc.getD j 0).testBit i = true → C i) →
      ∀ j, C j → ∀ i, ((masks l acc).getD j 0).testBit i = true → C i
  | [], acc, _, h => h
  | o :: l, acc, hl, h => by
    have h0 : ops[acc.length]? = some o := by simpa using (hl 0).symm
    simp only [masks]
    refine masks_bits hC l _ (fun j => by have := hl (j + 1); simpa [Nat.add_assoc, Nat.add_comm 1 j] using this) (fun j hj i hi => ?_)
    rcases Nat.lt_or_ge j acc.length with h1 | h1
    · rw [List.getD_eq_getElem?_getD, List.getElem?_append_left h1, ← List.getD_eq_getElem?_getD] at hi
      exact h j hj i hi
    · rw [List.getD_eq_getElem?_getD, List.getElem?_append_right h1, ← List.getD_eq_getElem?_getD] at hi
      rcases Nat.lt_or_ge acc.length j with h2 | h2
      · rw [List.getD_eq_getElem?_getD, List.getElem?_eq_none (by simp; omega)] at hi
        simp at hi
      · have : j = acc.length := by omega
        subst this
        simp only [Nat.sub_self, List.getD_cons_zero] at hi
        exact maskOf_bits h _ 0 (by simp) (hC _ o h0 hj) i hi

/-! ### what must be seen in the text -/

def slotsOk (ops : Array Oper) (ms : List Nat) (y : Oper) (m : Nat) : List Oper → Nat → Bool
  | [], _ => true
  | x :: l, i => (m.testBit i || Oper.apart ops x y) && slotsOk ops ms y m l (i + 1)

def regionGo (ops : Array Oper) (ms : List Nat) : List Oper → Nat → Bool
  | [], _ => true
  | o :: l, j => o.after.toList.all (fun e => !Region.binds .any e || Nat.blt e.on j) && slotsOk ops ms o (ms.getD j 0) (ops.toList.take j) 0 && regionGo ops ms l (j + 1)

def regionOk (ops : Array Oper) : Bool := regionGo ops (masks ops.toList []) ops.toList 0

theorem slotsOk_spec {ops : Array Oper} {ms : List Nat} {y : Oper} {m : Nat} : ∀ (l : List Oper) (i : Nat), slotsOk ops ms y m l i = true → ∀ k x, l[k]? = some x → m.testBit (i + k) = false → Oper.apart ops x y = true
  | [], _, _, k, x, h, _ => by simp at h
  | x :: l, i, h, k, x', hk, hb => by
    simp only [slotsOk, Bool.and_eq_true, Bool.or_eq_true] at h
    cases k with
    | zero =>
      simp at hk; subst hk
      rcases h.1 with h1 | h1
      · simp only [Nat.add_zero] at hb; rw [hb] at h1; cases h1
      · exact h1
    | succ k => exact slotsOk_spec l (i + 1) h.2 k x' (by simpa using hk) (by rw [show i + 1 + k = i + (k + 1) by omega]; exact hb)

theorem regionGo_spec {ops : Array Oper} {ms : List Nat} : ∀ (l : List Oper) (j : Nat), (∀ k, l[k]? = ops[j + k]?) → regionGo ops ms l j = true → ∀ k o, j ≤ k → ops[k]? = some o →
    (∀ e ∈ o.after.toList, Region.binds .any e = true → e.on < k) ∧ (∀ i x, i < k → ops[i]? = some x → (ms.getD k 0).testBit i = false → Oper.apart ops x o = true)
  | [], j, hl, _, k, o, hk, ho => by
    have := hl (k - j)
    rw [show j + (k - j) = k by omega, ho] at this
    simp at this
  | o' :: l, j, hl, h, k, o, hk, ho => by
    simp only [regionGo, Bool.and_eq_true, List.all_eq_true, Bool.or_eq_true, Bool.not_eq_true'] at h
    by_cases hkj : k = j
    · subst hkj
      have h0 : ops[k]? = some o' := by simpa using (hl 0).symm
      rw [ho] at h0; cases h0
      refine ⟨fun e he hb => ?_, fun i x hi hx hm => ?_⟩
      · rcases h.1.1 e he with h1 | h1
        · rw [hb] at h1; cases h1
        · exact Nat.le_of_ble_eq_true h1
      · refine slotsOk_spec _ 0 h.1.2 i x ?_ (by rw [Nat.zero_add]; exact hm)
        rw [List.getElem?_take_of_lt hi]
        simpa using hx
    · exact regionGo_spec l (j + 1) (fun k => by have := hl (k + 1); simpa [Nat.add_assoc, Nat.add_comm 1 k] using this) h.2 k o (by omega) ho

theorem regionOk_spec {ops : Array Oper} (h : regionOk ops = true) (k : Nat) (o : Oper) (ho : ops[k]? = some o) :
    (∀ e ∈ o.after.toList, Region.binds .any e = true → e.on < k) ∧ (∀ i x, i < k → ops[i]? = some x → ((masks ops.toList []).getD k 0).testBit i = false → Oper.apart ops x o = true) :=
  regionGo_spec ops.toList 0 (by simp) h k o (Nat.zero_le _) ho

/-! ### the run in the text's order, written out -/

def apart3 (f : Foot) (rd wr : List Nat) : Prop := (∀ n, n ∈ f.wr → n ∉ rd) ∧ (∀ n, n ∈ f.wr → n ∉ wr) ∧ (∀ n, n ∈ wr → n ∉ f.rd)

theorem disj_spec {a b : List Nat} (h : disj a b = true) : ∀ n, n ∈ a → n ∉ b := by
  intro n hn hb
  unfold disj at h
  rw [List.all_eq_true] at h
  have := h n hn
  simp at this
  exact this hb

theorem clash_spec {m : Nat} {rd wr : List Nat} : ∀ {l : List Foot}, clash m rd wr l = false → ∀ f ∈ l, m.testBit f.i = false → apart3 f rd wr
  | [], _, f, hf, _ => by cases hf
  | g :: l, h, f, hf, hb => by
    simp only [clash, Bool.or_eq_false_iff] at h
    rcases List.mem_cons.1 hf with rfl | hf
    · have := h.1
      rw [hb] at this
      simp only [Bool.not_false, Bool.true_and, Bool.not_eq_false', Bool.and_eq_true] at this
      exact ⟨disj_spec this.1.1, disj_spec this.1.2, disj_spec this.2⟩
    · exact clash_spec h.2 f hf hb

structure Told (E : Env) (call : CallF) (nt : Nat) (ops : Array Oper) (ms : List Nat) (acc : List Foot) (i n : Nat) (T : Nat → T AV) (H : Nat → Ab.T Blk) (c : Nat → Nat) (V : Nat → AV) (RD WR : Nat → List Nat) : Prop where
  step : ∀ k, i ≤ k → k < n → ∃ o, ops[k]? = some o ∧ val1 E call ops o (T k) ⟨H k, c k, [], []⟩ = some (V k, ⟨H (k + 1), c (k + 1), RD k, WR k⟩) ∧ putA nt (T k) o.dst (V k) = some (T (k + 1))
  old : ∀ k, i ≤ k → k < n → ∀ f ∈ acc, (ms.getD k 0).testBit f.i = false → apart3 f (below (c k) (RD k)) (below (c k) (WR k))
  pair : ∀ j k, i ≤ j → j < k → k < n → (ms.getD k 0).testBit j = false → apart3 ⟨j, below (c j) (RD j), below (c j) (WR j) ++ List.range' (c j) (c (j + 1) - c j)⟩ (below (c k) (RD k)) (below (c k) (WR k))

theorem runDraw_told {E : Env} {call : CallF} {nt : Nat} {ops : Array Oper} {ms : List Nat} : ∀ (l : List Oper) (i : Nat) (acc : List Foot) (t t' : T AV) (s s' : St), (∀ j, l[j]? = ops[i + j]?) →
    runDraw E call nt ops ms l i acc t s = some (t', s') → ∃ T H c V RD WR, T i = t ∧ H i = s.h ∧ c i = s.nxt ∧ T (i + l.length) = t' ∧ H (i + l.length) = s'.h ∧ c (i + l.length) = s'.nxt ∧
      Told E call nt ops ms acc i (i + l.length) T H c V RD WR
  | [], i, acc, t, t', s, s', _, h => by
    simp only [runDraw, Option.some.injEq, Prod.mk.injEq] at h
    obtain ⟨rfl, rfl⟩ := h
    exact ⟨fun _ => t, fun _ => s.h, fun _ => s.nxt, fun _ => undefA, fun _ => [], fun _ => [], rfl, rfl, rfl, rfl, rfl, rfl,
      ⟨fun k h1 h2 => by simp at h2; omega, fun k h1 h2 => by simp at h2; omega, fun j k h1 h2 h3 => by simp at h3; omega⟩⟩
  | o :: l, i, acc, t, t', s, s', hl, h => by
    have h0 : ops[i]? = some o := by simpa using (hl 0).symm
    simp only [runDraw] at h
    cases hf : fenced (step1 E call nt ops o t) s with
    | none => rw [hf] at h; cases h
    | some p =>
      obtain ⟨⟨t1, f, cc⟩, s1⟩ := p
      rw [hf] at h
      simp only at h
      cases hcl : clash (ms.getD i 0) f.1 f.2 acc with
      | true => rw [hcl] at h; cases h
      | false =>
        rw [hcl] at h
        simp only at h
        obtain ⟨T, H, c, V, RD, WR, e1, e2, e3, e4, e5, e6, D⟩ := runDraw_told l (i + 1) _ t1 t' s1 s' (fun k => by have := hl (k + 1); simpa [Nat.add_assoc, Nat.add_comm 1 k] using this) h
        -- the first step
        unfold fenced at hf
        cases hs : step1 E call nt ops o t { s with rd := [], wr := [] } with
        | none => rw [hs] at hf; cases hf
        | some q =>
          obtain ⟨t1', s2⟩ := q
          rw [hs] at hf
          simp only [Option.some.injEq, Prod.mk.injEq] at hf
          obtain ⟨⟨rfl, hf, hcc⟩, rfl⟩ := hf
          unfold step1 at hs
          cases hv : val1 E call ops o t { s with rd := [], wr := [] } with
          | none => rw [hv] at hs; cases hs
          | some q =>
            obtain ⟨v, s3⟩ := q
            rw [hv] at hs
            simp only at hs
            cases hp : putA nt t o.dst v with
            | none => rw [hp] at hs; cases hs
            | some t3 =>
              rw [hp] at hs
              simp only [Option.some.injEq, Prod.mk.injEq] at hs
              obtain ⟨rfl, rfl⟩ := hs
              subst hf
              subst hcc
              have ne : ∀ k, i + 1 ≤ k → (k ≤ i) = False := fun k hk => by simp; omega
              refine ⟨fun k => if k ≤ i then t else T k, fun k => if k ≤ i then s.h else H k, fun k => if k ≤ i then s.nxt else c k, fun k => if k ≤ i then v else V k,
                fun k => if k ≤ i then s3.rd else RD k, fun k => if k ≤ i then s3.wr else WR k, by simp, by simp, by simp, ?_, ?_, ?_, ⟨?_, ?_, ?_⟩⟩
              · rw [show i + (o :: l).length = i + 1 + l.length by simp; omega]
                simp only [ne _ (show i + 1 ≤ i + 1 + l.length by omega), if_false]; exact e4
              · rw [show i + (o :: l).length = i + 1 + l.length by simp; omega]
                simp only [ne _ (show i + 1 ≤ i + 1 + l.length by omega), if_false]; exact e5
              · rw [show i + (o :: l).length = i + 1 + l.length by simp; omega]
                simp only [ne _ (show i + 1 ≤ i + 1 + l.length by omega), if_false]; exact e6
              · intro k h1 h2
                by_cases hk : k = i
                · subst hk
                  refine ⟨o, h0, ?_, ?_⟩
                  · simp only [Nat.le_refl, if_true, ne _ (Nat.le_refl (k + 1)), if_false, e2, e3]; exact hv
                  · simp only [Nat.le_refl, if_true, ne _ (Nat.le_refl (k + 1)), if_false, e1]; exact hp
                · obtain ⟨o', g1, g2, g3⟩ := D.step k (by omega) (by simp only [List.length_cons] at h2; omega)
                  refine ⟨o', g1, ?_, ?_⟩
                  · simp only [ne k (by omega), ne (k + 1) (by omega), if_false]; exact g2
                  · simp only [ne k (by omega), ne (k + 1) (by omega), if_false]; exact g3
              · intro k h1 h2 f' hf' hb
                by_cases hk : k = i
                · subst hk
                  simp only [Nat.le_refl, if_true]
                  exact clash_spec hcl f' hf' hb
                · simp only [ne k (by omega), if_false]
                  exact D.old k (by omega) (by simp only [List.length_cons] at h2; omega) f' (List.mem_cons_of_mem _ hf') hb
              · intro j k h1 h2 h3 hb
                by_cases hj : j = i
                · subst hj
                  have := D.old k (by omega) (by simp only [List.length_cons] at h3; omega) _ (List.mem_cons_self) hb
                  simp only [Nat.le_refl, if_true, ne _ (Nat.le_refl (j + 1)), ne k (by omega), if_false, e3]
                  exact this
                · simp only [ne j (by omega), ne (j + 1) (by omega), ne k (by omega), if_false]
                  exact D.pair j k (by omega) h2 (by simp only [List.length_cons] at h3; omega) hb
end Go.Ab
