/- The abstract evaluator held against the model: whatever order is drawn, the region comes to what it comes to in the text's order. -/
import Derived.Test.YtgegheifegnflaaGreatDoorEvJ
namespace Go.Ab
open Go.RowKit

theorem operand_congr {t t' : T AV} {x : Operand} (h : ∀ d, x = .tmp d → t.get d = t'.get d) : operand t x = operand t' x := by
  cases x with
  | tmp i => simp only [operand, h i rfl]
  | _ => rfl

theorem operands_congr {t t' : T AV} : ∀ (l : List Operand), (∀ d, .tmp d ∈ l → t.get d = t'.get d) → operands t l = operands t' l
  | [], _ => rfl
  | x :: l, h => by
    have h1 : operand t x = operand t' x := operand_congr fun d e => h d (by rw [e]; exact List.mem_cons_self)
    simp only [operands, h1, operands_congr l (fun d hd => h d (List.mem_cons_of_mem _ hd))]

theorem val1_congr {E : Env} {call : CallF} {ops : Array Oper} {o : Oper} {t t' : T AV} (h : ∀ d, d ∈ o.looksAt ops → t.get d = t'.get d) (s : St) : val1 E call ops o t s = val1 E call ops o t' s := by
  have h1 : wantedA ops t o = wantedA ops t' o := by
    unfold wantedA
    cases hg : o.guard with
    | none => rfl
    | some g =>
      obtain ⟨j, want⟩ := g
      simp only
      cases hd : (ops[j]?).bind (·.dst) with
      | none => rfl
      | some d => simp only [h d (by simp [Oper.looksAt, hg, hd])]
  have h2 : operands t o.op.operands.toList = operands t' o.op.operands.toList :=
    operands_congr _ fun d hd => h d (by unfold Oper.looksAt; exact List.mem_append_left _ (List.mem_filterMap.2 ⟨.tmp d, hd, rfl⟩))
  unfold val1
  rw [h1, h2]

theorem filter_lt {p q : Nat → Bool} (hpq : ∀ x, p x = true → q x = true) {y : Nat} (hy : q y = true) (hy' : p y = false) : ∀ l : List Nat, y ∈ l → (l.filter p).length < (l.filter q).length := by
  have le : ∀ l : List Nat, (l.filter p).length ≤ (l.filter q).length := by
    intro l
    induction l with
    | nil => simp
    | cons x l ih =>
      simp only [List.filter_cons]
      cases hx : p x with
      | true => simp [hpq x hx, ih]
      | false => cases q x <;> simp <;> omega
  intro l
  induction l with
  | nil => intro h; cases h
  | cons x l ih =>
    intro h
    simp only [List.filter_cons]
    by_cases hxy : x = y
    · subst hxy
      simp only [hy, hy', if_true, Bool.false_eq_true, if_false, List.length_cons]
      have := le l
      omega
    · have := ih ((List.mem_cons.1 h).resolve_left (Ne.symm hxy))
      cases hx : p x with
      | true => simp [hpq x hx, this]
      | false => cases q x <;> simp <;> omega

theorem rep_false (n k : Nat) : (Array.replicate n false).getD k false = false := by
  rw [Array.getD_eq_getD_getElem?, Array.getElem?_replicate]
  split <;> rfl

def touchS (ops : Array Oper) (k d : Nat) : Bool := match ops[k]? with | some o => o.dst == some d | none => false
def touchH (c : Nat → Nat) (WR : Nat → List Nat) (k m : Nat) : Bool := (Nat.blt m (c k) && (WR k).elem m) || (Nat.ble (c k) m && Nat.blt m (c (k + 1)))

theorem touchH_iff {c : Nat → Nat} {WR : Nat → List Nat} {k m : Nat} : touchH c WR k m = true ↔ (m < c k ∧ m ∈ WR k) ∨ (c k ≤ m ∧ m < c (k + 1)) := by
  unfold touchH
  rw [Bool.or_eq_true, Bool.and_eq_true, Bool.and_eq_true]
  have e1 : ∀ a b, Nat.blt a b = true ↔ a < b := fun a b => ⟨fun h => Nat.le_of_ble_eq_true h, fun h => Nat.ble_eq_true_of_le h⟩
  have e2 : ∀ a b, Nat.ble a b = true ↔ a ≤ b := fun a b => ⟨fun h => Nat.le_of_ble_eq_true h, fun h => Nat.ble_eq_true_of_le h⟩
  rw [e1, e1, e2]
  simp

theorem mem_wr {c : Nat → Nat} {WR : Nat → List Nat} {k m : Nat} (h : touchH c WR k m = true) : m ∈ below (c k) (WR k) ++ List.range' (c k) (c (k + 1) - c k) := by
  rw [touchH_iff] at h
  rw [List.mem_append]
  rcases h with h | h
  · exact .inl (mem_below.2 ⟨h.2, h.1⟩)
  · refine .inr ?_
    rw [List.mem_range']
    exact ⟨m - c k, by omega, by omega⟩

section
variable {P : Program} {B0 : Nat} {w0 : World} {E : Env} {call : CallF} (hE : EnvOk P E) (hcall : CallOk P B0 w0 call) (hc : FrCall call)
include hc

theorem told_mono {nt : Nat} {ops : Array Oper} {ms : List Nat} {n : Nat} {T : Nat → T AV} {H : Nat → Ab.T Blk} {c : Nat → Nat} {V : Nat → AV} {RD WR : Nat → List Nat} (D : Told E call nt ops ms [] 0 n T H c V RD WR)
    (j : Nat) : ∀ k, j ≤ k → k ≤ n → c j ≤ c k
  | 0, h, _ => by have : j = 0 := by omega
                  subst this; exact Nat.le_refl _
  | k + 1, h, hk => by
    rcases Nat.lt_or_ge j (k + 1) with h1 | h1
    · obtain ⟨o, _, hv, _⟩ := D.step k (Nat.zero_le _) (by omega)
      exact Nat.le_trans (told_mono D j k (by omega) (by omega)) (fr_val1 (E := E) hc ops o (T k) ⟨H k, c k, [], []⟩ _ _ hv).1
    · have : j = k + 1 := by omega
      subst this; exact Nat.le_refl _

theorem told_free {nt : Nat} {ops : Array Oper} {ms : List Nat} {n : Nat} {T : Nat → T AV} {H : Nat → Ab.T Blk} {c : Nat → Nat} {V : Nat → AV} {RD WR : Nat → List Nat} (D : Told E call nt ops ms [] 0 n T H c V RD WR)
    (h0 : ∀ m, c 0 ≤ m → m < c n → (H 0).get m = none) : ∀ k, k ≤ n → ∀ m, c k ≤ m → m < c n → (H k).get m = none
  | 0, _ => h0
  | k + 1, hk => by
    intro m h1 h2
    obtain ⟨o, _, hv, _⟩ := D.step k (Nat.zero_le _) (by omega)
    obtain ⟨m1, F⟩ := fr_val1 (E := E) hc ops o (T k) ⟨H k, c k, [], []⟩ _ _ hv
    have ih := told_free D h0 k (by omega)
    have m2 := told_mono hc D (k + 1) n (by omega) (Nat.le_refl _)
    obtain ⟨rd, wr, er, ew, b1, f1, _⟩ := F (fun m h1 h2 => ih m h1 (by simp only at h2; omega))
    have := f1 m (.inr h1)
    simp only at this m1
    rw [this]
    exact ih m (by omega) h2

theorem told_step {nt : Nat} {ops : Array Oper} {ms : List Nat} {n : Nat} {T : Nat → T AV} {H : Nat → Ab.T Blk} {c : Nat → Nat} {V : Nat → AV} {RD WR : Nat → List Nat} (D : Told E call nt ops ms [] 0 n T H c V RD WR)
    (h0 : ∀ m, c 0 ≤ m → m < c n → (H 0).get m = none) (k : Nat) (hk : k < n) : (∀ m, touchH c WR k m = false → (H (k + 1)).get m = (H k).get m) ∧ (∀ d, touchS ops k d = false → (T (k + 1)).get d = (T k).get d) := by
  obtain ⟨o, ho, hv, hp⟩ := D.step k (Nat.zero_le _) hk
  obtain ⟨m1, F⟩ := fr_val1 (E := E) hc ops o (T k) ⟨H k, c k, [], []⟩ _ _ hv
  have m2 := told_mono hc D (k + 1) n (by omega) (Nat.le_refl _)
  obtain ⟨rd, wr, er, ew, b1, f1, _⟩ := F (fun m h1 h2 => told_free hc D h0 k (by omega) m h1 (by simp only at h2; omega))
  simp only [List.append_nil] at er ew m1
  refine ⟨fun m hm => ?_, fun d hd => ?_⟩
  · have hm' : ¬ ((m < c k ∧ m ∈ WR k) ∨ (c k ≤ m ∧ m < c (k + 1))) := by rw [← touchH_iff, hm]; simp
    refine f1 m ?_
    rcases Nat.lt_or_ge m (c k) with h | h
    · exact .inl ⟨h, fun h' => hm' (.inl ⟨h, by rw [ew]; exact h'⟩)⟩
    · right
      rcases Nat.lt_or_ge m (c (k + 1)) with h' | h'
      · exact absurd (.inr ⟨h, h'⟩) hm'
      · exact h'
  · have hd' : o.dst ≠ some d := by
      intro e
      simp [touchS, ho, e] at hd
    cases hdst : o.dst with
    | none => rw [hdst] at hp; simp only [putA, Option.some.injEq] at hp; rw [hp]
    | some d' =>
      rw [hdst] at hp
      simp only [putA] at hp
      cases hb : Nat.blt d' nt with
      | false => rw [hb] at hp; simp at hp
      | true =>
        rw [hb] at hp
        simp only [cond_true, Option.some.injEq] at hp
        rw [← hp]
        exact Ab.T.get_set_ne _ _ (fun e => hd' (by rw [hdst, e]))

include hE hcall

theorem draw_run {nt : Nat} {ops : Array Oper} (hok : regionOk ops = true) {t t' : T AV} {s s' : St} (h : runDraw E call nt ops (masks ops.toList []) ops.toList 0 [] t s = some (t', s')) :
    s.nxt ≤ s'.nxt ∧ ∀ {M0 : Mp} {w : World} {a : Act}, Ok B0 w0 nt M0 t s.h a w → Fresh M0 s.nxt s'.nxt → ∀ (Q : Exit → Act → World → Prop),
      (∀ M' w' a', Grow M0 M' s.nxt s'.nxt → Ok B0 w0 nt M' t' s'.h a' w' → Q .normal a' w') → wpAny P .any ops Q ops.size (Array.replicate ops.size false) a w := by
  obtain ⟨T, H, c, V, RD, WR, rfl, e2, e3, rfl, e5, e6, D⟩ := runDraw_told ops.toList 0 [] t t' s s' (by simp) h
  rw [Nat.zero_add] at *
  have hn : ops.toList.length = ops.size := by simp
  rw [hn] at e5 e6 D
  generalize hms : masks ops.toList [] = ms at h D
  have mono := told_mono hc D
  refine ⟨by rw [← e3, ← e6]; exact mono 0 _ (Nat.zero_le _) (Nat.le_refl _), fun {M0 w a} ok0 hf Q hQ => ?_⟩
  rw [← e3, ← e6] at hf hQ
  rw [← e5] at hQ
  rw [← e2] at ok0
  rw [hn] at hQ
  have h0 : ∀ m, c 0 ≤ m → m < c ops.size → (H 0).get m = none := by
    intro m h1 h2
    cases hg : (H 0).get m with
    | none => rfl
    | some b =>
      obtain ⟨z, hz, _⟩ := ok0.inv.blk m b hg
      rw [hf m h1 h2] at hz
      cases hz
  have step := told_step hc D h0
  -- what holds all along
  have key : ∀ (fuel : Nat) (listed : Array Bool) (a : Act) (w : World), listed.size = ops.size → ((List.range ops.size).filter fun k => !listed.getD k true).length ≤ fuel →
      (∀ j o, ops[j]? = some o → listed.getD j false = true → ∀ e ∈ o.after.toList, Region.binds .any e = true → listed.getD e.on false = true) →
      (∃ M g tE, Ok B0 w0 nt M tE g a w ∧ M0.le M ∧ (∀ m, M.m m ≠ none → M0.m m ≠ none ∨ ∃ k, k < ops.size ∧ listed.getD k false = true ∧ c k ≤ m ∧ m < c (k + 1)) ∧
        (∀ d, tE.get d = lastV (fun k => listed.getD k false) (touchS ops) (fun k => (T k).get) ops.size d) ∧
        (∀ m, g.get m = lastV (fun k => listed.getD k false) (touchH c WR) (fun k => (H k).get) ops.size m)) → wpAny P .any ops Q fuel listed a w := by
    intro fuel
    induction fuel with
    | zero => ?_
    | succ fuel ih => ?_
    all_goals
      intro listed a w hsz hcnt hcl ⟨M, g, tE, ok, hle, hnm, hts, hhs⟩
      -- listed is one thing, within the bounds
      have hd : ∀ k, k < ops.size → listed.getD k true = listed.getD k false := by
        intro k hk
        have : k < listed.size := by omega
        simp [this]
      have fin : Region.ready .any ops listed = [] → Q .normal a w := by
        intro hr
        have all : ∀ k, k < ops.size → listed.getD k false = true := by
          intro k
          induction k using Nat.strongRecOn with
          | _ k ihk =>
            intro hk
            cases hl : listed.getD k false with
            | true => rfl
            | false =>
              exfalso
              have hko : ops[k]? = some ops[k] := by simp [hk]
              have : k ∈ Region.ready .any ops listed := by
                rw [mem_ready]
                refine ⟨by rw [hd k hk]; exact hl, ops[k], hko, fun e he hb => ?_⟩
                have hlt := (regionOk_spec hok k _ hko).1 e (by simpa using he) hb
                exact ihk e.on hlt (by omega)
              rw [hr] at this
              cases this
        refine hQ M w a ⟨hle, fun m hm => ?_⟩ ⟨ok.inv.sub fun m b hm => ?_, fun d => ?_, ok.size, ok.defers⟩
        · rcases hnm m hm with h1 | ⟨k, h1, _, h3, h4⟩
          · exact .inl h1
          · exact .inr ⟨Nat.le_trans (mono 0 k (Nat.zero_le _) (by omega)) h3, Nat.lt_of_lt_of_le h4 (mono (k + 1) _ (by omega) (Nat.le_refl _))⟩
        · rw [hhs m, lastV_at (fun k hk ht => (step k hk).1 m ht) ops.size (Nat.le_refl _) (Nat.le_refl _) (fun k hk _ => ⟨fun _ => hk, fun _ => all k hk⟩)]
          exact hm
        · have : slotA (T ops.size) d = slotA tE d := by
            unfold slotA
            rw [hts d, lastV_at (fun k hk ht => (step k hk).2 d ht) ops.size (Nat.le_refl _) (Nat.le_refl _) (fun k hk _ => ⟨fun _ => hk, fun _ => all k hk⟩)]
          rw [this]
          exact ok.slots d
    · refine ⟨?_, fin ?_⟩
      all_goals
        cases hr : Region.ready .any ops listed with
        | nil => rfl
        | cons k l =>
          exfalso
          have hk : k ∈ Region.ready .any ops listed := by rw [hr]; exact List.mem_cons_self
          obtain ⟨hk1, o, hk2, _⟩ := mem_ready.1 hk
          have hlt : k < ops.size := by
            rcases Nat.lt_or_ge k ops.size with h' | h'
            · exact h'
            · simp [Array.getElem?_eq_none h'] at hk2
          have : k ∈ (List.range ops.size).filter fun k => !listed.getD k true := by
            rw [List.mem_filter]
            exact ⟨List.mem_range.2 hlt, by rw [hk1]; rfl⟩
          have hz : (List.range ops.size).filter (fun k => !listed.getD k true) = [] := List.eq_nil_of_length_eq_zero (by omega)
          rw [hz] at this
          cases this
    · refine ⟨fin, fun i hi => ?_⟩
      obtain ⟨hi1, o, ho, hi3⟩ := mem_ready.1 hi
      have hlt : i < ops.size := by
        rcases Nat.lt_or_ge i ops.size with h' | h'
        · exact h'
        · simp [Array.getElem?_eq_none h'] at ho
      have hiA : listed.getD i false = false := by rw [← hd i hlt]; exact hi1
      obtain ⟨o', ho', hv, hp⟩ := D.step i (Nat.zero_le _) hlt
      rw [ho] at ho'; cases ho'
      -- what is ordered
      have F2 : ∀ k, listed.getD k false = true → (ms.getD k 0).testBit i = false := by
        intro k hk
        cases hb : (ms.getD k 0).testBit i with
        | false => rfl
        | true =>
          have := masks_bits (C := fun k => listed.getD k false = true) (ops := ops) hcl ops.toList [] (by simp) (by simp) k hk i (by rw [hms]; exact hb)
          rw [hiA] at this
          cases this
      have F3 : ∀ k, k < i → listed.getD k false = false → (ms.getD i 0).testBit k = false := by
        intro k hki hk
        cases hb : (ms.getD i 0).testBit k with
        | false => rfl
        | true =>
          have := masks_bits (C := fun k => listed.getD k false = true ∨ k = i) (ops := ops) (fun j oj hj hC e he hbd => by
            rcases hC with hC | rfl
            · exact .inl (hcl j oj hj hC e he hbd)
            · rw [ho] at hj; cases hj
              exact .inl (hi3 e (by simpa using he) hbd)) ops.toList [] (by simp) (by simp) i (.inr rfl) k (by rw [hms]; exact hb)
          rcases this with h1 | h1
          · rw [hk] at h1; cases h1
          · omega
      have hspec := fun k o ho => (regionOk_spec hok k o ho).2
      rw [hms] at hspec
      have getop : ∀ k, k < ops.size → ops[k]? = some (ops[k]?.getD o) := fun k hk => by simp [hk]
      have Slook : ∀ d, d ∈ o.looksAt ops → tE.get d = (T i).get d := by
        intro d hdl
        rw [hts d]
        refine lastV_at (fun k hk ht => (step k hk).2 d ht) ops.size (Nat.le_refl _) (by omega) (fun k hk ht => ?_)
        have hok' := getop k hk
        have hdst : (ops[k]?.getD o).dst = some d := by
          unfold touchS at ht
          rw [hok'] at ht
          simpa using ht
        constructor
        · intro hA
          rcases Nat.lt_trichotomy k i with h1 | h1 | h1
          · exact h1
          · subst h1; rw [hiA] at hA; cases hA
          · exact absurd hdl ((Oper.apart_spec (hspec k _ hok' i o h1 ho (F2 k hA))).2.2 d hdst)
        · intro hki
          cases hA : listed.getD k false with
          | true => rfl
          | false => exact absurd hdl ((Oper.apart_spec (hspec i o ho k _ hki hok' (F3 k hki hA))).1 d hdst)
      have Hlook : ∀ m, ((m < c i ∧ (m ∈ RD i ∨ m ∈ WR i)) ∨ (c i ≤ m ∧ m < c (i + 1))) → g.get m = (H i).get m := by
        intro m hm
        rw [hhs m]
        refine lastV_at (fun k hk ht => (step k hk).1 m ht) ops.size (Nat.le_refl _) (by omega) (fun k hk ht => ?_)
        constructor
        · intro hA
          rcases Nat.lt_trichotomy k i with h1 | h1 | h1
          · exact h1
          · subst h1; rw [hiA] at hA; cases hA
          · exfalso
            have ap := D.pair i k (Nat.zero_le _) h1 hk (F2 k hA)
            have hck : c (i + 1) ≤ c k := mono (i + 1) k (by omega) (by omega)
            have hci := mono i (i + 1) (by omega) (by omega)
            rcases touchH_iff.1 ht with ⟨g1, g2⟩ | ⟨g1, g2⟩
            · have hb : m ∈ below (c k) (WR k) := mem_below.2 ⟨g2, g1⟩
              rcases hm with ⟨h2, h3 | h3⟩ | h2
              · exact ap.2.2 m hb (mem_below.2 ⟨h3, h2⟩)
              · exact ap.2.1 m (mem_wr (touchH_iff.2 (.inl ⟨h2, h3⟩))) hb
              · exact ap.2.1 m (mem_wr (touchH_iff.2 (.inr h2))) hb
            · rcases hm with ⟨h2, _⟩ | h2 <;> omega
        · intro hki
          cases hA : listed.getD k false with
          | true => rfl
          | false =>
            exfalso
            have ap := D.pair k i (Nat.zero_le _) hki hlt (F3 k hki hA)
            have hck : c (k + 1) ≤ c i := mono (k + 1) i (by omega) (by omega)
            have hkk := mono k (k + 1) (by omega) (by omega)
            have hmw := mem_wr ht
            rcases hm with ⟨h2, h3 | h3⟩ | h2
            · exact ap.1 m hmw (mem_below.2 ⟨h3, h2⟩)
            · exact ap.2.1 m hmw (mem_below.2 ⟨h3, h2⟩)
            · rcases touchH_iff.1 ht with ⟨g1, g2⟩ | ⟨g1, g2⟩ <;> omega
      -- the operation, run where it is run
      have mi := mono (i + 1) ops.size (by omega) (Nat.le_refl _)
      obtain ⟨m1, F⟩ := fr_val1 (E := E) hc ops o (T i) ⟨H i, c i, [], []⟩ _ _ hv
      obtain ⟨rd, wr, er, ew, b1, f1, run⟩ := F (fun m h1 h2 => told_free hc D h0 i (by omega) m h1 (by simp only at h2; omega))
      simp only [List.append_nil] at er ew
      subst er
      subst ew
      obtain ⟨g', hrun, hg'⟩ := run g [] [] (fun m hm hmm => Hlook m (.inl ⟨hm, hmm⟩)) (fun m h1 h2 => by
        rw [Hlook m (.inr ⟨h1, h2⟩)]
        exact told_free hc D h0 i (by omega) m h1 (by simp only at h2; omega))
      rw [← val1_congr Slook] at hrun
      simp only [List.append_nil] at hrun
      have fresh : Fresh M (c i) (c (i + 1)) := by
        intro m h1 h2
        cases hm : M.m m with
        | none => rfl
        | some z =>
          exfalso
          rcases hnm m (by rw [hm]; simp) with h3 | ⟨k, h3, h4, h5, h6⟩
          · exact h3 (hf m (Nat.le_trans (mono 0 i (Nat.zero_le _) (by omega)) h1) (Nat.lt_of_lt_of_le h2 (mono (i + 1) _ (by omega) (Nat.le_refl _))))
          · rcases Nat.lt_trichotomy k i with h7 | h7 | h7
            · have := mono (k + 1) i (by omega) (by omega); omega
            · subst h7; rw [hiA] at h4; cases h4
            · have := mono (i + 1) k (by omega) (by omega); omega
      unfold wpOp
      rw [ho]
      simp only
      -- the slot
      have hput : ∃ tE', putA nt tE o.dst (V i) = some tE' ∧ ∀ d, tE'.get d = if touchS ops i d = true then (T (i + 1)).get d else tE.get d := by
        cases hdst : o.dst with
        | none =>
          refine ⟨tE, rfl, fun d => ?_⟩
          have : touchS ops i d = false := by simp [touchS, ho, hdst]
          simp [this]
        | some d' =>
          rw [hdst] at hp
          simp only [putA] at hp ⊢
          cases hb : Nat.blt d' nt with
          | false => rw [hb] at hp; simp at hp
          | true =>
            rw [hb] at hp
            simp only [cond_true, Option.some.injEq] at hp
            refine ⟨_, rfl, fun d => ?_⟩
            rw [Ab.T.get_set, ← hp, Ab.T.get_set]
            by_cases hdd : d = d'
            · subst hdd; simp [touchS, ho, hdst]
            · have : touchS ops i d = false := by simp [touchS, ho, hdst, Ne.symm hdd]
              simp [hdd, this]
      obtain ⟨tE', hpE, hgE⟩ := hput
      obtain ⟨_, vr⟩ := val_run hE hcall hrun
      refine vr ok.inv ok.slots fresh _ Q fun M' w' cv gr I' hv' => ?_
      have hA : ∀ k, (listed.setIfInBounds i true).getD k false = (listed.getD k false || k == i) := by
        intro k
        by_cases hki : k = i
        · subst hki
          have : k < listed.size := by omega
          simp [this]
        · rw [getD_set_ne false (Ne.symm hki)]
          simp [hki]
      refine ih _ _ _ (by simp [hsz]) ?_ ?_ ⟨M', g', tE', put_rel ok gr.1 I' hpE hv', M0.le_trans hle gr.1, ?_, ?_, ?_⟩
      · have : ((List.range ops.size).filter fun k => !(listed.setIfInBounds i true).getD k true).length < ((List.range ops.size).filter fun k => !listed.getD k true).length := by
          refine filter_lt (y := i) (fun x hx => ?_) (by rw [hi1]; rfl) ?_ _ (List.mem_range.2 hlt)
          · by_cases hxi : x = i
            · subst hxi; rw [hi1]; rfl
            · rw [getD_set_ne true (Ne.symm hxi)] at hx; exact hx
          · have : i < listed.size := by omega
            simp [this]
        omega
      · intro j oj hj hjA e he hb
        rw [hA] at hjA ⊢
        rw [Bool.or_eq_true] at hjA ⊢
        left
        rcases hjA with h1 | h1
        · exact hcl j oj hj h1 e he hb
        · have : j = i := by simpa using h1
          subst this
          rw [ho] at hj; cases hj
          exact hi3 e (by simpa using he) hb
      · intro m hm
        rcases gr.2 m hm with h1 | h1
        · rcases hnm m h1 with h2 | ⟨k, h2, h3, h4⟩
          · exact .inl h2
          · exact .inr ⟨k, h2, by rw [hA, h3]; rfl, h4⟩
        · exact .inr ⟨i, hlt, by rw [hA]; simp, h1⟩
      · intro d
        rw [lastV_add (A := fun k => listed.getD k false) (i := i) hA hiA ops.size, hgE d, hts d]
        · simp [hlt]
        · intro k h1 h2 h3 h4
          cases ht : touchS ops i d with
          | false => rfl
          | true =>
            exfalso
            have hok' := getop k h2
            have hd1 : o.dst = some d := by
              unfold touchS at ht
              rw [ho] at ht
              simpa using ht
            have hd2 : (ops[k]?.getD o).dst = some d := by
              unfold touchS at h4
              rw [hok'] at h4
              simpa using h4
            exact (Oper.apart_spec (hspec k _ hok' i o h1 ho (F2 k h3))).2.1 d hd1 hd2
      · intro m
        rw [lastV_add (A := fun k => listed.getD k false) (i := i) hA hiA ops.size, hg' m, hhs m]
        · simp only [hlt, true_and, touchH_iff]
        · intro k h1 h2 h3 h4
          cases ht : touchH c WR i m with
          | false => rfl
          | true =>
            exfalso
            have ap := D.pair i k (Nat.zero_le _) h1 h2 (F2 k h3)
            have hck : c (i + 1) ≤ c k := mono (i + 1) k (by omega) (by omega)
            have hci := mono i (i + 1) (by omega) (by omega)
            rcases touchH_iff.1 h4 with ⟨g1, g2⟩ | ⟨g1, g2⟩
            · exact ap.2.1 m (mem_wr ht) (mem_below.2 ⟨g2, g1⟩)
            · rcases touchH_iff.1 ht with ⟨g3, g4⟩ | ⟨g3, g4⟩ <;> omega
  refine key ops.size (Array.replicate ops.size false) a w (by simp) ?_ ?_ ⟨M0, H 0, T 0, ok0, M0.le_refl, fun m hm => .inl hm, fun d => ?_, fun m => ?_⟩
  · refine Nat.le_trans (List.length_filter_le _ _) (by simp)
  · intro j o _ hj
    rw [rep_false] at hj
    cases hj
  · exact (lastV_none (st := fun k => (T k).get) (fun k => rep_false _ _) d _).symm
  · exact (lastV_none (st := fun k => (H k).get) (fun k => rep_false _ _) m _).symm
end
end Go.Ab
