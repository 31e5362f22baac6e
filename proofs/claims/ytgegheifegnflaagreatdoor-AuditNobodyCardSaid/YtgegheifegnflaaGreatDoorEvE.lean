/- The abstract evaluator: slicing, lengths, copies, conversions, held against the model's. -/
import Derived.Test.YtgegheifegnflaaGreatDoorEvD4
namespace Go.Ab
open Go.RowKit

def RelO (M : Mp) : Option AV → Option Value → Prop
  | none, c => c = none
  | some a, c => ∃ x, c = some x ∧ Rel M a x

section
variable {β : Type} {call : CallF} {s : St} {r : β × St} {P : Program} {B0 : Nat} {w0 : World} {E : Env}

theorem asNat_rel {M : Mp} {a : AV} {n : Nat} {c : Value} (h : asNat a = some n) (hr : Rel M a c) : ∃ k, c = .int k (n : Int) := by
  unfold asNat at h
  split at h
  · cases h; simp only [Rel] at hr; subst hr; exact ⟨_, rfl⟩
  · cases h

theorem sliceBound_run {M : Mp} {a : AV} {n y : Nat} {c : Value} (h : asNat a = some n) (hr : Rel M a c) (hy : n ≤ y) (code : BoundsCode) (w : World) : (Instr.sliceBound c y code).run P w = .ok n w := by
  obtain ⟨k, rfl⟩ := asNat_rel h hr
  have : (0 : Int) ≤ n ∧ (n : Int) ≤ y := ⟨by omega, by omega⟩
  simp [Instr.sliceBound, asIntOf, this]

theorem sliceBnd_run {M : Mp} {isS : Bool} {len cap k : Nat} {lo hi mx : Option AV} {clo chi cmx : Option Value} {l h m : Nat} (hb : sliceBnd len cap lo hi mx = some (l, h, m)) (hk : cap ≤ k)
    (hlo : RelO M lo clo) (hhi : RelO M hi chi) (hmx : RelO M mx cmx) (w : World) :
    (Instr.sliceBounds isS len k clo chi cmx).run P w = .ok (l, h, if mx.isSome then m else k) w ∧ l ≤ h ∧ (hi = none → h = len) ∧ (hi.isSome = true → h ≤ m) ∧ m ≤ cap ∧ (mx = none → m = cap) := by
  unfold sliceBnd at hb
  cases mx with
  | none =>
    simp only [RelO] at hmx; subst hmx
    simp only at hb
    cases hi with
    | none =>
      simp only [RelO] at hhi; subst hhi
      simp only at hb
      cases lo with
      | none =>
        simp only [RelO] at hlo; subst hlo
        simp only [Option.some.injEq, Prod.mk.injEq] at hb
        obtain ⟨rfl, rfl, rfl⟩ := hb
        exact ⟨by simp [Instr.sliceBounds], Nat.zero_le _, fun _ => rfl, fun h => by simp at h, Nat.le_refl _, fun _ => rfl⟩
      | some a =>
        simp only [RelO] at hlo; obtain ⟨ca, rfl, hlo⟩ := hlo
        simp only at hb
        split at hb
        · rename_i e; cases hb
        · rename_i l' e
          split at e
          · rename_i n hn
            split at e
            · rename_i hle
              cases e
              simp only [Option.some.injEq, Prod.mk.injEq] at hb
              obtain ⟨rfl, rfl, rfl⟩ := hb
              exact ⟨by simp [Instr.sliceBounds, sliceBound_run hn hlo hle], hle, fun _ => rfl, fun h => by simp at h, Nat.le_refl _, fun _ => rfl⟩
            · cases e
          · cases e
    | some b =>
      simp only [RelO] at hhi; obtain ⟨cb, rfl, hhi⟩ := hhi
      simp only at hb
      split at hb
      · cases hb
      · rename_i h' e
        split at e
        · rename_i nh hnh
          split at e
          · rename_i hle
            cases e
            cases lo with
            | none =>
              simp only [RelO] at hlo; subst hlo
              simp only [Option.some.injEq, Prod.mk.injEq] at hb
              obtain ⟨rfl, rfl, rfl⟩ := hb
              exact ⟨by simp [Instr.sliceBounds, sliceBound_run hnh hhi (Nat.le_trans hle hk)], Nat.zero_le _, fun h => by simp at h, fun _ => hle, Nat.le_refl _, fun _ => rfl⟩
            | some a =>
              simp only [RelO] at hlo; obtain ⟨ca, rfl, hlo⟩ := hlo
              simp only at hb
              split at hb
              · cases hb
              · rename_i l' e
                split at e
                · rename_i n hn
                  split at e
                  · rename_i hle2
                    cases e
                    simp only [Option.some.injEq, Prod.mk.injEq] at hb
                    obtain ⟨rfl, rfl, rfl⟩ := hb
                    exact ⟨by simp [Instr.sliceBounds, sliceBound_run hnh hhi (Nat.le_trans hle hk), sliceBound_run hn hlo hle2], hle2, fun h => by simp at h, fun _ => hle, Nat.le_refl _, fun _ => rfl⟩
                  · cases e
                · cases e
          · cases e
        · cases e
  | some c =>
    simp only [RelO] at hmx; obtain ⟨cc, rfl, hmx⟩ := hmx
    simp only at hb
    split at hb
    · cases hb
    · rename_i m' e
      split at e
      · rename_i nm hnm
        split at e
        · rename_i hlem
          cases e
          cases hi with
          | none => simp at hb
          | some b =>
            simp only [RelO] at hhi; obtain ⟨cb, rfl, hhi⟩ := hhi
            simp only at hb
            split at hb
            · cases hb
            · rename_i h' e
              split at e
              · rename_i nh hnh
                split at e
                · rename_i hle
                  cases e
                  cases lo with
                  | none =>
                    simp only [RelO] at hlo; subst hlo
                    simp only [Option.some.injEq, Prod.mk.injEq] at hb
                    obtain ⟨rfl, rfl, rfl⟩ := hb
                    exact ⟨by simp [Instr.sliceBounds, sliceBound_run hnm hmx (Nat.le_trans hlem hk), sliceBound_run hnh hhi hle], Nat.zero_le _, fun h => by simp at h, fun _ => hle, hlem, fun h => by simp at h⟩
                  | some a =>
                    simp only [RelO] at hlo; obtain ⟨ca, rfl, hlo⟩ := hlo
                    simp only at hb
                    split at hb
                    · cases hb
                    · rename_i l' e
                      split at e
                      · rename_i n hn
                        split at e
                        · rename_i hle2
                          cases e
                          simp only [Option.some.injEq, Prod.mk.injEq] at hb
                          obtain ⟨rfl, rfl, rfl⟩ := hb
                          exact ⟨by simp [Instr.sliceBounds, sliceBound_run hnm hmx (Nat.le_trans hlem hk), sliceBound_run hnh hhi hle, sliceBound_run hn hlo hle2], hle2, fun h => by simp at h, fun _ => hle, hlem, fun h => by simp at h⟩
                        · cases e
                      · cases e
                · cases e
              · cases e
        · cases e
      · cases e

theorem AtI.drop (i : Nat → Nat → Option Value) (b : Nat) : ∀ (n : Nat) (l : List Value) (o : Nat), AtI i b o l → AtI i b (o + n) (l.drop n)
  | 0, _, _, h => by simpa using h
  | n + 1, [], _, _ => by simp [AtI]
  | n + 1, _ :: l, o, h => by
    have := AtI.drop i b n l (o + 1) h.2
    rw [show o + (n + 1) = o + 1 + n by omega]; simpa using this

theorem AtI.take (i : Nat → Nat → Option Value) (b : Nat) : ∀ (n : Nat) (l : List Value) (o : Nat), AtI i b o l → AtI i b o (l.take n)
  | 0, _, _, _ => by simp [AtI]
  | n + 1, [], _, _ => by simp [AtI]
  | n + 1, _ :: l, o, h => ⟨h.1, AtI.take i b n l (o + 1) h.2⟩

theorem size_run {P : Program} {t : TypeId} {i : TyI} (h : TyOk P t i) (w : World) : (sizeOf t).run P w = .ok i.size w := by
  obtain ⟨ti, hi, _, hs, _⟩ := h
  simp [sizeOf, typeInfo, hi, hs]

theorem sliceK_run (hty : ∀ t i, E.ty t = some i → TyOk P t i) {t : TypeId} {x : AV} {lo hi mx : Option AV} {K : AV → EM β} (hh : (sliceK E t x lo hi mx K).run call s = some r) :
    ∃ v s1, s.like s1 ∧ (K v).run call s1 = some r ∧ ∀ {M : Mp} {w : World} {cx : Value} {clo chi cmx : Option Value}, Inv B0 w0 M s.h w → Rel M x cx → RelO M lo clo → RelO M hi chi → RelO M mx cmx →
      ∃ cv, Rel M v cv ∧ (Instr.sliceAt t cx clo chi cmx).run P w = .ok cv w := by
  unfold sliceK at hh
  split at hh
  · -- a string
    rename_i b hd
    have hu := E_d hty hd
    split at hh
    · exact (fail_run hh).elim
    · obtain ⟨⟨l, h, m⟩, hb, h2⟩ := withO_run hh
      refine ⟨_, s, ⟨rfl, rfl⟩, h2, fun {M w cx clo chi cmx} I hx hlo hhi hmx => ?_⟩
      simp only [Rel] at hx; subst hx
      obtain ⟨hrun, _⟩ := sliceBnd_run (P := P) (isS := false) hb (Nat.le_refl _) hlo hhi hmx w
      simp only [RelO] at hmx; subst hmx
      refine ⟨.string (b.extract l h), by simp only [Rel], ?_⟩
      simp [Instr.sliceAt, Instr.slice, run_underlying hu, hrun]
  · -- nil
    rename_i e hd
    have hu := E_d hty hd
    obtain ⟨ei, hei, hh⟩ := withO_run hh
    obtain ⟨⟨l, h, m⟩, hb, h2⟩ := withO_run hh
    refine ⟨_, s, ⟨rfl, rfl⟩, h2, fun {M w cx clo chi cmx} I hx hlo hhi hmx => ?_⟩
    have hx' := hx
    simp only [Rel] at hx; subst hx
    obtain ⟨hrun, h1, h2, h3, h4, h5⟩ := sliceBnd_run (P := P) (isS := true) hb (Nat.le_refl _) hlo hhi hmx w
    have hh0 : h = 0 := by
      cases hi with
      | none => exact h2 rfl
      | some _ => have := h3 rfl; omega
    have hl0 : l = 0 := by omega
    have hm0 : m = 0 := by omega
    subst hh0; subst hl0; subst hm0
    refine ⟨.slice none 0 0, hx', ?_⟩
    have hm' : (if mx.isSome then 0 else 0) = 0 := by cases mx <;> rfl
    rw [hm'] at hrun
    obtain ⟨ti, hti, _⟩ := hty e ei hei
    simp [Instr.sliceAt, Instr.slice, run_underlying hu, hrun, sizeOf, typeInfo, hti]
  · -- a slice of a known capacity
    rename_i e n off len c hd
    have hu := E_d hty hd
    obtain ⟨ei, hei, hh⟩ := withO_run hh
    obtain ⟨⟨l, h, m⟩, hb, h2⟩ := withO_run hh
    refine ⟨_, s, ⟨rfl, rfl⟩, h2, fun {M w cx clo chi cmx} I hx hlo hhi hmx => ?_⟩
    obtain ⟨z, a, hz, rfl, hlc, ha⟩ := slc_some hx
    obtain ⟨hrun, h1, h3, h4, h5, h6⟩ := sliceBnd_run (P := P) (isS := true) hb (Nat.le_refl _) hlo hhi hmx w
    have hm : (if mx.isSome then m else c) = m := by cases mx with | none => simp [h6 rfl] | some _ => rfl
    rw [hm] at hrun
    have hhm : h ≤ m := by
      cases hi with
      | none => cases mx with
        | none => rw [h3 rfl, h6 rfl]; exact hlc
        | some _ => unfold sliceBnd at hb; simp only at hb; split at hb <;> simp at hb
      | some _ => exact h4 rfl
    refine ⟨.slice (if m = l then some a else some (a.add (l * ei.size))) (h - l) (m - l), ?_, ?_⟩
    · simp only [Rel, slcRel]
      by_cases hml : m = l
      · rw [if_pos hml]; exact ⟨z, hz, a, _, rfl, by omega, .inl (by omega), rfl⟩
      · rw [if_neg hml]
        have := ha.resolve_left (by omega)
        subst this
        exact ⟨z, hz, _, _, rfl, by omega, .inr (by rw [Addr.add_none, Nat.add_assoc]), rfl⟩
    · by_cases hml : m = l <;> simp [Instr.sliceAt, Instr.slice, run_underlying hu, hrun, size_run (hty e ei hei), hml]
  · -- a slice up to its block's end
    rename_i e n off len hd
    have hu := E_d hty hd
    obtain ⟨ei, hei, hh⟩ := withO_run hh
    obtain ⟨b, hblk, hh⟩ := look_run hh
    split at hh
    · rename_i c sz ex
      obtain ⟨hg, hh⟩ := guardE_run hh
      simp only [Bool.and_eq_true] at hg
      have hsq := Nat.eq_of_beq_eq_true hg.1.1
      have hpos : 0 < ei.size := Nat.lt_of_succ_le (Nat.le_of_ble_eq_true hg.1.2)
      have hoff := Nat.le_of_ble_eq_true hg.2
      obtain ⟨⟨l, h, m⟩, hb, h2⟩ := withO_run hh
      refine ⟨_, { s with rd := n :: s.rd }, ⟨rfl, rfl⟩, h2, fun {M w cx clo chi cmx} I hx hlo hhi hmx => ?_⟩
      simp only [Rel, slcRel] at hx
      obtain ⟨z, hz, a, k, rfl, hlk, ha, hcap⟩ := hx
      obtain ⟨z', hz', hbk⟩ := I.blk n _ hblk
      rw [hz] at hz'; cases hz'
      obtain ⟨b1, b2, b3, b4⟩ := hbk
      rw [b1, hsq] at hcap
      have hck : (c.length - off) / ei.size ≤ k := by
        refine Nat.div_le_of_le_mul ?_
        rw [Nat.mul_comm]; omega
      obtain ⟨hrun, h1, h3, h4, h5, h6⟩ := sliceBnd_run (P := P) (isS := true) hb hck hlo hhi hmx w
      -- the capacity that the model has
      obtain ⟨mm, hmm⟩ : ∃ mm, mm = if mx.isSome then m else k := ⟨_, rfl⟩
      rw [← hmm] at hrun
      have hhm : h ≤ mm := by
        cases hi with
        | none => cases mx with
          | none => rw [h3 rfl, hmm]; simpa using hlk
          | some _ => unfold sliceBnd at hb; simp only at hb; split at hb <;> simp at hb
        | some _ =>
          have := h4 rfl
          rw [hmm]; split
          · exact this
          · omega
      refine ⟨.slice (if mm = l then some a else some (a.add (l * ei.size))) (h - l) (mm - l), ?_, ?_⟩
      · simp only [Rel, slcRel]
        have haddr : mm - l = 0 ∨ (if mm = l then some a else some (a.add (l * ei.size))) = some ⟨z.B, z.O + (off + l * ei.size), none⟩ := by
          by_cases hml : mm = l
          · left; omega
          · right
            have hmk : mm ≤ k := by rw [hmm]; split <;> omega
            have := ha.resolve_left (by omega)
            subst this
            rw [if_neg hml, Addr.add_none, Nat.add_assoc]
        have hcap' : match (bif mx.isSome || ex then some (m - l) else none) with | some x => mm - l = x | none => (mm - l) * z.sz + (off + l * ei.size) = z.K := by
          cases hms : mx.isSome with
          | true => simp only [Bool.true_or, cond_true]; rw [hmm, hms]; rfl
          | false =>
            have hmk : mm = k := by rw [hmm, hms]; rfl
            cases ex with
            | true =>
              simp only [Bool.or_true, cond_true]
              have hK := b3 rfl
              have : k * ei.size = c.length - off := by omega
              have hkk : (c.length - off) / ei.size = k := by rw [← this, Nat.mul_div_cancel _ hpos]
              have hmn : mx = none := by cases mx <;> simp_all
              rw [h6 hmn, hkk, hmk]
            | false =>
              simp only [Bool.or_false, cond_false]
              rw [b1, hsq, hmk, Nat.sub_mul]
              have : l * ei.size ≤ k * ei.size := Nat.mul_le_mul_right _ (by omega)
              omega
        by_cases hml : mm = l
        · rw [if_pos hml]
          exact ⟨z, hz, a, mm - l, rfl, by omega, .inl (by omega), hcap'⟩
        · rw [if_neg hml]
          rcases haddr with h0 | h0
          · exact ⟨z, hz, _, mm - l, rfl, by omega, .inl h0, hcap'⟩
          · rw [if_neg hml] at h0
            exact ⟨z, hz, _, mm - l, rfl, by omega, .inr (Option.some.inj h0), hcap'⟩
      · by_cases hml : mm = l <;> simp [Instr.sliceAt, Instr.slice, run_underlying hu, hrun, size_run (hty e ei hei), hml]
    · exact (fail_run hh).elim
  · -- immutable
    rename_i e cs len clip hd
    have hu := E_d hty hd
    obtain ⟨ei, hei, hh⟩ := withO_run hh
    obtain ⟨⟨l, h, m⟩, hb, hh⟩ := withO_run hh
    obtain ⟨cs', hcs, h2⟩ := withO_run hh
    refine ⟨_, s, ⟨rfl, rfl⟩, h2, fun {M w cx clo chi cmx} I hx hlo hhi hmx => ?_⟩
    simp only [Rel] at hx
    obtain ⟨a, k, vs, rfl, hlk, hclip, hvs, hsp, hat⟩ := hx
    obtain ⟨hrun, h1, h3, h4, h5, h6⟩ := sliceBnd_run (P := P) (isS := true) hb hlk hlo hhi hmx w
    obtain ⟨mm, hmm⟩ : ∃ mm, mm = if mx.isSome then m else k := ⟨_, rfl⟩
    rw [← hmm] at hrun
    have hhm : h ≤ mm := by
      cases hi with
      | none => cases mx with
        | none => rw [h3 rfl, hmm]; simpa using hlk
        | some _ => unfold sliceBnd at hb; simp only at hb; split at hb <;> simp at hb
      | some _ =>
        have := h4 rfl
        rw [hmm]; split
        · exact this
        · omega
    obtain ⟨e1, e2⟩ := takeN_eq _ _ _ hcs
    have hvs' : RelL M cs' ((vs.drop (l * ei.size)).take ((h - l) * ei.size)) := by rw [e1]; exact (hvs.drop _).take _
    have hclip' : (bif mx.isSome then m.beq h else clip && h.beq len) = true → mm - l = h - l := by
      intro hc
      cases hms : mx.isSome with
      | true =>
        rw [hms] at hc; simp only [cond_true] at hc
        have := Nat.eq_of_beq_eq_true hc
        rw [hmm, hms]; simp only [if_true]; omega
      | false =>
        rw [hms] at hc; simp only [cond_false, Bool.and_eq_true] at hc
        have hk := hclip hc.1
        have := Nat.eq_of_beq_eq_true hc.2
        rw [hmm, hms]; simp only [Bool.false_eq_true, if_false]; omega
    refine ⟨.slice (if mm = l then some a else some (a.add (l * ei.size))) (h - l) (mm - l), ?_, ?_⟩
    · simp only [Rel]
      by_cases hml : mm = l
      · rw [if_pos hml]
        have hhl : h - l = 0 := by omega
        have hnil : (vs.drop (l * ei.size)).take ((h - l) * ei.size) = [] := by rw [hhl]; simp
        exact ⟨a, mm - l, _, rfl, by omega, hclip', hvs', .inr hnil, by rw [hnil]; trivial⟩
      · rw [if_neg hml]
        rcases hsp with hsp | hnil
        · obtain ⟨ab, ao, asp⟩ := a
          simp only at hsp; subst hsp
          refine ⟨_, mm - l, _, rfl, by omega, hclip', hvs', .inl (by rw [Addr.add_none]), ?_⟩
          rw [Addr.add_none]
          exact AtI.take _ _ _ _ _ (AtI.drop _ _ _ _ _ hat)
        · subst hnil
          exact ⟨_, mm - l, _, rfl, by omega, hclip', hvs', .inr (by simp), by simp [AtI]⟩
    · by_cases hml : mm = l <;> simp [Instr.sliceAt, Instr.slice, run_underlying hu, hrun, size_run (hty e ei hei), hml]
  · -- an array
    rename_i kk e n off hd
    have hu := E_d hty hd
    obtain ⟨ei, hei, hh⟩ := withO_run hh
    obtain ⟨⟨l, h, m⟩, hb, h2⟩ := withO_run hh
    refine ⟨_, s, ⟨rfl, rfl⟩, h2, fun {M w cx clo chi cmx} I hx hlo hhi hmx => ?_⟩
    simp only [Rel] at hx
    obtain ⟨z, hz, rfl⟩ := hx
    obtain ⟨hrun, h1, h3, h4, h5, h6⟩ := sliceBnd_run (P := P) (isS := false) hb (Nat.le_refl _) hlo hhi hmx w
    have hm : (if mx.isSome then m else kk) = m := by cases mx with | none => simp [h6 rfl] | some _ => rfl
    rw [hm] at hrun
    have hhm : h ≤ m := by
      cases hi with
      | none => cases mx with
        | none => rw [h3 rfl, h6 rfl]; exact Nat.le_refl _
        | some _ => unfold sliceBnd at hb; simp only at hb; split at hb <;> simp at hb
      | some _ => exact h4 rfl
    refine ⟨.slice (some (if m = l then ⟨z.B, z.O + off, none⟩ else ⟨z.B, z.O + off + l * ei.size, none⟩)) (h - l) (m - l), ?_, ?_⟩
    · simp only [Rel, slcRel]
      by_cases hml : m = l
      · exact ⟨z, hz, _, _, rfl, by omega, .inl (by omega), rfl⟩
      · rw [if_neg hml]
        exact ⟨z, hz, _, _, rfl, by omega, .inr (by rw [Nat.add_assoc]), rfl⟩
    · by_cases hml : m = l <;> simp [Instr.sliceAt, Instr.sureAddr, run_underlying hu, hrun, size_run (hty e ei hei), hml, Addr.add_none]
  · exact (fail_run hh).elim
end
end Go.Ab
