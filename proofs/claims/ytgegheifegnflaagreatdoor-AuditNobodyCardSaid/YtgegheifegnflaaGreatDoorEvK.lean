/- The abstract evaluator held against the model: code and calls. -/
import Derived.Test.YtgegheifegnflaaGreatDoorEvJ2
namespace Go.Ab
open Go.RowKit

/-- what must be seen in a function's text -/
def codeOk : Code → Bool
  | .region _ ops d => !d || regionOk ops
  | .seq a b => codeOk a && codeOk b
  | .cond _ a b => codeOk a && codeOk b
  | .block _ b => codeOk b
  | .loop b => codeOk b
  | .scope b => codeOk b
  | _ => true

def Ex.to : Ex → Exit
  | .normal => .normal
  | .exit i => .exit i
  | .ret => .ret

def Sim (B0 : Nat) (w0 : World) (nt : Nat) (F : T AV × St → Option (Ex × (T AV × St))) (W : (Exit → Act → World → Prop) → Act → World → Prop) : Prop :=
  ∀ t s e t' s', F (t, s) = some (e, (t', s')) → s.nxt ≤ s'.nxt ∧ ∀ {M : Mp} {w : World} {a : Act}, Ok B0 w0 nt M t s.h a w → Fresh M s.nxt s'.nxt → ∀ (Q : Exit → Act → World → Prop),
    (∀ M' w' a', Grow M M' s.nxt s'.nxt → Ok B0 w0 nt M' t' s'.h a' w' → Q e.to a' w') → W Q a w

theorem Sim.at_once {B0 : Nat} {w0 : World} {nt : Nat} {F : T AV × St → Option (Ex × (T AV × St))} {W : (Exit → Act → World → Prop) → Act → World → Prop} (e : Ex) (hF : ∀ x, F x = some (e, x)) (hW : ∀ Q a w, Q e.to a w → W Q a w) : Sim B0 w0 nt F W := by
  intro t s e' t' s' h
  rw [hF] at h
  simp only [Option.some.injEq, Prod.mk.injEq] at h
  obtain ⟨rfl, rfl, rfl⟩ := h
  exact ⟨Nat.le_refl _, fun {M w a} ok _ Q hQ => hW Q a w (hQ M w a (Grow.refl _ _ _) ok)⟩

section
variable {P : Program} {B0 : Nat} {w0 : World} {E : Env} {call : CallF} (hE : EnvOk P E) (hmix : P.follows .mixedOrders = true) (hcall : CallOk P B0 w0 call) (hc : FrCall call)

theorem sim_then {nt : Nat} {F G : T AV × St → Option (Ex × (T AV × St))} {W V : (Exit → Act → World → Prop) → Act → World → Prop} (hF : Sim B0 w0 nt F W) (hG : Sim B0 w0 nt G V) :
    Sim B0 w0 nt (fun x => match F x with | some (.normal, x) => G x | r => r) (fun Q => W (Exit.then (V Q) Q)) := by
  intro t s e t' s' h
  simp only at h
  cases hf : F (t, s) with
  | none => rw [hf] at h; cases h
  | some p =>
    obtain ⟨e1, t1, s1⟩ := p
    rw [hf] at h
    obtain ⟨m1, r1⟩ := hF t s e1 t1 s1 hf
    cases e1 with
    | normal =>
      simp only at h
      obtain ⟨m2, r2⟩ := hG t1 s1 e t' s' h
      refine ⟨Nat.le_trans m1 m2, fun {M w a} ok fr Q hQ => r1 ok (fr.sub (Nat.le_refl _) m2) _ fun M1 w1 a1 g1 ok1 => ?_⟩
      exact r2 ok1 (fr.next g1 m1) Q fun M2 w2 a2 g2 ok2 => hQ M2 w2 a2 (g1.trans g2 m1 m2) ok2
    | exit i =>
      simp only [Option.some.injEq, Prod.mk.injEq] at h
      obtain ⟨rfl, rfl, rfl⟩ := h
      exact ⟨m1, fun {M w a} ok fr Q hQ => r1 ok fr _ fun M1 w1 a1 g1 ok1 => hQ M1 w1 a1 g1 ok1⟩
    | ret =>
      simp only [Option.some.injEq, Prod.mk.injEq] at h
      obtain ⟨rfl, rfl, rfl⟩ := h
      exact ⟨m1, fun {M w a} ok fr Q hQ => r1 ok fr _ fun M1 w1 a1 g1 ok1 => hQ M1 w1 a1 g1 ok1⟩

theorem sim_loop {nt : Nat} {F : T AV × St → Option (Ex × (T AV × St))} {c : Code} (hF : Sim B0 w0 nt F (c.wp P)) : ∀ k, Sim B0 w0 nt (loopA F k) (fun Q => Code.rounds P c Q k)
  | 0 => fun t s e t' s' h => by simp [loopA] at h
  | k + 1 => fun t s e t' s' h => by
    have := sim_then hF (sim_loop hF k) t s e t' s' (by
      rw [← h]
      simp only [loopA]
      rcases F (t, s) with _ | ⟨e1, x1⟩
      · rfl
      · cases e1 <;> rfl)
    exact this

include hE hmix hcall hc

theorem sim_code (nt L : Nat) : ∀ c : Code, codeOk c = true → Sim B0 w0 nt (codeA E call nt L c) (c.wp P)
  | .skip, _ => Sim.at_once .normal (fun x => by simp only [codeA]) fun Q a w h => wp_skip h
  | .region id ops draw, hok => fun t s e t' s' h => by
    cases draw with
    | true =>
      simp only [codeOk, Bool.not_true, Bool.false_or] at hok
      simp only [codeA] at h
      cases hr : runDraw E call nt ops (masks ops.toList []) ops.toList 0 [] t s with
      | none => rw [hr] at h; cases h
      | some p =>
        rw [hr] at h
        simp only [Option.some.injEq, Prod.mk.injEq] at h
        obtain ⟨rfl, rfl⟩ := h
        obtain ⟨m1, r1⟩ := draw_run hE hcall hc hok hr
        refine ⟨m1, fun {M w a} ok fr Q hQ => wp_region_any hmix ?_⟩
        exact r1 ⟨ok.inv.drew, ok.slots, ok.size, ok.defers⟩ fr Q hQ
    | false =>
      simp only [codeA] at h
      cases hr : runOps E call nt ops ops.toList t s with
      | none => rw [hr] at h; cases h
      | some p =>
        rw [hr] at h
        simp only [Option.some.injEq, Prod.mk.injEq] at h
        obtain ⟨rfl, rfl⟩ := h
        obtain ⟨m1, r1⟩ := runOps_run hE hcall ops.toList hr
        exact ⟨m1, fun {M w a} ok fr Q hQ => wp_region_list (r1 ok fr Q hQ)⟩
  | .seq a b, hok => fun t s e t' s' h => by
    simp only [codeOk, Bool.and_eq_true] at hok
    have := sim_then (sim_code nt L a hok.1) (sim_code nt L b hok.2) t s e t' s' (by
      rw [← h]
      simp only [codeA]
      rcases codeA E call nt L a (t, s) with _ | ⟨e1, x1⟩
      · rfl
      · cases e1 <;> rfl)
    exact ⟨this.1, fun {M w a} ok fr Q hQ => wp_seq (this.2 ok fr Q hQ)⟩
  | .cond c a b, hok => fun t s e t' s' h => by
    simp only [codeOk, Bool.and_eq_true] at hok
    simp only [codeA] at h
    split at h
    · rename_i ho
      obtain ⟨m1, r1⟩ := sim_code nt L a hok.1 t s e t' s' h
      refine ⟨m1, fun {M w a} ok fr Q hQ => wp_cond_true ?_ (r1 ok fr Q hQ)⟩
      have := operand_rel ok.slots ho
      simpa only [Rel] using this
    · rename_i ho
      obtain ⟨m1, r1⟩ := sim_code nt L b hok.2 t s e t' s' h
      refine ⟨m1, fun {M w a} ok fr Q hQ => wp_cond_false ?_ (r1 ok fr Q hQ)⟩
      have := operand_rel ok.slots ho
      simpa only [Rel] using this
    · cases h
  | .block id b, hok => fun t s e t' s' h => by
    simp only [codeOk] at hok
    simp only [codeA] at h
    cases hb : codeA E call nt L b (t, s) with
    | none => rw [hb] at h; cases h
    | some p =>
      obtain ⟨e1, t1, s1⟩ := p
      rw [hb] at h
      obtain ⟨m1, r1⟩ := sim_code nt L b hok t s e1 t1 s1 hb
      cases e1 with
      | exit i =>
        simp only [Option.some.injEq, Prod.mk.injEq] at h
        obtain ⟨rfl, rfl, rfl⟩ := h
        refine ⟨m1, fun {M w a} ok fr Q hQ => wp_block (r1 ok fr _ fun M' w' a' g ok' => ?_)⟩
        have := hQ M' w' a' g ok'
        simp only [Ex.to, Exit.inBlock]
        by_cases hi : i = id
        · simp only [hi, if_true] at this ⊢; exact this
        · simp only [hi, if_false] at this ⊢; exact this
      | normal =>
        simp only [Option.some.injEq, Prod.mk.injEq] at h
        obtain ⟨rfl, rfl, rfl⟩ := h
        exact ⟨m1, fun {M w a} ok fr Q hQ => wp_block (r1 ok fr _ fun M' w' a' g ok' => hQ M' w' a' g ok')⟩
      | ret =>
        simp only [Option.some.injEq, Prod.mk.injEq] at h
        obtain ⟨rfl, rfl, rfl⟩ := h
        exact ⟨m1, fun {M w a} ok fr Q hQ => wp_block (r1 ok fr _ fun M' w' a' g ok' => hQ M' w' a' g ok')⟩
  | .loop b, hok => fun t s e t' s' h => by
    simp only [codeOk] at hok
    simp only [codeA] at h
    obtain ⟨m1, r1⟩ := sim_loop (sim_code nt L b hok) L t s e t' s' h
    exact ⟨m1, fun {M w a} ok fr Q hQ => wp_loop_rounds L (r1 ok fr Q hQ)⟩
  | .exit id, _ => Sim.at_once (.exit id) (fun x => by simp only [codeA]) fun Q a w h => wp_exit h
  | .ret, _ => Sim.at_once .ret (fun x => by simp only [codeA]) fun Q a w h => wp_ret h
  | .label _, _ => Sim.at_once .normal (fun x => by simp only [codeA]) fun Q a w h => wp_label h
  | .scope b, hok => fun t s e t' s' h => by
    simp only [codeOk] at hok
    simp only [codeA] at h
    obtain ⟨m1, r1⟩ := sim_code nt L b hok t s e t' s' h
    refine ⟨m1, fun {M w a} ok fr Q hQ => wp_scope_straight (r1 ok fr _ fun M' w' a' g ok' => ?_)⟩
    have := hQ M' w' a' g ok'
    cases e <;> exact this
  | .rangeFunc .., _ => fun t s e t' s' h => by simp [codeA] at h
  | .goto _, _ => fun t s e t' s' h => by simp [codeA] at h
  | .refuse _, _ => fun t s e t' s' h => by simp [codeA] at h
end

/-! ### results -/

theorem sem_bind_pure {α : Type} : ∀ x : Sem α, x.bind Sem.pure = x
  | .pure a => rfl
  | .load m a k => by simp only [Sem.bind]; congr; funext v; exact sem_bind_pure (k v)
  | .store m a v k => by simp only [Sem.bind]; congr; exact sem_bind_pure k
  | .new o k => by simp only [Sem.bind]; congr; funext v; exact sem_bind_pure (k v)
  | .shape r k => by simp only [Sem.bind]; congr; funext v; exact sem_bind_pure (k v)
  | .freeze a n k => by simp only [Sem.bind]; congr; exact sem_bind_pure k
  | .frozen a k => by simp only [Sem.bind]; congr; funext v; exact sem_bind_pure (k v)
  | .getObj r k => by simp only [Sem.bind]; congr; funext v; exact sem_bind_pure (k v)
  | .setObj r o k => by simp only [Sem.bind]; congr; exact sem_bind_pure k
  | .choose q k => by simp only [Sem.bind]; congr; funext v; exact sem_bind_pure (k v)
  | .sys c k => by simp only [Sem.bind]; congr; funext v; exact sem_bind_pure (k v)
  | .program k => by simp only [Sem.bind]; congr; funext v; exact sem_bind_pure (k v)
  | .mark m k => by simp only [Sem.bind]; congr; exact sem_bind_pure k
  | .halt h => rfl

theorem sem_bind_assoc {α β γ : Type} (f : α → Sem β) (g : β → Sem γ) : ∀ x : Sem α, (x.bind f).bind g = x.bind fun a => (f a).bind g
  | .pure a => rfl
  | .load m a k => by simp only [Sem.bind]; congr; funext v; exact sem_bind_assoc f g (k v)
  | .store m a v k => by simp only [Sem.bind]; rw [sem_bind_assoc f g k]
  | .new o k => by simp only [Sem.bind]; congr; funext v; exact sem_bind_assoc f g (k v)
  | .shape r k => by simp only [Sem.bind]; congr; funext v; exact sem_bind_assoc f g (k v)
  | .freeze a n k => by simp only [Sem.bind]; rw [sem_bind_assoc f g k]
  | .frozen a k => by simp only [Sem.bind]; congr; funext v; exact sem_bind_assoc f g (k v)
  | .getObj r k => by simp only [Sem.bind]; congr; funext v; exact sem_bind_assoc f g (k v)
  | .setObj r o k => by simp only [Sem.bind]; rw [sem_bind_assoc f g k]
  | .choose q k => by simp only [Sem.bind]; congr; funext v; exact sem_bind_assoc f g (k v)
  | .sys c k => by simp only [Sem.bind]; congr; funext v; exact sem_bind_assoc f g (k v)
  | .program k => by simp only [Sem.bind]; congr; funext v; exact sem_bind_assoc f g (k v)
  | .mark m k => by simp only [Sem.bind]; rw [sem_bind_assoc f g k]
  | .halt h => rfl

theorem sem_lawful : LawfulMonad Sem := LawfulMonad.mk' Sem (fun x => sem_bind_pure x) (fun _ _ => rfl) (fun x f g => sem_bind_assoc f g x)

/-- what one result comes to, in the model -/
def resM (tmps : Array Value) : ResultVar → Sem Value
  | .tmp t => pure (tmps.getD t undef)
  | .cell a t => do loadVar t (← asAddr (tmps.getD a undef))

section
variable {P : Program} {B0 : Nat} {w0 : World} {E : Env} {call : CallF} (hE : EnvOk P E)
include hE

theorem resOne_run {t : T AV} {x : ResultVar} {s s' : St} {v : AV} (h : (resOne E t x).run call s = some (v, s')) : s.like s' ∧ ∀ {M : Mp} {w : World} {tmps : Array Value}, Inv B0 w0 M s.h w → RelT M t tmps →
    ∃ cv, Rel M v cv ∧ (resM tmps x).run P w = .ok cv w := by
  unfold resOne at h
  split at h
  · rename_i i
    obtain ⟨rfl, rfl⟩ := ret_run h
    exact ⟨⟨rfl, rfl⟩, fun {M w tmps} _ ht => ⟨_, ht i, rfl⟩⟩
  · rename_i a0 ty
    obtain ⟨i, hi, h1⟩ := withO_run h
    obtain ⟨p, hp, h1⟩ := withO_run h1
    obtain ⟨ti, hti, hu, hs, _, hag, _⟩ := hE.ty ty i hi
    have hisagg : ∀ w, (isAgg ty).run P w = .ok i.agg w := fun w => by
      rw [hag]
      unfold isAgg
      simp only [Sem.run_bind, run_underlying hu, Result.andThen_ok]
      cases i.d <;> rfl
    have hsize := size_run (hE.ty ty i hi)
    split at h1
    · rename_i hagg
      obtain ⟨l, s1, hlike, h2, hl, hrest⟩ := loadK_run (B0 := B0) (w0 := w0) h1
      obtain ⟨rfl, rfl⟩ := ret_run h2
      refine ⟨hlike, fun {M w tmps} I ht => ?_⟩
      have hr := ht a0
      unfold slotA at hr
      rw [hp] at hr
      obtain ⟨b, o', vs, hc, hvs, hcell⟩ := hrest I hr
      refine ⟨.agg ⟨vs⟩, by simp only [Rel]; exact ⟨vs, rfl, hvs⟩, ?_⟩
      have hld := run_loadCells_list (P := P) w ⟨b, o', none⟩ vs (fun j v hv => by rw [Addr.add_none]; exact hcell j v hv)
      rw [hvs.length, hl] at hld
      simp [resM, hc, asAddr, loadVar, hisagg, hagg, hsize, hld]
    · rename_i hagg
      obtain ⟨l, s1, hlike, h2, hl, hrest⟩ := loadK_run (B0 := B0) (w0 := w0) h1
      split at h2
      · rename_i v1
        obtain ⟨rfl, rfl⟩ := ret_run h2
        refine ⟨hlike, fun {M w tmps} I ht => ?_⟩
        have hr := ht a0
        unfold slotA at hr
        rw [hp] at hr
        obtain ⟨b, o', vs, hc, hvs, hcell⟩ := hrest I hr
        simp only [RelL] at hvs
        obtain ⟨cv, q, rfl, hcv, rfl⟩ := hvs
        refine ⟨cv, hcv, ?_⟩
        have := hcell 0 cv (by simp)
        simp only [Nat.add_zero] at this
        simp [resM, hc, asAddr, loadVar, hisagg, hagg, this]
      · exact (fail_run h2).elim

theorem resAll_run {t : T AV} : ∀ (l : List ResultVar) {s s' : St} {vs : List AV}, resAll E call t l s = some (vs, s') → s.like s' ∧ ∀ {M : Mp} {w : World} {tmps : Array Value}, Inv B0 w0 M s.h w → RelT M t tmps →
    ∃ cvs, RelL M vs cvs ∧ (l.mapM (resM tmps)).run P w = .ok cvs w
  | [], s, s', vs, h => by
    simp only [resAll, Option.some.injEq, Prod.mk.injEq] at h
    obtain ⟨rfl, rfl⟩ := h
    exact ⟨⟨rfl, rfl⟩, fun {M w tmps} _ _ => ⟨[], by simp [RelL], by simp⟩⟩
  | x :: l, s, s', vs, h => by
    simp only [resAll] at h
    cases e : (resOne E t x).run call s with
    | none => rw [e] at h; cases h
    | some p =>
      obtain ⟨v, s1⟩ := p
      rw [e] at h
      simp only at h
      cases e2 : resAll E call t l s1 with
      | none => rw [e2] at h; cases h
      | some p =>
        obtain ⟨r, s2⟩ := p
        rw [e2] at h
        simp only [Option.some.injEq, Prod.mk.injEq] at h
        obtain ⟨rfl, rfl⟩ := h
        obtain ⟨k1, r1⟩ := resOne_run hE e
        obtain ⟨k2, r2⟩ := resAll_run l e2
        refine ⟨⟨by rw [k2.1, k1.1], by rw [k2.2, k1.2]⟩, fun {M w tmps} I ht => ?_⟩
        obtain ⟨cv, h1, h2⟩ := r1 I ht
        obtain ⟨cvs, h3, h4⟩ := r2 (by rw [k1.1]; exact I) ht
        have := sem_lawful
        refine ⟨cv :: cvs, by simp only [RelL]; exact ⟨_, _, rfl, h1, h3⟩, ?_⟩
        rw [List.mapM_cons]
        simp [h2, h4]

theorem results_run {fn : Func} {t : T AV} {s s' : St} {vs : List AV} (h : resAll E call t fn.results.toList s = some (vs, s')) : s.like s' ∧ ∀ {M : Mp} {w : World} {tmps : Array Value}, Inv B0 w0 M s.h w → RelT M t tmps →
    ∃ cv, Rel M (joinR vs) cv ∧ (results fn tmps).run P w = .ok cv w := by
  obtain ⟨k, r⟩ := resAll_run hE fn.results.toList h
  refine ⟨k, fun {M w tmps} I ht => ?_⟩
  obtain ⟨cvs, h1, h2⟩ := r I ht
  have := sem_lawful
  have he : fn.results.mapM (resM tmps) = List.toArray <$> fn.results.toList.mapM (resM tmps) := by
    rw [← List.mapM_toArray]
  have hres : results fn tmps = (do let vs ← fn.results.mapM (resM tmps); pure (if h : vs.size = 1 then vs[0] else .tuple vs)) := rfl
  rw [hres, he]
  refine ⟨if h : cvs.toArray.size = 1 then cvs.toArray[0] else .tuple cvs.toArray, ?_, by simp [h2]⟩
  match vs, cvs, h1 with
  | [], c, h1 => simp only [RelL] at h1; subst h1; simp [joinR, Rel, RelL]
  | [v], c, h1 => simp only [RelL] at h1; obtain ⟨x, r, rfl, h1, rfl⟩ := h1; simpa [joinR] using h1
  | v :: v' :: l, c, h1 =>
    have hl := h1.length
    have : ¬ c.toArray.size = 1 := by simp [hl]
    simp only [this, dite_false, joinR, Rel]
    exact ⟨c, rfl, h1⟩
end
end Go.Ab
