/- The abstract evaluator: conversions, comparisons, arithmetic, held against the model's. -/
import Derived.Test.YtgegheifegnflaaGreatDoorEvE2
import Derived.Laws.BytesString
import Derived.Laws.StructEq
namespace Go.Ab
open Go.RowKit

section
variable {β : Type} {call : CallF} {s : St} {r : β × St} {P : Program} {B0 : Nat} {w0 : World} {E : Env}

theorem byteList_rel {M : Mp} : ∀ {c : List AV} {l : List UInt8} {vs : List Value}, byteList c = some l → RelL M c vs → ∃ ns : List Int, vs = ns.map (Value.int .u8) ∧ l = ns.map fun n => UInt8.ofNat n.toNat
  | [], l, vs, h, hr => by
    simp [byteList] at h; subst h
    simp only [RelL] at hr; subst hr
    exact ⟨[], rfl, rfl⟩
  | x :: c, l, vs, h, hr => by
    simp only [RelL] at hr
    obtain ⟨y, q, rfl, h1, h2⟩ := hr
    unfold byteList at h
    split at h
    · rename_i heq; cases heq
    · rename_i n c' heq
      cases heq
      split at h
      · rename_i q' hq
        cases h
        obtain ⟨ns, rfl, rfl⟩ := byteList_rel hq h2
        simp only [Rel] at h1; subst h1
        exact ⟨n :: ns, rfl, rfl⟩
      · cases h
    · cases h

theorem convertK_run (hty : ∀ t i, E.ty t = some i → TyOk P t i) {src dst : TypeId} {x : AV} {K : AV → EM β} (hh : (convertK E src dst x K).run call s = some r) :
    ∃ v s1, s.nxt ≤ s1.nxt ∧ (K v).run call s1 = some r ∧ ∀ {M : Mp} {w : World} {cx : Value}, Inv B0 w0 M s.h w → Rel M x cx → (∀ k, s.nxt ≤ k → k < s1.nxt → M.m k = none) →
      OutV B0 w0 M s s1 v ((convert src dst cx).run P w) := by
  unfold convertK at hh
  split at hh
  · rename_i k1 k2 k n hs hd
    have hus := E_d hty hs
    have hud := E_d hty hd
    refine ⟨_, s, Nat.le_refl _, hh, fun {M w cx} I hx _ => ?_⟩
    simp only [Rel] at hx; subst hx
    exact OutV.of_same (w := w) (cv := .int k2 (k2.wrap n)) I rfl (by simp [convert, run_underlying hus, run_underlying hud, Conv.intToInt]) (by simp only [Rel])
  · rename_i b hs hd
    have hus := E_d hty hs
    have hud := E_d hty hd
    refine ⟨_, s, Nat.le_refl _, hh, fun {M w cx} I hx _ => ?_⟩
    simp only [Rel] at hx; subst hx
    exact OutV.of_same (w := w) (cv := .string b) I rfl (by simp [convert, run_underlying hus, run_underlying hud]) (by simp only [Rel])
  · rename_i e b hs hd
    have hus := E_d hty hs
    have hud := E_d hty hd
    split at hh
    · rename_i he
      have hue := E_d hty he
      simp only [EM.run] at hh
      refine ⟨_, { s with h := s.h.set s.nxt (some (.cells (b.data.toList.map fun c => .sc (.int .u8 c.toNat)) 1 false)), nxt := s.nxt + 1 }, by simp, hh, fun {M w cx} I hx hfresh => ?_⟩
      have hfr := hfresh s.nxt (Nat.le_refl _) (by simp)
      simp only [Rel] at hx; subst hx
      have hrun := run_bytes_of_string (P := P) w src dst e b hus hud hue
      have hg := le_grownCap w b.size 0 e
      have hsz : b.data.size = b.size := rfl
      have hbl : (bytesRow b (grownCap w b.size 0 e)).toList.length = grownCap w b.size 0 e := by
        simp [bytesRow]; omega
      have I2 := (I.drew).newRowF s.nxt (b.data.toList.map fun c => .sc (.int .u8 c.toNat)) 1 false (bytesRow b (grownCap w b.size 0 e)).toList e (bytesRow b (grownCap w b.size 0 e)).size ((bytesRow b (grownCap w b.size 0 e)).size + 1) hfr
        (by rw [hbl]; simp; omega) (by simp)
        (by
          have : (bytesRow b (grownCap w b.size 0 e)).toList.take (List.map (fun c : UInt8 => AV.sc (.int .u8 c.toNat)) b.data.toList).length = b.data.toList.map fun c : UInt8 => Value.int .u8 c.toNat := by
            simp [bytesRow]
          rw [this]
          generalize b.data.toList = l
          induction l with
          | nil => simp [RelL]
          | cons c l ih => simp only [List.map_cons, RelL]; exact ⟨_, _, rfl, by simp only [Rel], ih⟩)
        (.inl (by simp))
      refine ⟨_, _, _, hrun, M.le_lay s.nxt _ (.inl hfr), ?_, I2, ?_⟩
      · intro q hq
        by_cases e : q = s.nxt
        · right; simp only; omega
        · left; rw [Mp.lay_ne M _ e] at hq; exact hq
      · simp only [Rel, slcRel]
        exact ⟨_, Mp.lay_self _ _ _, _, _, rfl, hg, .inr rfl, by simp only [hbl]; omega⟩
    · exact (fail_run hh).elim
  · rename_i x _ _ _ e hs hd
    have hus := E_d hty hs
    have hud := E_d hty hd
    split at hh
    · rename_i he

      have hue := E_d hty he
      obtain ⟨n, hn, h2⟩ := withO_run hh
      have h3 : (firstK 1 n x fun c => withO (byteList c) fun l => K (.sc (.string ⟨l.toArray⟩))).run call s = some r ∧ ∀ b, x ≠ .sc (.string b) := by
        split at h2
        · exact (fail_run h2).elim
        · rename_i hne; exact ⟨h2, fun b e => hne b e⟩
      obtain ⟨h3, hns⟩ := h3
      obtain ⟨c, s1, ⟨e1, e2⟩, h4, hcl, hrest⟩ := firstK_run (P := P) (B0 := B0) (w0 := w0) h3
      obtain ⟨l, hl, h5⟩ := withO_run h4
      refine ⟨_, s1, by omega, h5, fun {M w cx} I hx _ => ?_⟩
      obtain ⟨vs, hvs, hf⟩ := hrest I hx
      obtain ⟨ns, rfl, rfl⟩ := byteList_rel hl hvs
      refine OutV.of_same (w := w) (cv := .string ⟨(ns.map fun n => UInt8.ofNat n.toNat).toArray⟩) I e1 ?_ (by simp only [Rel])
      have hfw := hf w fun _ => rfl
      have hcx : ∃ base cap, cx = .slice base n cap := by
        unfold lenA at hn
        split at hn
        · cases hn; simp only [Rel] at hx; subst hx; exact ⟨_, _, rfl⟩
        · exact absurd rfl (hns _)
        · cases hn; simp only [Rel] at hx; obtain ⟨z, hz, b, k, rfl, _⟩ := hx; exact ⟨_, _, rfl⟩
        · cases hn; simp only [Rel] at hx; obtain ⟨b, k, vs, rfl, _⟩ := hx; exact ⟨_, _, rfl⟩
        · cases hn
      obtain ⟨base, cap, rfl⟩ := hcx
      rw [run_convert_bytes_string w src dst e base n cap hus hue hud]
      cases base with
      | none =>
        simp only [Builtin.firstCells, Sem.run_pure] at hfw
        injection hfw with hfw
        have : ns = [] := by
          have := congrArg Array.toList hfw
          simpa using this.symm
        subst this
        simp [Conv.bytesToString]; rfl
      | some a =>
        simp only [Builtin.firstCells, Nat.mul_one] at hfw
        rw [run_bytesToString w a n cap ns hfw]
        have key : ∀ (ns : List Int) (q : ByteArray), ns.foldl (fun r n => r.push (UInt8.ofNat n.toNat)) q = ⟨q.data ++ (ns.map fun n => UInt8.ofNat n.toNat).toArray⟩ := by
          intro ns
          induction ns with
          | nil => intro q; simp
          | cons n ns ih => intro q; simp only [List.foldl_cons]; rw [ih]; simp [ByteArray.push]
        rw [key]
        have he0 : ByteArray.empty.data = #[] := rfl
        rw [he0]; simp
    · exact (fail_run hh).elim
  · exact (fail_run hh).elim

/-! ### comparisons -/

theorem partA_run (hty : ∀ t i, E.ty t = some i → TyOk P t i) {M : Mp} {t : TypeId} {cs : List AV} {vs : List Value} {off : Nat} {a : AV} (h : partA E t cs off = some a) (hr : RelL M cs vs) (w : World) :
    ∃ c, Rel M a c ∧ (part t ⟨vs⟩ off).run P w = .ok c w := by
  unfold partA at h
  split at h
  · rename_i i hi
    obtain ⟨ti, hti, hu, hs, _, hag, _⟩ := hty t i hi
    have hisagg : (isAgg t).run P w = .ok i.agg w := by
      rw [hag]
      unfold isAgg
      simp only [Sem.run_bind, run_underlying hu, Result.andThen_ok]
      cases i.d <;> rfl
    split at h
    · rename_i hi'
      split at h
      · rename_i l hl
        cases h
        obtain ⟨e1, e2⟩ := takeN_eq _ _ _ hl
        refine ⟨.agg ⟨(vs.drop off).take i.size⟩, by simp only [Rel]; exact ⟨_, rfl, by rw [e1]; exact (hr.drop _).take _⟩, ?_⟩
        have hex : (⟨vs⟩ : Array Value).extract off (off + i.size) = ⟨(vs.drop off).take i.size⟩ := by
          apply Array.ext'
          simp
        simp only [part, Sem.run_bind, hisagg, hi', Result.andThen_ok, if_true, sizeOf, typeInfo, run_program, hti, Sem.run_pure, hs, hex]
      · cases h
    · rename_i hi'
      obtain ⟨x, hx, hrx⟩ := hr.get off a h
      refine ⟨x, hrx, ?_⟩
      have : (⟨vs⟩ : Array Value)[off]? = some x := by simpa using hx
      simp only [part, Sem.run_bind, hisagg, hi', Result.andThen_ok, Bool.false_eq_true, if_false, this, Sem.run_pure]
  · cases h

mutual
theorem eqA_run (hty : ∀ t i, E.ty t = some i → TyOk P t i) {M : Mp} : ∀ (n : Nat) (t : TypeId) (x y : AV) (b : Bool) (cx cy : Value) (d : Nat) (w : World), eqA E n t x y = some b → Rel M x cx → Rel M y cy → n ≤ d → (Op.equalIn d t cx cy).run P w = .ok b w
  | 0, _, _, _, _, _, _, _, _, h, _, _, _ => by simp [eqA] at h
  | n + 1, t, x, y, b, cx, cy, d, w, h, hx, hy, hd => by
    obtain ⟨d, rfl⟩ : ∃ q, d = q + 1 := ⟨d - 1, by omega⟩
    unfold eqA at h
    split at h
    · cases h
    · rename_i i hi
      obtain ⟨ti, hti, hu, hs, _, hag, _, heq⟩ := hty t i hi
      split at h
      · rename_i a b' hdd; cases h
        simp only [Rel] at hx hy; subst hx; subst hy
        rw [hdd] at hu
        exact run_equalIn_bool' w d t a b' hu
      · rename_i kk j a k b' hdd
        split at h
        · rename_i hjk; cases h; subst hjk
          simp only [Rel] at hx hy; subst hx; subst hy
          rw [hdd] at hu
          exact run_equalIn_int w d t _ _ _ _ hu
        · cases h
      · rename_i a b' hdd; cases h
        simp only [Rel] at hx hy; subst hx; subst hy
        rw [hdd] at hu
        rw [run_equalIn_string w d t a b' hu, beq_toListBytes]
      · rename_i fs xs ys hdd
        split at h
        · rename_i hok
          simp only [Rel] at hx hy
          obtain ⟨vx, rfl, hvx⟩ := hx
          obtain ⟨vy, rfl, hvy⟩ := hy
          rw [hdd] at hu
          have hf : P.fieldsOf t = ⟨fs⟩ := by simp only [Program.fieldsOf, hu]
          rw [run_equalIn_agg w d t ⟨vx⟩ ⟨vy⟩ (by rw [hf]; exact hu) (heq hok).1, hf]
          exact eqFs_run hty n fs xs ys b vx vy d w h hvx hvy (by omega)
        · cases h
      · cases h
theorem eqFs_run (hty : ∀ t i, E.ty t = some i → TyOk P t i) {M : Mp} : ∀ (n : Nat) (fs : List Field) (xs ys : List AV) (b : Bool) (vx vy : List Value) (d : Nat) (w : World), eqFs E n fs xs ys = some b → RelL M xs vx → RelL M ys vy → n ≤ d → (Op.eqFields d ⟨vx⟩ ⟨vy⟩ fs).run P w = .ok b w
  | 0, _, _, _, _, _, _, _, _, h, _, _, _ => by simp [eqFs] at h
  | n + 1, [], _, _, b, _, _, d, w, h, _, _, _ => by simp [eqFs] at h; subst h; simp [Op.eqFields]
  | n + 1, f :: l, xs, ys, b, vx, vy, d, w, h, hx, hy, hd => by
    unfold eqFs at h
    split at h
    · cases h
    · rename_i hname
      split at h
      · rename_i a b' ha hb
        obtain ⟨ca, hra, hpa⟩ := partA_run hty ha hx w
        obtain ⟨cb, hrb, hpb⟩ := partA_run hty hb hy w
        split at h
        · rename_i he
          have := eqA_run hty n f.type a b' true ca cb d w he hra hrb (by omega)
          have ih := eqFs_run hty n l xs ys b vx vy d w h hx hy (by omega)
          simp only [Op.eqFields, Sem.run_ite, Sem.run_bind, hpa, hpb, this, Result.andThen_ok, ih]
          simp [hname]
        · rename_i he
          cases h
          have := eqA_run hty n f.type a b' false ca cb d w he hra hrb (by omega)
          simp only [Op.eqFields, Sem.run_ite, Sem.run_bind, hpa, hpb, this, Result.andThen_ok]
          simp [hname]
        · cases h
      · cases h
end
end
end Go.Ab
