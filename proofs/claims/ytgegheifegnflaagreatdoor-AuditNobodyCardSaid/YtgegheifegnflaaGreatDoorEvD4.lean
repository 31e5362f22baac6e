/- The abstract evaluator: append whole; slicing; copying. -/
import Derived.Test.YtgegheifegnflaaGreatDoorEvD3
namespace Go.Ab
open Go.RowKit

section
variable {β : Type} {call : CallF} {s : St} {r : β × St} {P : Program} {B0 : Nat} {w0 : World} {E : Env}

theorem E_d {P : Program} (hty : ∀ t i, E.ty t = some i → TyOk P t i) {t : TypeId} {d : TypeDesc} (h : E.d t = some d) : P.underlying t = some d := by
  unfold Env.d at h
  split at h
  · rename_i i hi
    cases h
    obtain ⟨ti, _, hu, _⟩ := hty t i hi
    exact hu
  · cases h

theorem slc_some {M : Mp} {m off la c : Nat} {ca : Value} (h : Rel M (.slc m off la (some c)) ca) : ∃ z a, M.m m = some z ∧ ca = .slice (some a) la c ∧ la ≤ c ∧ (c = 0 ∨ a = ⟨z.B, z.O + off, none⟩) := by
  simp only [Rel, slcRel] at h
  obtain ⟨z, hz, a, k, rfl, h1, h2, h3⟩ := h
  subst h3
  exact ⟨z, a, hz, rfl, h1, h2⟩

theorem appendKnown_run (hty : ∀ t i, E.ty t = some i → TyOk P t i) {st xt ty elem : TypeId} {ei : TyI} {zz : AV} {dx : TypeDesc} (ht : P.underlying st = some (.slice elem)) (hxt : P.underlying xt = some dx) (hdx : ∀ k, dx ≠ .int k) (hei : E.ty elem = some ei) (hz : ei.zero = some zz)
    {a x : AV} {la n c : Nat} {new : List AV} {K : AV → EM β} (hn0 : 0 < n) (hb : (la + n) * ei.bytes ≤ maxBytes) (hm : la + n ≤ maxBytes)
    (h : (appendKnown ei.size la n c a new K).run call s = some r) :
    ∃ v s1, s.nxt ≤ s1.nxt ∧ (K v).run call s1 = some r ∧ ∀ {M : Mp} {w : World} {ca cx : Value}, AppAt P B0 w0 M s w st xt ty elem ei a x ca cx la n new →
      (∃ base, ca = .slice base la c) → (∀ m off k, a = .slc m off la k → ∃ z b, M.m m = some z ∧ ca = .slice (some b) la c ∧ (c = 0 ∨ b = ⟨z.B, z.O + off, none⟩)) → (∀ m off l k, a = .slc m off l k → l = la) → (∀ k, s.nxt ≤ k → k < s1.nxt → M.m k = none) →
      (∀ m off k M' v', a = .slc m off la k → Rel M' a ca → la + n ≤ c → v' = AV.slc m off (la + n) k → Rel M' v' (.slice (match ca with | .slice b _ _ => b | _ => none) (la + n) c)) →
      OutV B0 w0 M s s1 v ((Builtin.append_ #[st, xt] ty #[ca, cx]).run P w) := by
  unfold appendKnown at h
  split at h
  · rename_i hle
    split at h
    · rename_i m off l k
      obtain ⟨s1, hs1, h2, hrest⟩ := storeK_run (P := P) (B0 := B0) (w0 := w0) h
      refine ⟨_, s1, by omega, h2, fun {M w ca cx} A hca hslc hl hfresh hrel => ?_⟩
      have el := hl m off l k rfl
      subst el
      obtain ⟨z, b, hzz, rfl, hb'⟩ := hslc m off k rfl
      have hb' := hb'.resolve_left (by omega)
      subst hb'
      obtain ⟨nv, hnv, hnew⟩ := A.news
      obtain ⟨b2, o2, e, hst, I2⟩ := hrest (ca := .pointer (some ⟨z.B, z.O + (off + l * ei.size), none⟩)) A.inv (by simp only [Rel]; exact ⟨z, hzz, rfl⟩) hnv
      cases e
      obtain ⟨ti, hi, hu, esz, eby, eag, hzo, _⟩ := hty elem ei hei
      have hrun := append_in (ty := ty) ht hxt hdx hi ⟨z.B, z.O + off, none⟩ l c cx n w A.len hle nv (w.setCells z.B (z.O + (off + l * ei.size)) nv)
        (by rw [esz]; exact hnew w fun _ => rfl) (by rw [Addr.add_none, esz, Nat.add_assoc]; exact hst)
      exact ⟨M, _, _, hrun, M.le_refl, fun _ h => .inl h, I2, hrel m off k M _ rfl A.ha hle rfl⟩
    · exact (fail_run h).elim
  · rename_i hlt
    obtain ⟨old, s1, e1, e2, h2, hol, hrest⟩ := growK_run (P := P) (B0 := B0) (w0 := w0) h
    refine ⟨_, s1, by omega, h2, fun {M w ca cx} A hca _ _ hfresh _ => ?_⟩
    obtain ⟨base, rfl⟩ := hca
    exact grow_out hty ht hxt hdx hei hz rfl A (by omega) hb hm (hfresh s.nxt (Nat.le_refl _) (by omega)) e1 e2 hol (hrest A.inv A.ha)

theorem appendK_run (hty : ∀ t i, E.ty t = some i → TyOk P t i) {st xt : TypeId} (ty : TypeId) {dx : TypeDesc} (hxt : P.underlying xt = some dx) (hdx : ∀ k, dx ≠ .int k) {a x : AV} {K : AV → EM β} (h : (appendK E st a x K).run call s = some r) :
    ∃ v s1, s.nxt ≤ s1.nxt ∧ (K v).run call s1 = some r ∧ ∀ {M : Mp} {w : World} {ca cx : Value}, Inv B0 w0 M s.h w → Rel M a ca → Rel M x cx → (∀ k, s.nxt ≤ k → k < s1.nxt → M.m k = none) →
      OutV B0 w0 M s s1 v ((Builtin.append_ #[st, xt] ty #[ca, cx]).run P w) := by
  unfold appendK at h
  split at h
  case h_2 => exact (fail_run h).elim
  rename_i elem hst
  have ht := E_d hty hst
  obtain ⟨ei, hei, ha1⟩ := withO_run h
  obtain ⟨zz, hz, ha2⟩ := withO_run ha1
  obtain ⟨la, hla, ha3⟩ := withO_run ha2
  obtain ⟨n, hn, ha4⟩ := withO_run ha3
  clear h ha1 ha2 ha3
  rcases ite_cond_run ha4 with ⟨h0, h⟩ | ⟨h0, ha5⟩
  · have h0 := Nat.eq_of_beq_eq_true h0
    subst h0
    have hns : ∀ b, a ≠ .sc (.string b) := by
      intro b e; subst e; exact fail_run h
    have h' : (K a).run call s = some r := by
      split at h
      · exact (fail_run h).elim
      · exact h
    refine ⟨a, s, Nat.le_refl _, h', fun {M w ca cx} I ha hx _ => ?_⟩
    obtain ⟨ti, hi, hu, esz, eby, eag, hzo, _⟩ := hty elem ei hei
    have hfirst : (Builtin.firstCells ti.size 0 cx).run P w = .ok ⟨[]⟩ w := by
      unfold lenA at hn
      split at hn
      · simp only [Rel] at hx; subst hx; simp [Builtin.firstCells]
      · simp only [Rel] at hx; subst hx; simp [Builtin.firstCells]
      · simp only [Rel] at hx; obtain ⟨z, hz, b, k, rfl, _⟩ := hx; simp [Builtin.firstCells, loadCells, loadCellsFrom]
      · simp only [Rel] at hx; obtain ⟨b, k, vs, rfl, _⟩ := hx; simp [Builtin.firstCells, loadCells, loadCellsFrom]
      · cases hn
    have hlen := lenA_run (P := P) hn hx w
    have hca : ∃ base la cap, ca = .slice base la cap ∧ la ≤ cap := by
      unfold lenA at hla
      split at hla
      · simp only [Rel] at ha; subst ha; exact ⟨_, _, _, rfl, Nat.le_refl _⟩
      · exact absurd rfl (hns _)
      · simp only [Rel] at ha; obtain ⟨z, hz, b, k, rfl, hk, _⟩ := ha; exact ⟨_, _, _, rfl, hk⟩
      · simp only [Rel] at ha; obtain ⟨b, k, vs, rfl, hk, _⟩ := ha; exact ⟨_, _, _, rfl, hk⟩
      · cases hla
    obtain ⟨base, lc, cap, rfl, hle⟩ := hca
    exact OutV.of_same I rfl (append_nil0 ht hxt hdx hi base lc cap cx w hlen hle hfirst) ha
  · have hn0 : 0 < n := by
      rcases Nat.eq_zero_or_pos n with e | e
      · subst e; simp at h0
      · exact e
    obtain ⟨hg, ha6⟩ := guardE_run ha5
    simp only [Bool.and_eq_true] at hg
    have hsz : 0 < ei.size := Nat.lt_of_succ_le (Nat.le_of_ble_eq_true hg.1.1)
    have hb := Nat.le_of_ble_eq_true hg.1.2
    have hm := Nat.le_of_ble_eq_true hg.2
    obtain ⟨new, s1, ⟨es1, es2⟩, ha7, hnl, hfirst⟩ := firstK_run (P := P) (B0 := B0) (w0 := w0) ha6
    obtain ⟨hcells, h⟩ := guardE_run ha7
    clear ha4 ha5 ha6 ha7
    -- the moment at which both are read
    have At : ∀ {M : Mp} {w : World} {ca cx : Value} {s2 : St}, s2.h = s.h → Inv B0 w0 M s.h w → Rel M a ca → Rel M x cx → AppAt P B0 w0 M s2 w st xt ty elem ei a x ca cx la n new := by
      intro M w ca cx s2 e2 I ha hx
      obtain ⟨vs, h1, h2⟩ := hfirst I hx
      exact ⟨by rw [e2]; exact I, ha, hx, lenA_run hn hx w, ⟨vs, h1, h2⟩, hnl⟩
    have widen : ∀ {M : Mp} {s2 s3 : St} {v : AV} {res : Result Value}, s2.nxt = s.nxt → OutV B0 w0 M s2 s3 v res → OutV B0 w0 M s s3 v res := by
      intro M s2 s3 v res e ⟨M', w', cv, h1, h2, h3, h4, h5⟩
      exact ⟨M', w', cv, h1, h2, by rw [← e]; exact h3, h4, h5⟩
    split at h
    · -- nil
      obtain ⟨old, s2, e1, e2, h2, hol, hrest⟩ := growK_run (P := P) (B0 := B0) (w0 := w0) h
      refine ⟨_, s2, by omega, by rw [es2] at h2; exact h2, fun {M w ca cx} I ha hx hfresh => ?_⟩
      have hla0 : la = 0 := by simp [lenA] at hla; omega
      have A := At (s2 := s1) es1 I ha hx
      have hca : ca = .slice none la 0 := by simp only [Rel] at ha; subst ha; rw [hla0]
      have := grow_out hty ht hxt hdx hei hz hca A (by omega) hb hm (hfresh s1.nxt (by omega) (by omega)) e1 e2 hol (hrest A.inv ha)
      rw [es2] at this
      exact widen es2 (by rw [es2] at *; exact this)
    · -- immutable, clipped
      rename_i cs len
      obtain ⟨old, s2, e1, e2, h2, hol, hrest⟩ := growK_run (P := P) (B0 := B0) (w0 := w0) h
      refine ⟨_, s2, by omega, by rw [es2] at h2; exact h2, fun {M w ca cx} I ha hx hfresh => ?_⟩
      have hll : len = la := by simpa [lenA] using hla
      have A := At (s2 := s1) es1 I ha hx
      have hca : ∃ base, ca = .slice base la la := by
        simp only [Rel] at ha; obtain ⟨b, k, vs, rfl, _, hk, _⟩ := ha
        exact ⟨some b, by have := hk trivial; subst this; subst hll; rfl⟩
      obtain ⟨base, hca⟩ := hca
      have := grow_out hty ht hxt hdx hei hz hca A (by omega) hb hm (hfresh s1.nxt (by omega) (by omega)) e1 e2 hol (hrest A.inv ha)
      rw [es2] at this
      exact widen es2 (by rw [es2] at *; exact this)
    · -- a slice of a known capacity
      rename_i m off len c
      obtain ⟨v, s2, hmon, h2, hrest⟩ := appendKnown_run (ty := ty) (x := x) (P := P) (B0 := B0) (w0 := w0) (xt := xt) hty ht hxt hdx hei hz hn0 hb hm h
      refine ⟨v, s2, by omega, h2, fun {M w ca cx} I ha hx hfresh => ?_⟩
      have hll : len = la := by simpa [lenA] using hla
      subst hll
      have A := At (s2 := s1) es1 I ha hx
      obtain ⟨z, b, hzm, hca, hlc, hb'⟩ := slc_some ha
      refine widen es2 (hrest A ⟨_, hca⟩ ?_ ?_ (fun k h1 h2 => hfresh k (by omega) h2) ?_)
      · intro m' off' k' e; cases e; exact ⟨z, b, hzm, hca, hb'⟩
      · intro m' off' l' k' e; cases e; rfl
      · intro m' off' k' M' v' e hr hle e'
        cases e; subst e'; subst hca
        simp only [Rel, slcRel] at hr ⊢
        obtain ⟨z', hz', a', k2, e2, h1, h2, h3⟩ := hr
        cases e2
        exact ⟨z', hz', _, _, rfl, hle, h2, rfl⟩
    · -- a slice up to its block's end
      rename_i m off len
      have hll : len = la := by simpa [lenA] using hla
      subst hll
      obtain ⟨b, hblk, h'⟩ := look_run h
      clear h
      split at h'
      · rename_i c sz
        obtain ⟨hsq, h''⟩ := guardE_run h'
        clear h'
        have hsq := Nat.eq_of_beq_eq_true hsq
        subst hsq
        obtain ⟨v, s2, hmon, h2, hrest⟩ := appendKnown_run (ty := ty) (x := x) (P := P) (B0 := B0) (w0 := w0) (xt := xt) hty ht hxt hdx hei hz hn0 hb hm h''
        simp only at hmon
        refine ⟨v, s2, by omega, h2, fun {M w ca cx} I ha hx hfresh => ?_⟩
        have A := At (s2 := { s1 with rd := m :: s1.rd }) es1 I ha hx
        have ha' := ha
        simp only [Rel, slcRel] at ha'
        obtain ⟨z, hzm, a', k, rfl, hk, ha'', hcap⟩ := ha'
        rw [es1] at hblk
        obtain ⟨z', hz', hbk⟩ := I.blk m _ hblk
        rw [hzm] at hz'; cases hz'
        obtain ⟨b1, b2, b3, b4⟩ := hbk
        have hK := b3 rfl
        have hkc : k = (c.length - off) / ei.size := by
          rw [b1] at hcap
          have : k * ei.size = c.length - off := by omega
          rw [← this, Nat.mul_div_cancel _ hsz]
        refine widen es2 (hrest A ⟨_, by rw [← hkc]⟩ ?_ ?_ (fun k h1 h2 => hfresh k (by simp only at h1; omega) h2) ?_)
        · intro m' off' k' e; cases e
          exact ⟨z, a', hzm, by rw [← hkc], by rw [← hkc]; exact ha''⟩
        · intro m' off' l' k' e; cases e; rfl
        · intro m' off' k' M' v' e hr hle e'
          cases e; subst e'
          simp only [Rel, slcRel] at hr ⊢
          obtain ⟨z', hz', a2, k2, e2, h1, h2, h3⟩ := hr
          cases e2
          exact ⟨z', hz', _, _, rfl, by omega, by rw [← hkc]; exact h2, by rw [← hkc]; exact h3⟩
      · rename_i c sz
        obtain ⟨hsq, h⟩ := guardE_run h'
        clear h'
        have hsq := Nat.eq_of_beq_eq_true hsq
        subst hsq
        split at h
        · -- the block is handed on, or left behind
          rename_i hend
          obtain ⟨old, s2, e1, e2, h2, hol, hrest⟩ := growK_run (P := P) (B0 := B0) (w0 := w0) h
          obtain ⟨_, h3⟩ := put_run h2
          simp only at e1 e2
          refine ⟨_, { s2 with h := s2.h.set m none, wr := m :: s2.wr }, by simp only; omega, h3, fun {M w ca cx} I ha hx hfresh => ?_⟩
          have A := At (s2 := { s1 with rd := m :: s1.rd }) es1 I ha hx
          have ha' := ha
          simp only [Rel, slcRel] at ha'
          obtain ⟨z, hzm, a', k, rfl, hk, ha'', hcap⟩ := ha'
          rw [es1] at hblk
          obtain ⟨z', hz', hbk⟩ := I.blk m _ hblk
          rw [hzm] at hz'; cases hz'
          obtain ⟨b1, b2, b3, b4⟩ := hbk
          have hfr := hfresh s1.nxt (by omega) (by simp only [e2]; omega)
          by_cases hlt : k < len + n
          · -- it grows
            have hout := grow_out (s1 := s2) hty ht hxt hdx hei hz rfl A (by omega) hb hm hfr e1 e2 hol (hrest A.inv ha)
            obtain ⟨M', w', cv, g1, g2, g3, g4, g5⟩ := hout
            refine ⟨M', w', cv, g1, g2, ?_, ?_, ?_⟩
            · intro q hq; rcases g3 q hq with g | g
              · exact .inl g
              · right; simp only at g ⊢; omega
            · exact g4.drop m
            · exact g5
          · -- in its place
            have hle : len + n ≤ k := by omega
            have ha'' := ha''.resolve_left (by omega)
            subst ha''
            obtain ⟨nv, hnv, hnew⟩ := A.news
            have hnvl := hnv.length
            rw [b1] at hcap
            have hKk : off + (len + n) * ei.size ≤ z.K := by
              have : (len + n) * ei.size ≤ k * ei.size := Nat.mul_le_mul_right _ hle
              omega
            rw [Nat.add_mul] at hKk
            obtain ⟨ti, hi, hu, esz, eby, eag, hzo, _⟩ := hty elem ei hei
            have hone : ∀ v ∈ nv, v.oneCell' = true := hnv.oneCells hcells
            have hstore : (storeCells ⟨z.B, z.O + off + len * ei.size, none⟩ nv).run P w = .ok () (w.setCells z.B (z.O + off + len * ei.size) nv) := by
              have := run_storeCells_cells (P := P) z.B (z.O + off + len * ei.size) nv 0 w (fun j hj => by
                obtain ⟨⟨v, hv, _⟩, _⟩ := b4 (off + len * ei.size + j) (by rw [hnvl, hnl] at hj; omega)
                rw [show z.O + off + len * ei.size + 0 + j = z.O + (off + len * ei.size + j) by omega, hv]; rfl)
                (fun j hj => by
                  have := (b4 (off + len * ei.size + j) (by rw [hnvl, hnl] at hj; omega)).2
                  rwa [show z.O + off + len * ei.size + 0 + j = z.O + (off + len * ei.size + j) by omega]) hone
              simpa using this
            have hrun := append_in (ty := ty) ht hxt hdx hi ⟨z.B, z.O + off, none⟩ len k cx n w A.len hle nv _ (by rw [esz]; exact hnew w fun _ => rfl) (by rw [Addr.add_none, esz]; exact hstore)
            -- what the old cells are
            obtain ⟨ov, hov, hold⟩ := hrest A.inv ha
            have hovl := hov.length
            have hvs : ∀ j, j < len * ei.size → ∃ v, w.cell? ⟨z.B, z.O + off + j, none⟩ = some v := fun j hj => by
              obtain ⟨⟨v, hv, _⟩, _⟩ := b4 (off + j) (by omega)
              exact ⟨v, by rw [Nat.add_assoc]; exact hv⟩
            have hov' : ov = (List.range (len * ei.size)).map fun j => (w.cell? ⟨z.B, z.O + off + j, none⟩).getD undef := by
              have h1 := hold w fun _ => rfl
              have h2 := run_loadCells_list (P := P) w ⟨z.B, z.O + off, none⟩ ((List.range (len * ei.size)).map fun j => (w.cell? ⟨z.B, z.O + off + j, none⟩).getD undef) (fun j v hv => by
                have hj : j < len * ei.size := by
                  rcases Nat.lt_or_ge j (len * ei.size) with h' | h'
                  · exact h'
                  · rw [List.getElem?_eq_none (by simpa using h')] at hv; cases hv
                obtain ⟨y, hy⟩ := hvs j hj
                rw [List.getElem?_map, List.getElem?_range hj] at hv
                simp only [Option.map_some, hy, Option.getD_some, Option.some.injEq] at hv
                subst hv; rw [Addr.add_none]; exact hy)
              simp only [Builtin.firstCells] at h1
              rw [List.length_map, List.length_range] at h2
              rw [h2] at h1
              injection h1 with h1
              exact (congrArg Array.toList h1).symm
            have hfrm : m ≠ s1.nxt := fun e => by rw [e, hfr] at hzm; cases hzm
            have hbase := I.base m z hzm
            have I1 := I.drop m
            have I2 := I1.replace (w' := w.setCells z.B (z.O + off + len * ei.size) nv) s1.nxt ⟨z.B, z.O + off, z.K - off, ei.size⟩ (.cells (old ++ new) ei.size false) (.inl hfr) hbase.1
              (by rw [(setCells_os _ _ _ _).2.2.2]; exact hbase.2) (by rw [(setCells_os _ _ _ _).2.2.2]; exact Nat.le_refl _) (Below.setCells I.below hbase.1 _ _)
              (by
                refine ⟨rfl, by simp only [List.length_append]; omega, by simp, fun j hj => ?_⟩
                simp only at hj ⊢
                rw [World.frozen?_setCells]
                obtain ⟨⟨v, hv, _⟩, hf⟩ := b4 (off + j) (by omega)
                rw [← Nat.add_assoc] at hv hf
                refine ⟨?_, hf⟩
                by_cases hj1 : j < len * ei.size
                · refine ⟨v, by rw [World.cell?_setCells_out _ _ _ _ _ (fun _ _ => .inl (by simp only; omega))]; exact hv, fun a1 ha1 => ?_⟩
                  rw [List.getElem?_append_left (by omega)] at ha1
                  obtain ⟨y, hy, hry⟩ := hov.get j a1 ha1
                  rw [hov', List.getElem?_map, List.getElem?_range hj1] at hy
                  simp only [Option.map_some, hv, Option.getD_some, Option.some.injEq] at hy
                  subst hy
                  exact Rel.mono (M.le_lay _ _ (.inl hfr)) _ _ hry
                · by_cases hj2 : j < len * ei.size + n * ei.size
                  · have hlt2 : j - len * ei.size < nv.length := by omega
                    refine ⟨nv[j - len * ei.size]'hlt2, ?_, fun a1 ha1 => ?_⟩
                    · have := World.cell?_setCells_in z.B nv (z.O + off + len * ei.size) w (fun i hi => by
                        obtain ⟨⟨v, hv, _⟩, _⟩ := b4 (off + len * ei.size + i) (by omega)
                        rw [show z.O + off + len * ei.size + i = z.O + (off + len * ei.size + i) by omega, hv]; rfl) (j - len * ei.size) hlt2
                      rwa [show z.O + off + len * ei.size + (j - len * ei.size) = z.O + off + j by omega] at this
                    · rw [List.getElem?_append_right (by omega), hol] at ha1
                      obtain ⟨y, hy, hry⟩ := hnv.get _ a1 ha1
                      rw [List.getElem?_eq_getElem hlt2] at hy
                      cases hy
                      exact Rel.mono (M.le_lay _ _ (.inl hfr)) _ _ hry
                  · refine ⟨v, by rw [World.cell?_setCells_out _ _ _ _ _ (fun _ _ => .inr (by simp only; omega))]; exact hv, fun a1 ha1 => ?_⟩
                    rw [List.getElem?_eq_none (by simp only [List.length_append]; omega)] at ha1
                    cases ha1)
              (by
                intro n' b' z' hne hb' hz' x o hh hh'
                have hnm : n' ≠ m := fun e => by subst e; rw [T.get_set_self] at hb'; cases hb'
                rw [T.get_set_ne _ _ hnm] at hb'
                exact I.apart m n' _ b' z z' (fun e => hnm e.symm) hblk hb' hzm hz' x o ⟨hh.1, by have := hh.2.1; simp only at this; omega, by have := hh.2.2; simp only at this; omega⟩ hh')
              (by
                intro x o hh
                exact I.own m _ z hblk hzm x o ⟨hh.1, by have := hh.2.1; simp only at this; omega, by have := hh.2.2; simp only at this; omega⟩)
              (by
                intro x o _ hnot
                refine ⟨World.cell?_setCells_out _ _ _ _ ⟨x, o, none⟩ (fun hx _ => ?_), World.frozen?_setCells _ _ _ _ _⟩
                simp only at hx ⊢
                by_cases hlo : o < z.O + off + len * ei.size
                · exact .inl hlo
                · by_cases hhi : z.O + off + len * ei.size + nv.length ≤ o
                  · exact .inr hhi
                  · exact absurd ⟨hx, by simp only; omega, by simp only; omega⟩ hnot)
              (fun x ob h1 h2 _ => setCells_obj _ _ _ _ _ _ h1 h2)
            refine ⟨M.lay s1.nxt ⟨z.B, z.O + off, z.K - off, ei.size⟩, _, _, hrun, M.le_lay s1.nxt _ (.inl hfr), ?_, ?_, ?_⟩
            · intro q hq
              by_cases e : q = s1.nxt
              · right; simp only [e2]; omega
              · left; rw [Mp.lay_ne M _ e] at hq; exact hq
            · refine I2.sub fun q b hq => ?_
              simp only [e1] at hq
              rw [T.get_set] at hq ⊢
              by_cases e : q = s1.nxt
              · subst e
                rw [if_neg (fun e => hfrm e.symm), T.get_set_self] at hq
                rw [if_pos rfl]; exact hq
              · rw [if_neg e, T.get_set]
                split at hq
                · cases hq
                · rename_i hqm
                  rw [T.get_set_ne _ _ e, es1] at hq
                  rw [if_neg hqm]; exact hq
            · simp only [Rel, slcRel]
              refine ⟨_, Mp.lay_self _ _ _, _, _, rfl, hle, .inr rfl, ?_⟩
              simp only
              omega
        · split at h
          · rename_i hne hle2
            obtain ⟨s2, hs2, h2, hrest⟩ := storeK_run (P := P) (B0 := B0) (w0 := w0) h
            refine ⟨_, s2, by simp only at hs2; omega, h2, fun {M w ca cx} I ha hx hfresh => ?_⟩
            have A := At (s2 := { s1 with rd := m :: s1.rd }) es1 I ha hx
            have ha' := ha
            simp only [Rel, slcRel] at ha'
            obtain ⟨z, hzm, a', k, rfl, hk, ha'', hcap⟩ := ha'
            rw [es1] at hblk
            obtain ⟨z', hz', hbk⟩ := I.blk m _ hblk
            rw [hzm] at hz'; cases hz'
            obtain ⟨b1, b2, b3, b4⟩ := hbk
            rw [b1] at hcap
            have hle : len + n ≤ k := by
              have : (len + n) * ei.size ≤ k * ei.size := by omega
              exact Nat.le_of_mul_le_mul_right this hsz
            have ha'' := ha''.resolve_left (by omega)
            subst ha''
            obtain ⟨nv, hnv, hnew⟩ := A.news
            obtain ⟨b3', o2, e, hst, I2⟩ := hrest (ca := .pointer (some ⟨z.B, z.O + (off + len * ei.size), none⟩)) A.inv (by simp only [Rel]; exact ⟨z, hzm, rfl⟩) hnv
            cases e
            obtain ⟨ti, hi, hu, esz, eby, eag, hzo, _⟩ := hty elem ei hei
            have hrun := append_in (ty := ty) ht hxt hdx hi ⟨z.B, z.O + off, none⟩ len k cx n w A.len hle nv (w.setCells z.B (z.O + (off + len * ei.size)) nv)
              (by rw [esz]; exact hnew w fun _ => rfl) (by rw [Addr.add_none, esz, Nat.add_assoc]; exact hst)
            refine ⟨M, _, _, hrun, M.le_refl, fun _ h => .inl h, I2, ?_⟩
            simp only [Rel, slcRel]
            exact ⟨z, hzm, _, _, rfl, hle, .inr rfl, by rw [b1]; exact hcap⟩
          · exact (fail_run h).elim
      · exact (fail_run h').elim
    · exact (fail_run h).elim
end
end Go.Ab
