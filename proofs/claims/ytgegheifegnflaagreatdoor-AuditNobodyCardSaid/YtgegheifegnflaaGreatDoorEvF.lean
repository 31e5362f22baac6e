/- The abstract evaluator: stores into maps, iterators over texts, min and max, the library's text-less functions. -/
import Derived.Test.YtgegheifegnflaaGreatDoorEvE5
namespace Go.Ab
open Go.RowKit

/-- a state in which a block that was looked at is turned -/
def St.wrote (s : St) (n : Nat) (b : Blk) : St := { s with h := s.h.set n (some b), rd := n :: s.rd, wr := n :: s.wr }

section
variable {β : Type} {call : CallF} {s : St} {r : β × St} {P : Program} {B0 : Nat} {w0 : World} {E : Env}

theorem sameS_bits {M : Mp} {x y : AV} {cx cy : Value} (h : sameS x y = true) (hx : Rel M x cx) (hy : Rel M y cy) (n : Nat) : Instr.sameBits n cx cy = true := by
  unfold sameS at h
  split at h
  all_goals first
    | (simp only [Rel] at hx hy; subst hx; subst hy; cases n <;> simpa [Instr.sameBits] using h)
    | cases h

theorem sameL_bits {M : Mp} : ∀ {x y : List AV} {cx cy : List Value}, sameL x y = true → RelL M x cx → RelL M y cy → ∀ n, cx.length = cy.length ∧ (cx.zip cy).all (fun p => Instr.sameBits n p.1 p.2) = true
  | [], [], cx, cy, _, hx, hy, n => by simp only [RelL] at hx hy; subst hx; subst hy; simp
  | [], _ :: _, _, _, h, _, _, _ => by simp [sameL] at h
  | _ :: _, [], _, _, h, _, _, _ => by simp [sameL] at h
  | a :: l, b :: m, cx, cy, h, hx, hy, n => by
    simp only [RelL] at hx hy
    obtain ⟨x1, r1, rfl, h1, h2⟩ := hx
    obtain ⟨y1, r2, rfl, h3, h4⟩ := hy
    simp only [sameL, Bool.and_eq_true] at h
    obtain ⟨g1, g2⟩ := sameL_bits h.2 h2 h4 n
    refine ⟨by simp [g1], ?_⟩
    simp only [List.zip_cons_cons, List.all_cons, Bool.and_eq_true]
    exact ⟨sameS_bits h.1 h1 h3 n, g2⟩

theorem sameK_bits {M : Mp} {x y : AV} {cx cy : Value} (h : sameK x y = true) (hx : Rel M x cx) (hy : Rel M y cy) (n : Nat) : Instr.sameBits (n + 1) cx cy = true := by
  unfold sameK at h
  split at h
  · simp only [Rel] at hx hy
    obtain ⟨vx, rfl, hvx⟩ := hx
    obtain ⟨vy, rfl, hvy⟩ := hy
    obtain ⟨g1, g2⟩ := sameL_bits h hvx hvy n
    simp only [Instr.sameBits, List.size_toArray, g1, BEq.rfl, Bool.true_and]
    exact g2
  · exact sameS_bits h hx hy _

theorem keyStays_run {M : Mp} {x y : AV} {cx cy : Value} (h : sameK x y = true) (hx : Rel M x cx) (hy : Rel M y cy) (w : World) : (Instr.keyThatStays cx cy).run P w = .ok cy w := by
  have := sameK_bits h hx hy 9999
  simp [Instr.keyThatStays, this]

/-- an entry's key: the old one, or the new one: they are the same -/
theorem modify_eq (ces : Array MapEntry) (i : Nat) (g : MapEntry → MapEntry) : (ces.modify i g).toList = ces.toList.modify i g := Array.toList_modify

theorem updateK_run (hty : ∀ t i, E.ty t = some i → TyOk P t i) {t : TypeId} {m k x : AV} {K : EM β} (hh : (updateK E t m k x K).run call s = some r) :
    ∃ s1, s1.nxt = s.nxt ∧ K.run call s1 = some r ∧ ∀ {M : Mp} {w : World} {cm ck cx : Value}, Inv B0 w0 M s.h w → Rel M m cm → Rel M k ck → Rel M x cx →
      ∃ w', (Instr.mapUpdate t cm ck cx).run P w = .ok () w' ∧ Inv B0 w0 M s1.h w' := by
  unfold updateK at hh
  split at hh
  · rename_i kt e n hd
    have hu := E_d hty hd
    obtain ⟨b, hb, h2⟩ := look_run hh
    split at h2
    · rename_i es clock
      obtain ⟨hok, h3⟩ := guardE_run h2
      obtain ⟨o, ho, h4⟩ := withO_run h3
      cases o with
      | none =>
        obtain ⟨_, h5⟩ := put_run h4
        refine ⟨s.wrote n (.amap (es ++ [(k, x, clock)]) (clock + 1)), rfl, h5, fun {M w cm ck cx} I hm hk hx => ?_⟩
        obtain ⟨z, ces, rfl, hz, g1, g2, g3, g4⟩ := map_at I hb hm
        obtain ⟨co, hco, hfr⟩ := findKey_run (P := P) hty hok hk w g4 ho
        have hck := keyOk_run hty hok hk false 9998 w
        simp only [FindRel] at hfr; subst hfr
        refine ⟨_, ?_, I.setMap (ces' := ces.push { key := ck, val := cx, born := clock }) hz hb g1 g2 g3 (by rw [Array.toList_push]; exact g4.push hk hx rfl)⟩
        simp [Instr.mapUpdate, run_underlying hu, getMap g3, hck, hco, setMap _ g3]
      | some p =>
        obtain ⟨i, v⟩ := p
        obtain ⟨hsame, h5⟩ := guardE_run h4
        obtain ⟨_, h6⟩ := put_run h5
        refine ⟨s.wrote n (.amap (modN (fun e => (k, x, e.2.2)) es i) clock), rfl, h6, fun {M w cm ck cx} I hm hk hx => ?_⟩
        obtain ⟨z, ces, rfl, hz, g1, g2, g3, g4⟩ := map_at I hb hm
        obtain ⟨co, hco, hfr⟩ := findKey_run (P := P) hty hok hk w g4 ho
        have hck := keyOk_run hty hok hk false 9998 w
        obtain ⟨e1, e2, rfl, _, he1, he2, hev, hrv⟩ := hfr
        rw [Nat.sub_zero] at he1 he2
        simp only [sameAt, he2] at hsame
        have hke : Rel M e2.1 e1.key := by
          have : ∀ {es : List (AV × AV × Nat)} {ces : List MapEntry} {i : Nat}, EsRel M es ces → es[i]? = some e2 → ces[i]? = some e1 → Rel M e2.1 e1.key := by
            intro es
            induction es with
            | nil => intro ces i _ h; simp at h
            | cons x es ih =>
              intro ces i h h1 h2
              simp only [EsRel] at h
              obtain ⟨y, q, rfl, a1, a2, a3, a4⟩ := h
              cases i with
              | zero => simp at h1 h2; subst h1; subst h2; exact a1
              | succ i => exact ih a4 (by simpa using h1) (by simpa using h2)
          exact this g4 he2 he1
        have hks := keyStays_run (P := P) hsame hke hk w
        have hce : ces[i]? = some e1 := by simpa using he1
        refine ⟨_, ?_, I.setMap (ces' := ces.modify i fun e => { e with key := ck, val := cx }) hz hb g1 g2 g3 (by rw [modify_eq]; exact g4.mod fun e c _ _ _ _ hbn => ⟨hk, hx, hbn⟩)⟩
        simp [Instr.mapUpdate, run_underlying hu, getMap g3, hck, hco, hce, hks, setMap _ g3]
    · exact (fail_run h2).elim
  · exact (fail_run hh).elim

theorem EsRel.get {M : Mp} : ∀ {es : List (AV × AV × Nat)} {ces : List MapEntry} {i : Nat} {e1 : MapEntry} {e2 : AV × AV × Nat}, EsRel M es ces → es[i]? = some e2 → ces[i]? = some e1 → Rel M e2.1 e1.key ∧ Rel M e2.2.1 e1.val ∧ e1.born = e2.2.2
  | [], _, _, _, _, _, h, _ => by simp at h
  | x :: es, _, i, e1, e2, h, h1, h2 => by
    simp only [EsRel] at h
    obtain ⟨y, q, rfl, a1, a2, a3, a4⟩ := h
    cases i with
    | zero => simp at h1 h2; subst h1; subst h2; exact ⟨a1, a2, a3⟩
    | succ i => exact EsRel.get a4 (by simpa using h1) (by simpa using h2)

theorem entryK_run (hty : ∀ t i, E.ty t = some i → TyOk P t i) {t : TypeId} {m k : AV} {K : AV → EM β} (hh : (entryK E t m k K).run call s = some r) :
    ∃ v s1, s1.nxt = s.nxt ∧ (K v).run call s1 = some r ∧ ∀ {M : Mp} {w : World} {cm ck : Value}, Inv B0 w0 M s.h w → Rel M m cm → Rel M k ck →
      ∃ cv w', Rel M v cv ∧ (Instr.mapEntry t cm ck).run P w = .ok cv w' ∧ Inv B0 w0 M s1.h w' := by
  unfold entryK at hh
  split at hh
  · rename_i kt e n hd
    have hu := E_d hty hd
    obtain ⟨ei, hei, ha1⟩ := withO_run hh
    obtain ⟨zz, hzz, ha2⟩ := withO_run ha1
    obtain ⟨ti, hti, _, _, _, _, hz0, _⟩ := hty e ei hei
    obtain ⟨zv, hzv, hzo, _⟩ := hz0 zz hzz
    have hzr : ∀ M, Rel M zz zv := fun M => ofVal_rel M 400 zv zz hzo
    have hzero : ∀ w, (zeroValue e).run P w = .ok zv w := fun w => by simp [zeroValue, typeInfo, hti, hzv]
    obtain ⟨b, hb, h2⟩ := look_run ha2
    have hpair : ∀ {M : Mp} {v : AV} {cv : Value} (q : Int), Rel M v cv → Rel M (AV.tup [v, .sc (goInt q)]) (.tuple #[cv, goInt q]) := by
      intro M v cv q hr
      simp only [Rel]; exact ⟨[cv, goInt q], rfl, by simp only [RelL, Rel]; exact ⟨_, _, rfl, hr, _, _, rfl, rfl, rfl⟩⟩
    split at h2
    · rename_i es clock
      obtain ⟨hok, h3⟩ := guardE_run h2
      obtain ⟨o, ho, h4⟩ := withO_run h3
      cases o with
      | none =>
        obtain ⟨_, h5⟩ := put_run h4
        refine ⟨_, s.wrote n (.amap (es ++ [(k, zz, clock)]) (clock + 1)), rfl, h5, fun {M w cm ck} I hm hk => ?_⟩
        obtain ⟨z, ces, rfl, hz, g1, g2, g3, g4⟩ := map_at I hb hm
        obtain ⟨co, hco, hfr⟩ := findKey_run (P := P) hty hok hk w g4 ho
        have hck := keyOk_run hty hok hk false 9998 w
        simp only [FindRel] at hfr; subst hfr
        refine ⟨_, _, hpair clock (hzr M), ?_, I.setMap (ces' := ces.push { key := ck, val := zv, born := clock }) hz hb g1 g2 g3 (by rw [Array.toList_push]; exact g4.push hk (hzr M) rfl)⟩
        simp [Instr.mapEntry, run_underlying hu, getMap g3, hck, hco, setMap _ g3, hzero]
      | some p =>
        obtain ⟨i, v⟩ := p
        obtain ⟨hsame, h5⟩ := guardE_run h4
        obtain ⟨_, h6⟩ := put_run h5
        refine ⟨_, s.wrote n (.amap (modN (fun e => (k, e.2.1, e.2.2)) es i) clock), rfl, h6, fun {M w cm ck} I hm hk => ?_⟩
        obtain ⟨z, ces, rfl, hz, g1, g2, g3, g4⟩ := map_at I hb hm
        obtain ⟨co, hco, hfr⟩ := findKey_run (P := P) hty hok hk w g4 ho
        have hck := keyOk_run hty hok hk false 9998 w
        obtain ⟨e1, e2, rfl, _, he1, he2, hev, hrv⟩ := hfr
        rw [Nat.sub_zero] at he1 he2
        simp only [sameAt, he2] at hsame
        obtain ⟨q1, q2, q3⟩ := g4.get he2 he1
        have hks := keyStays_run (P := P) hsame q1 hk w
        have hce : ces[i]? = some e1 := by simpa using he1
        refine ⟨_, _, hpair (bornAt es i) hrv, ?_, I.setMap (ces' := ces.modify i fun e => { e with key := ck }) hz hb g1 g2 g3 (by rw [modify_eq]; exact g4.mod fun e c _ _ _ hv hbn => ⟨hk, hv, hbn⟩)⟩
        simp [Instr.mapEntry, run_underlying hu, getMap g3, hck, hco, hce, hks, setMap _ g3, bornAt, he2, q3]
    · exact (fail_run h2).elim
  · exact (fail_run hh).elim

theorem bornIdx_run {M : Mp} {b : Int} : ∀ {es : List (AV × AV × Nat)} {ces : List MapEntry} {k i : Nat}, EsRel M es ces → bornIdx b es k = some i → k ≤ i ∧ ces.findIdx? (fun e => (e.born : Int) == b) = some (i - k)
  | [], ces, k, i, _, h => by simp [bornIdx] at h
  | x :: es, ces, k, i, h, hb => by
    simp only [EsRel] at h
    obtain ⟨y, q, rfl, a1, a2, a3, a4⟩ := h
    simp only [bornIdx] at hb
    split at hb
    · rename_i he; cases hb
      rw [← a3] at he
      simp [List.findIdx?_cons, he]
    · rename_i he
      obtain ⟨g1, g2⟩ := bornIdx_run a4 hb
      rw [← a3] at he
      refine ⟨by omega, ?_⟩
      have : ((y.born : Int) == b) = false := by simpa using he
      rw [List.findIdx?_cons, this]
      simp only [Bool.false_eq_true, if_false, g2, Option.map_some]
      congr 1; omega

theorem entryStoreK_run {t : TypeId} {m st x : AV} {K : EM β} (hh : (entryStoreK m st x K).run call s = some r) :
    ∃ s1, s1.nxt = s.nxt ∧ K.run call s1 = some r ∧ ∀ {M : Mp} {w : World} {cm cs cx : Value}, Inv B0 w0 M s.h w → Rel M m cm → Rel M st cs → Rel M x cx →
      ∃ w', (Instr.entryStore t cm cs cx).run P w = .ok () w' ∧ Inv B0 w0 M s1.h w' := by
  unfold entryStoreK at hh
  split at hh
  · rename_i n kk b
    obtain ⟨bl, hb, h2⟩ := look_run hh
    split at h2
    · rename_i es clock
      obtain ⟨i, hi, h3⟩ := withO_run h2
      obtain ⟨_, h4⟩ := put_run h3
      refine ⟨s.wrote n (.amap (modN (fun e => (e.1, x, e.2.2)) es i) clock), rfl, h4, fun {M w cm cs cx} I hm hs hx => ?_⟩
      obtain ⟨z, ces, rfl, hz, g1, g2, g3, g4⟩ := map_at I hb hm
      simp only [Rel] at hs; subst hs
      obtain ⟨_, hf⟩ := bornIdx_run g4 hi
      rw [Nat.sub_zero] at hf
      have hf' : ces.findIdx? (fun e => (e.born : Int) == b) = some i := by rw [← hf]; obtain ⟨l⟩ := ces; exact List.findIdx?_toArray _ _
      refine ⟨_, ?_, I.setMap (ces' := ces.modify i fun e => { e with val := cx }) hz hb g1 g2 g3 (by rw [modify_eq]; exact g4.mod fun e c _ _ hk _ hbn => ⟨hk, hx, hbn⟩)⟩
      simp [Instr.entryStore, getMap g3, asInt, asIntOf, hf', setMap _ g3]
    · exact (fail_run h2).elim
  · exact (fail_run hh).elim

theorem nextK_run {t : TypeId} {x : AV} {K : AV → EM β} (hh : (nextK x K).run call s = some r) :
    ∃ v s1, s1.nxt = s.nxt ∧ (K v).run call s1 = some r ∧ ∀ {M : Mp} {w : World} {cx : Value}, Inv B0 w0 M s.h w → Rel M x cx →
      ∃ cv w', Rel M v cv ∧ (Instr.next cx true t).run P w = .ok cv w' ∧ Inv B0 w0 M s1.h w' := by
  unfold nextK at hh
  split at hh
  · rename_i n
    obtain ⟨bl, hb, h2⟩ := look_run hh
    split at h2
    · rename_i b pos
      have hat : ∀ {M : Mp} {w : World} {cx : Value}, Inv B0 w0 M s.h w → Rel M (.ptr n 0) cx → ∃ z, M.m n = some z ∧ cx = .pointer (some ⟨z.B, 0, none⟩) ∧ z.O = 0 ∧ z.K = 1 ∧ w.heap[z.B]? = some (.stringIter b pos) := by
        intro M w cx I hx
        simp only [Rel] at hx
        obtain ⟨z, hz, rfl⟩ := hx
        obtain ⟨z', hz', hbk⟩ := I.blk n _ hb
        rw [hz] at hz'; cases hz'
        obtain ⟨g1, g2, g3⟩ := hbk
        exact ⟨z, hz, by rw [g1], g1, g2, g3⟩
      split at h2
      · rename_i hlt
        obtain ⟨_, h3⟩ := put_run h2
        refine ⟨_, s.wrote n (.siter b (pos + (Utf8.decode b pos).2)), rfl, h3, fun {M w cx} I hx => ?_⟩
        obtain ⟨z, hz, rfl, g1, g2, g3⟩ := hat I hx
        have hlt2 := (I.base n z hz).2
        refine ⟨.tuple #[.bool true, goInt pos, .int .i32 (Utf8.decode b pos).1], _, ?_, ?_, I.setObj n z _ _ (.stringIter b (pos + (Utf8.decode b pos).2)) hz hb g1 g2 ⟨_, g3, by simp⟩ (by simp) ⟨g1, g2, by simp [hlt2]⟩⟩
        · simp only [Rel]; exact ⟨_, rfl, by simp only [RelL, Rel]; exact ⟨_, _, rfl, rfl, _, _, rfl, rfl, _, _, rfl, rfl, rfl⟩⟩
        · simp [Instr.next, getObj, Sem.run, g3, hlt, setObj]
      · rename_i hlt
        refine ⟨_, { s with rd := n :: s.rd }, rfl, h2, fun {M w cx} I hx => ?_⟩
        obtain ⟨z, hz, rfl, g1, g2, g3⟩ := hat I hx
        refine ⟨.tuple #[.bool false], w, ?_, ?_, I⟩
        · simp only [Rel]; exact ⟨_, rfl, by simp only [RelL, Rel]; exact ⟨_, _, rfl, rfl, rfl⟩⟩
        · simp [Instr.next, getObj, Sem.run, g3, hlt]
    · exact (fail_run h2).elim
  · exact (fail_run hh).elim

theorem minmaxA_run {M : Mp} {k : IntKind} {isMax : Bool} : ∀ {l : List AV} {x v : Int} {cl : List Value} (w : World), minmaxA isMax k x l = some v → RelL M l cl →
    (cl.foldlM (if isMax then Builtin.max2 else Builtin.min2) (.int k x)).run P w = .ok (.int k v) w
  | [], x, v, cl, w, h, hr => by
    simp only [RelL] at hr; subst hr
    simp [minmaxA] at h; subst h
    simp
  | a :: l, x, v, cl, w, h, hr => by
    simp only [RelL] at hr
    obtain ⟨y, q, rfl, h1, h2⟩ := hr
    unfold minmaxA at h
    split at h
    · rename_i heq; cases heq
    · rename_i k2 y' l' heq
      cases heq
      simp only [Rel] at h1; subst h1
      have ih := minmaxA_run w h h2
      simp only [List.foldlM_cons, Sem.run_bind]
      cases isMax with
      | true =>
        simp only [if_true] at ih ⊢
        simp only [Builtin.max2, Sem.run_pure, Result.andThen_ok]
        exact ih
      | false =>
        simp only [Bool.false_eq_true, if_false] at ih ⊢
        simp only [Builtin.min2, Sem.run_pure, Result.andThen_ok]
        exact ih
    · cases h
end
end Go.Ab
