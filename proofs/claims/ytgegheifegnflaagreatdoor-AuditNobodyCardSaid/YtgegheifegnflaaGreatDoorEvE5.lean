/- The abstract evaluator: maps, iterators over texts, min and max. -/
import Derived.Test.YtgegheifegnflaaGreatDoorEvE4
namespace Go.Ab
open Go.RowKit

section
variable {β : Type} {call : CallF} {s : St} {r : β × St} {P : Program} {B0 : Nat} {w0 : World} {E : Env}

theorem keyOk_run (hty : ∀ t i, E.ty t = some i → TyOk P t i) {kt : TypeId} {k : AV} (h : keyOk E kt k = true) {M : Mp} {ck : Value} (hr : Rel M k ck) (e : Bool) (n : Nat) (w : World) : (Instr.checkKey e (n + 2) kt ck).run P w = .ok () w := by
  unfold keyOk at h
  split at h
  · rename_i kk j a hd
    have hu := E_d hty hd
    simp only [Rel] at hr; subst hr
    unfold Instr.checkKey
    simp [run_underlying hu]
  · rename_i a hd
    have hu := E_d hty hd
    simp only [Rel] at hr; subst hr
    unfold Instr.checkKey
    simp [run_underlying hu]
  · rename_i fs cs hd
    have hu := E_d hty hd
    simp only [Rel] at hr; obtain ⟨vs, rfl, hvs⟩ := hr
    have hall : ∀ f ∈ fs, plainField E f = true ∧ ∃ v, cs[f.offset]? = some (.sc v) ∧ ((∃ j a, v = .int j a) ∨ (∃ a, v = .string a) ∨ (∃ a, v = .bool a)) := by
      intro f hf
      have := List.all_eq_true.1 h f hf
      simp only [Bool.and_eq_true] at this
      refine ⟨this.1, ?_⟩
      have h2 := this.2
      split at h2
      · rename_i j a hc; exact ⟨_, hc, .inl ⟨_, _, rfl⟩⟩
      · rename_i a hc; exact ⟨_, hc, .inr (.inl ⟨_, rfl⟩)⟩
      · rename_i a hc; exact ⟨_, hc, .inr (.inr ⟨_, rfl⟩)⟩
      · cases h2
    have hone : ∀ f ∈ fs, ∃ v, (part f.type ⟨vs⟩ f.offset).run P w = .ok v w ∧ (Instr.checkKey e (n + 1) f.type v).run P w = .ok () w := by
      intro f hf
      obtain ⟨hpf, v, hv, hsh⟩ := hall f hf
      unfold plainField at hpf
      simp only [Bool.and_eq_true] at hpf
      have hpf2 := hpf.2
      have hfd : ∃ d, E.d f.type = some d ∧ ((∃ k, d = .int k) ∨ d = .string ∨ d = .bool) := by
        split at hpf2
        · rename_i k hk; exact ⟨_, hk, .inl ⟨k, rfl⟩⟩
        · rename_i hk; exact ⟨_, hk, .inr (.inl rfl)⟩
        · rename_i hk; exact ⟨_, hk, .inr (.inr rfl)⟩
        · cases hpf2
      obtain ⟨d, hfd, hdk⟩ := hfd
      have huf := E_d hty hfd
      obtain ⟨x, hx, hrx⟩ := hvs.get _ _ hv
      simp only [Rel] at hrx; subst hrx
      refine ⟨x, ?_, ?_⟩
      · have hag : (isAgg f.type).run P w = .ok false w := by
          unfold isAgg
          rcases hdk with ⟨k, rfl⟩ | rfl | rfl <;> simp [run_underlying huf]
        have hx' : (⟨vs⟩ : Array Value)[f.offset]? = some x := by simpa using hx
        simp only [part, Sem.run_bind, hag, Result.andThen_ok, Bool.false_eq_true, if_false, hx', Sem.run_pure]
      · unfold Instr.checkKey
        rcases hdk with ⟨k, rfl⟩ | rfl | rfl <;> rcases hsh with ⟨j, a, rfl⟩ | ⟨a, rfl⟩ | ⟨a, rfl⟩ <;> simp [run_underlying huf]
    have hnm : ∀ f ∈ fs, f.name ≠ "_" := by
      intro f hf
      have := (hall f hf).1
      unfold plainField at this
      simp only [Bool.and_eq_true, bne_iff_ne, ne_eq] at this
      exact this.1
    unfold Instr.checkKey
    simp only [Sem.run_bind, run_underlying hu, Result.andThen_ok]
    rw [← Array.forIn_toList]
    simp only
    clear h hall hd hu
    induction fs with
    | nil => simp
    | cons f fs ih =>
      obtain ⟨v, hv1, hv2⟩ := hone f (.head _)
      have hn := hnm f (.head _)
      have := ih (fun g hg => hone g (.tail _ hg)) (fun g hg => hnm g (.tail _ hg))
      simp only [List.forIn_cons, Sem.run_bind, hn, ne_eq, not_false_eq_true, if_true, hv1, hv2, Result.andThen_ok, Sem.run_pure]
      exact this
  · cases h

/-- what was found, on both sides -/
def FindRel (M : Mp) (es : List (AV × AV × Nat)) (ces : List MapEntry) (i : Nat) (o : Option (Nat × AV)) (co : Option (Nat × Value)) : Prop :=
  match o with
  | none => co = none
  | some (j, v) => ∃ e e', co = some (j, e.val) ∧ i ≤ j ∧ ces[j - i]? = some e ∧ es[j - i]? = some e' ∧ e'.2.1 = v ∧ Rel M v e.val

theorem FindRel.cons {M : Mp} {es : List (AV × AV × Nat)} {ces : List MapEntry} {i : Nat} {o : Option (Nat × AV)} {co : Option (Nat × Value)} {e : AV × AV × Nat} {c : MapEntry} (h : FindRel M es ces (i + 1) o co) : FindRel M (e :: es) (c :: ces) i o co := by
  cases o with
  | none => exact h
  | some p =>
    obtain ⟨j, v⟩ := p
    obtain ⟨x, x', h1, h2, h3, h4, h5, h6⟩ := h
    have e1 : j - i = (j - (i + 1)) + 1 := by omega
    exact ⟨x, x', h1, by omega, by rw [e1, List.getElem?_cons_succ]; exact h3, by rw [e1, List.getElem?_cons_succ]; exact h4, h5, h6⟩

theorem FindRel.here {M : Mp} {es : List (AV × AV × Nat)} {ces : List MapEntry} {i : Nat} {e : AV × AV × Nat} {c : MapEntry} (h : Rel M e.2.1 c.val) : FindRel M (e :: es) (c :: ces) i (some (i, e.2.1)) (some (i, c.val)) :=
  ⟨c, e, rfl, Nat.le_refl _, by simp, by simp, rfl, h⟩

theorem find_now {kt : TypeId} {k : AV} {M : Mp} {ck : Value} (hk : Rel M k ck) {d : TypeDesc} (hd : E.d kt = some d) (hds : (∃ q, d = .int q) ∨ d = .string) :
    ∀ {es : List (AV × AV × Nat)} {ces : List MapEntry} {i : Nat} {o : Option (Nat × AV)}, EsRel M es ces → findE E kt k es i = some o → ∃ co, Instr.findNow d ck ces i = some co ∧ FindRel M es ces i o co
  | [], ces, i, o, he, h => by
    simp only [EsRel] at he; subst he
    simp [findE] at h; subst h
    exact ⟨none, rfl, rfl⟩
  | e :: es, ces, i, o, he, h => by
    simp only [EsRel] at he
    obtain ⟨c, cs, rfl, h1, h2, h3, h4⟩ := he
    obtain ⟨ek, ev, eb⟩ := e
    simp only [findE] at h
    have hkey : ∀ b, keyEq E kt k ek = some b → Instr.sameNow d ck c.key = some b := by
      intro b hb
      unfold keyEq at hb
      split at hb
      · rename_i q k1 a k2 b' hd'
        rw [hd] at hd'; cases hd'
        simp only [Rel] at hk h1; subst hk
        rw [h1]
        split at hb
        · rename_i e; subst e; cases hb; simp [Instr.sameNow]
        · cases hb
      · rename_i a b' hd'
        rw [hd] at hd'; cases hd'
        simp only [Rel] at hk h1; subst hk
        rw [h1]; cases hb; simp [Instr.sameNow]
      · rename_i hd'
        rw [hd] at hd'; cases hd'
        rcases hds with ⟨q, hq⟩ | hq <;> cases hq
      · cases hb
    split at h
    · rename_i hb; cases h
      exact ⟨some (i, c.val), by simp [Instr.findNow, hkey true hb], FindRel.here (e := (ek, ev, eb)) h2⟩
    · rename_i hb
      obtain ⟨co, h5, h6⟩ := find_now hk hd hds h4 h
      exact ⟨co, by simp [Instr.findNow, hkey false hb, h5], h6.cons⟩
    · cases h

theorem find_ask (hty : ∀ t i, E.ty t = some i → TyOk P t i) {kt : TypeId} {k : AV} {M : Mp} {ck : Value} (hk : Rel M k ck) {fs : Array Field} (hd : E.d kt = some (.struct fs)) (w : World) :
    ∀ {es : List (AV × AV × Nat)} {ces : List MapEntry} {i : Nat} {o : Option (Nat × AV)}, EsRel M es ces → findE E kt k es i = some o → ∃ co, (Instr.findAsking kt ck ces i).run P w = .ok co w ∧ FindRel M es ces i o co
  | [], ces, i, o, he, h => by
    simp only [EsRel] at he; subst he
    simp [findE] at h; subst h
    exact ⟨none, by simp [Instr.findAsking], rfl⟩
  | e :: es, ces, i, o, he, h => by
    simp only [EsRel] at he
    obtain ⟨c, cs, rfl, h1, h2, h3, h4⟩ := he
    obtain ⟨ek, ev, eb⟩ := e
    simp only [findE] at h
    have hkey : ∀ b, keyEq E kt k ek = some b → (Op.equal kt ck c.key).run P w = .ok b w := by
      intro b hb
      unfold keyEq at hb
      split at hb
      · rename_i hd'; rw [hd] at hd'; cases hd'
      · rename_i hd'; rw [hd] at hd'; cases hd'
      · exact eqA_run hty 40 kt _ _ b _ _ 10000 w hb hk h1 (by omega)
      · cases hb
    split at h
    · rename_i hb; cases h
      exact ⟨some (i, c.val), by simp [Instr.findAsking, hkey true hb], FindRel.here (e := (ek, ev, eb)) h2⟩
    · rename_i hb
      obtain ⟨co, h5, h6⟩ := find_ask hty hk hd w h4 h
      exact ⟨co, by simp [Instr.findAsking, hkey false hb, h5], h6.cons⟩
    · cases h

theorem findNow_struct {fs : Array Field} {ck : Value} : ∀ (ces : List MapEntry) (i : Nat), ces ≠ [] → Instr.findNow (.struct fs) ck ces i = none
  | [], _, h => absurd rfl h
  | c :: cs, i, _ => by simp [Instr.findNow, Instr.sameNow]

theorem findKey_run (hty : ∀ t i, E.ty t = some i → TyOk P t i) {kt : TypeId} {k : AV} (hok : keyOk E kt k = true) {M : Mp} {ck : Value} (hk : Rel M k ck) (w : World)
    {es : List (AV × AV × Nat)} {ces : List MapEntry} {o : Option (Nat × AV)} (he : EsRel M es ces) (h : findE E kt k es 0 = some o) :
    ∃ co, (Instr.findKey kt ck ces).run P w = .ok co w ∧ FindRel M es ces 0 o co := by
  have hcase : (∃ d, E.d kt = some d ∧ ((∃ q, d = .int q) ∨ d = .string)) ∨ ∃ fs, E.d kt = some (.struct fs) := by
    unfold keyOk at hok
    split at hok
    · rename_i hd; exact .inl ⟨_, hd, .inl ⟨_, rfl⟩⟩
    · rename_i hd; exact .inl ⟨_, hd, .inr rfl⟩
    · rename_i hd; exact .inr ⟨_, hd⟩
    · cases hok
  rcases hcase with ⟨d, hd, hds⟩ | ⟨fs, hd⟩
  · obtain ⟨co, h1, h2⟩ := find_now hk hd hds he h
    exact ⟨co, by simp [Instr.findKey, run_underlying (E_d hty hd), h1], h2⟩
  · obtain ⟨co, h1, h2⟩ := find_ask hty hk hd w he h
    cases hc : ces with
    | nil =>
      subst hc
      simp [Instr.findAsking] at h1
      exact ⟨co, by simp [Instr.findKey, run_underlying (E_d hty hd), Instr.findNow, h1], h2⟩
    | cons c cs =>
      subst hc
      have := findNow_struct (fs := fs) (ck := ck) (c :: cs) 0 (by simp)
      exact ⟨co, by simp [Instr.findKey, run_underlying (E_d hty hd), this, h1], h2⟩

theorem lookupK_run (hty : ∀ t i, E.ty t = some i → TyOk P t i) {t : TypeId} {x k : AV} {ok : Bool} {K : AV → EM β} (hh : (lookupK E t x k ok K).run call s = some r) :
    ∃ v s1, s.like s1 ∧ (K v).run call s1 = some r ∧ ∀ {M : Mp} {w : World} {cx ck : Value}, Inv B0 w0 M s.h w → Rel M x cx → Rel M k ck →
      ∃ cv, Rel M v cv ∧ (Instr.lookup t cx ck ok).run P w = .ok cv w := by
  unfold lookupK at hh
  split at hh
  case h_2 => exact (fail_run hh).elim
  rename_i kt e hd
  have hu := E_d hty hd
  obtain ⟨ei, hei, h1⟩ := withO_run hh
  obtain ⟨z, hz, h2⟩ := withO_run h1
  obtain ⟨hok, h3⟩ := guardE_run h2
  obtain ⟨ti, hti, _, _, _, _, hz0, _⟩ := hty e ei hei
  obtain ⟨zv, hzv, hzo, _⟩ := hz0 z hz
  have hzr : ∀ M, Rel M z zv := fun M => ofVal_rel M 400 zv z hzo
  have hzero : ∀ w, (zeroValue e).run P w = .ok zv w := fun w => by simp [zeroValue, typeInfo, hti, hzv]
  have hpair : ∀ {M : Mp} {v : AV} {cv : Value} (b : Bool), Rel M v cv → Rel M (okV ok v b) (if ok = true then .tuple #[cv, .bool b] else cv) := by
    intro M v cv b hr
    cases ok with
    | true => simp only [okV, Rel, if_true]; exact ⟨[cv, .bool b], rfl, by simp only [RelL, Rel]; exact ⟨_, _, rfl, hr, _, _, rfl, rfl, rfl⟩⟩
    | false => simpa [okV] using hr
  split at h3
  · refine ⟨_, s, ⟨rfl, rfl⟩, h3, fun {M w cx ck} I hx hk => ?_⟩
    simp only [Rel] at hx; subst hx
    have hck := keyOk_run hty hok hk true 9998 w
    obtain ⟨co, hco, hfr⟩ := findKey_run (P := P) hty hok hk w (es := []) (ces := []) (by simp only [EsRel]) (o := none) (by simp [findE])
    simp only [FindRel] at hfr; subst hfr
    refine ⟨_, hpair false (hzr M), ?_⟩
    simp [Instr.lookup, run_underlying hu, hck, hco, hzero]
  · rename_i n
    obtain ⟨b, hb, h4⟩ := look_run h3
    split at h4
    · rename_i es clock
      obtain ⟨o, ho, h5⟩ := withO_run h4
      have hmain : ∀ {M : Mp} {w : World} {cx ck : Value}, Inv B0 w0 M s.h w → Rel M (.mp n) cx → Rel M k ck → ∃ zz ces co, cx = .map (some zz) ∧ (getObj zz).run P w = .ok (.map ces clock) w ∧ EsRel M es ces.toList ∧ (Instr.findKey kt ck ces.toList).run P w = .ok co w ∧ FindRel M es ces.toList 0 o co ∧ (Instr.checkKey ces.isEmpty 10000 kt ck).run P w = .ok () w := by
        intro M w cx ck I hx hk
        obtain ⟨zz, ces, rfl, hzz, g1, g2, g3, g4⟩ := map_at I hb hx
        obtain ⟨co, hco, hfr⟩ := findKey_run (P := P) hty hok hk w g4 ho
        exact ⟨zz.B, ces, co, rfl, getMap g3, g4, hco, hfr, keyOk_run hty hok hk _ 9998 w⟩
      cases o with
      | none =>
        refine ⟨_, { s with rd := n :: s.rd }, ⟨rfl, rfl⟩, h5, fun {M w cx ck} I hx hk => ?_⟩
        obtain ⟨zz, ces, co, rfl, g1, g2, g3, g4, g5⟩ := hmain I hx hk
        simp only [FindRel] at g4; subst g4
        refine ⟨_, hpair false (hzr M), ?_⟩
        simp [Instr.lookup, run_underlying hu, g1, g3, g5, hzero]
      | some p =>
        obtain ⟨i, v⟩ := p
        refine ⟨_, { s with rd := n :: s.rd }, ⟨rfl, rfl⟩, h5, fun {M w cx ck} I hx hk => ?_⟩
        obtain ⟨zz, ces, co, rfl, g1, g2, g3, g4, g5⟩ := hmain I hx hk
        obtain ⟨e1, e2, rfl, _, _, _, _, hrv⟩ := g4
        refine ⟨_, hpair true hrv, ?_⟩
        simp [Instr.lookup, run_underlying hu, g1, g3, g5]
    · exact (fail_run h4).elim
  · exact (fail_run h3).elim

/-! ### changes of maps -/

theorem EsRel.push {M : Mp} : ∀ {es : List (AV × AV × Nat)} {ces : List MapEntry} {e : AV × AV × Nat} {c : MapEntry}, EsRel M es ces → Rel M e.1 c.key → Rel M e.2.1 c.val → c.born = e.2.2 → EsRel M (es ++ [e]) (ces ++ [c])
  | [], _, e, c, h, h1, h2, h3 => by simp only [EsRel] at h; subst h; simp only [List.nil_append, EsRel]; exact ⟨c, [], rfl, h1, h2, h3, rfl⟩
  | x :: es, _, e, c, h, h1, h2, h3 => by
    simp only [EsRel] at h
    obtain ⟨y, q, rfl, g1, g2, g3, g4⟩ := h
    simp only [List.cons_append, EsRel]
    exact ⟨y, q ++ [c], rfl, g1, g2, g3, EsRel.push g4 h1 h2 h3⟩

theorem EsRel.mod {M : Mp} {f : AV × AV × Nat → AV × AV × Nat} {g : MapEntry → MapEntry} : ∀ {es : List (AV × AV × Nat)} {ces : List MapEntry} {i : Nat}, EsRel M es ces →
    (∀ e c, es[i]? = some e → ces[i]? = some c → Rel M e.1 c.key → Rel M e.2.1 c.val → c.born = e.2.2 → Rel M (f e).1 (g c).key ∧ Rel M (f e).2.1 (g c).val ∧ (g c).born = (f e).2.2) → EsRel M (modN f es i) (ces.modify i g)
  | [], _, i, h, _ => by simp only [EsRel] at h; subst h; simp [modN, EsRel]
  | x :: es, _, 0, h, hf => by
    simp only [EsRel] at h
    obtain ⟨y, q, rfl, g1, g2, g3, g4⟩ := h
    obtain ⟨a, b, c⟩ := hf x y (by simp) (by simp) g1 g2 g3
    simp only [modN, List.modify_zero_cons, EsRel]
    exact ⟨g y, q, rfl, a, b, c, g4⟩
  | x :: es, _, i + 1, h, hf => by
    simp only [EsRel] at h
    obtain ⟨y, q, rfl, g1, g2, g3, g4⟩ := h
    simp only [modN, List.modify_succ_cons, EsRel]
    exact ⟨y, q.modify i g, rfl, g1, g2, g3, EsRel.mod g4 fun e c he hc => hf e c (by simpa using he) (by simpa using hc)⟩

theorem EsRel.erase {M : Mp} : ∀ {es : List (AV × AV × Nat)} {ces : List MapEntry} (i : Nat), EsRel M es ces → EsRel M (es.eraseIdx i) (ces.eraseIdx i)
  | [], _, i, h => by simp only [EsRel] at h; subst h; simp [EsRel]
  | x :: es, _, 0, h => by
    simp only [EsRel] at h
    obtain ⟨y, q, rfl, g1, g2, g3, g4⟩ := h
    simpa using g4
  | x :: es, _, i + 1, h => by
    simp only [EsRel] at h
    obtain ⟨y, q, rfl, g1, g2, g3, g4⟩ := h
    simp only [List.eraseIdx_cons_succ, EsRel]
    exact ⟨y, q.eraseIdx i, rfl, g1, g2, g3, EsRel.erase i g4⟩

/-- a map's block, turned -/
theorem Inv.setMap {M : Mp} {h : T Blk} {w : World} (I : Inv B0 w0 M h w) {n : Nat} {z : Zn} {es es' : List (AV × AV × Nat)} {clock clock' : Nat} {ces ces' : Array MapEntry} (hz : M.m n = some z) (hb : h.get n = some (.amap es clock))
    (g1 : z.O = 0) (g2 : z.K = 1) (g3 : w.heap[z.B]? = some (.map ces clock)) (he : EsRel M es' ces'.toList) :
    Inv B0 w0 M (h.set n (some (.amap es' clock'))) { w with heap := w.heap.setIfInBounds z.B (.map ces' clock') } :=
  I.setObj n z _ _ (.map ces' clock') hz hb g1 g2 ⟨_, g3, by simp⟩ (by simp) ⟨g1, g2, ces', by simp [(I.base n z hz).2], he⟩

theorem deleteK_run (hty : ∀ t i, E.ty t = some i → TyOk P t i) {t : TypeId} {m k : AV} {K : AV → EM β} (hh : (deleteK E t m k K).run call s = some r) :
    ∃ v s1, s1.nxt = s.nxt ∧ (K v).run call s1 = some r ∧ ∀ {M : Mp} {w : World} {cm ck : Value} (ats : Array TypeId) (ty : TypeId), ats[0]? = some t → Inv B0 w0 M s.h w → Rel M m cm → Rel M k ck →
      ∃ cv w', Rel M v cv ∧ (Builtin.delete_ ats ty #[cm, ck]).run P w = .ok cv w' ∧ Inv B0 w0 M s1.h w' := by
  have hun : ∀ M, Rel M (AV.tup []) (.tuple #[]) := fun M => by simp only [Rel]; exact ⟨[], rfl, by simp only [RelL]⟩
  unfold deleteK at hh
  split at hh
  · rename_i kt e hd
    have hu := E_d hty hd
    obtain ⟨hok, h2⟩ := guardE_run hh
    refine ⟨_, s, rfl, h2, fun {M w cm ck} ats ty ha I hm hk => ⟨.tuple #[], w, hun M, ?_, I⟩⟩
    simp only [Rel] at hm; subst hm
    simp [Builtin.delete_, ha, run_underlying hu, keyOk_run hty hok hk true 9998 w]
  · rename_i kt e n hd
    have hu := E_d hty hd
    obtain ⟨b, hb, h2⟩ := look_run hh
    split at h2
    · rename_i es clock
      obtain ⟨hok, h3⟩ := guardE_run h2
      obtain ⟨o, ho, h4⟩ := withO_run h3
      obtain ⟨_, h5⟩ := put_run h4
      refine ⟨_, { s with h := s.h.set n (some (.amap (eraseE o es) clock)), rd := n :: s.rd, wr := n :: s.wr }, rfl, h5, fun {M w cm ck} ats ty ha I hm hk => ?_⟩
      obtain ⟨z, ces, rfl, hz, g1, g2, g3, g4⟩ := map_at I hb hm
      obtain ⟨co, hco, hfr⟩ := findKey_run (P := P) hty hok hk w g4 ho
      have hck := keyOk_run hty hok hk ces.isEmpty 9998 w
      cases o with
      | none =>
        simp only [FindRel] at hfr; subst hfr
        refine ⟨.tuple #[], _, hun M, ?_, I.setMap (ces' := ces) (clock' := clock) hz hb g1 g2 g3 g4⟩
        simp [Builtin.delete_, ha, run_underlying hu, getMap g3, hck, hco, setMap _ g3]
      | some p =>
        obtain ⟨i, v⟩ := p
        obtain ⟨e1, e2, rfl, _, he1, _, _, hrv⟩ := hfr
        have hilt : i < ces.size := by
          rcases Nat.lt_or_ge i ces.size with h' | h'
          · exact h'
          · rw [Nat.sub_zero, List.getElem?_eq_none (by simpa using h')] at he1; cases he1
        refine ⟨.tuple #[], _, hun M, ?_, I.setMap (ces' := ces.eraseIdxIfInBounds i) (clock' := clock) hz hb g1 g2 g3 (by rw [Array.eraseIdxIfInBounds, dif_pos hilt, Array.toList_eraseIdx]; exact g4.erase i)⟩
        simp [Builtin.delete_, ha, run_underlying hu, getMap g3, hck, hco, setMap _ g3]
    · exact (fail_run h2).elim
  · exact (fail_run hh).elim
end
end Go.Ab
