/- The abstract evaluator: one operation, held against the model's. -/
import Derived.Test.YtgegheifegnflaaGreatDoorEvF
import Derived.IntWalk
namespace Go.Ab
open Go.RowKit

/-- a call, as the evaluator tells it, is so -/
def CallOk (P : Program) (B0 : Nat) (w0 : World) (call : CallF) : Prop :=
  ∀ (f : FuncId) (args : List AV) (s : St) (v : AV) (s' : St), call f args s = some (v, s') → s.nxt ≤ s'.nxt ∧
    ∀ (M : Mp) (w : World) (cargs : List Value), Inv B0 w0 M s.h w → RelL M args cargs → (∀ k, s.nxt ≤ k → k < s'.nxt → M.m k = none) →
      (∃ fn, P.funcs[f]? = some fn ∧ fn.body.isSome = true ∧ fn.name ≠ "runtime.NumGoroutine") ∧
      Calls P f ⟨cargs⟩ w fun e w' => ∃ cv M', e = .returned cv ∧ M.le M' ∧ (∀ n, M'.m n ≠ none → M.m n ≠ none ∨ (s.nxt ≤ n ∧ n < s'.nxt)) ∧ Inv B0 w0 M' s'.h w' ∧ Rel M' v cv

/-- a function without a text, as the evaluator tells it, is so -/
def ExtOk (P : Program) (E : Env) : Prop :=
  ∀ f k, E.ext f = some k → match k with
    | .indexByte => ∀ (a : ByteArray) (c : Int) (w : World), (callFunc f #[.string a, .int .u8 c]).run P w = .ok (.value (goInt (idxB (UInt8.ofNat c.toNat) a.data.toList 0))) w
    | .cmpString => ∀ (a b : ByteArray) (w : World), (callFunc f #[.string a, .string b]).run P w = .ok (.value (goInt (cmpB a.data.toList b.data.toList))) w
    | .mapsClone => ∀ (t : TypeId) (q : Nat) (es : Array MapEntry) (clock : Nat) (w : World), w.heap[q]? = some (.map es clock) →
        (callFunc f #[.iface t (.map (some q))]).run P w = .ok (.value (.iface t (.map (some w.heap.size)))) (w.alloc (.map es clock))
    | .overlaps => True

structure EnvOk (P : Program) (E : Env) : Prop where
  ty : ∀ t i, E.ty t = some i → TyOk P t i
  ext : ExtOk P E

/-- what an operation comes to, the state behind it, and what goes on from there -/
def OpOk (P : Program) (B0 : Nat) (w0 : World) (M : Mp) (s s' : St) (v : AV) (o : Oper) (a : Act) (w : World) : Prop :=
  ∀ (next : Act → World → Prop) (Q : Exit → Act → World → Prop),
    (∀ M' w' cv, M.le M' → (∀ n, M'.m n ≠ none → M.m n ≠ none ∨ (s.nxt ≤ n ∧ n < s'.nxt)) → Inv B0 w0 M' s'.h w' → Rel M' v cv → next (a.put o.dst cv) w') → o.wp P a w next Q

section
variable {P : Program} {B0 : Nat} {w0 : World} {M : Mp} {s s' : St} {v : AV} {o : Oper} {a : Act} {w : World}

theorem OpOk.of_value {res : Result Value} (h : OutV B0 w0 M s s' v res) (he : ∀ cv w', res = .ok cv w' → (execOp a.eval o).run P w = .ok (.value cv) w') : OpOk P B0 w0 M s s' v o a w := by
  obtain ⟨M', w', cv, h1, h2, h3, h4, h5⟩ := h
  intro next Q k
  unfold Oper.wp
  rw [he cv w' h1]
  exact k M' w' cv h2 h3 h4 h5

theorem OpOk.of_skip {w' : World} (he : (execOp a.eval o).run P w = .ok .skip w') (I : Inv B0 w0 M s'.h w') (hv : v = undefA) : OpOk P B0 w0 M s s' v o a w := by
  intro next Q k
  unfold Oper.wp
  rw [he]
  refine k M w' undef M.le_refl (fun _ h => .inl h) I ?_
  subst hv
  simp only [undefA, Rel, RelL]
  exact ⟨[], rfl, rfl⟩
end

theorem relL_cons {M : Mp} {a : AV} {l : List AV} {c : Value} {q : List Value} : RelL M (a :: l) (c :: q) ↔ Rel M a c ∧ RelL M l q := by
  simp only [RelL]
  constructor
  · rintro ⟨x, y, e, h1, h2⟩; cases e; exact ⟨h1, h2⟩
  · rintro ⟨h1, h2⟩; exact ⟨_, _, rfl, h1, h2⟩
theorem relL_nil {M : Mp} : RelL M [] [] ↔ True := by simp [RelL]
theorem relL_cons_nil {M : Mp} {a : AV} {l : List AV} : RelL M (a :: l) [] ↔ False := by simp [RelL]

theorem plain_ne {x : AV} (h : x.plain = true) (l : Array Value) : x ≠ .sc (.agg l) := by
  intro e; subst e; simp [AV.plain] at h

theorem partsRel_zip {M : Mp} {ρ : Operand → Value} : ∀ {ps : List (Nat × Operand)} {xs : List AV}, RelL M xs ((ps.map (·.2)).map ρ) → xs.all AV.plain = true → PartsRel M (zipParts ps xs) (ps.map fun p => (p.1, ρ p.2))
  | [], xs, h, _ => by
    cases xs with
    | nil => simp [zipParts, PartsRel]
    | cons x xs => simp only [List.map_nil, relL_cons_nil] at h
  | (i, p) :: ps, [], h, _ => by simp [RelL] at h
  | (i, p) :: ps, x :: xs, h, hp => by
    simp only [List.map_cons, relL_cons] at h
    simp only [List.all_cons, Bool.and_eq_true] at hp
    simp only [zipParts, PartsRel, List.map_cons]
    exact ⟨ρ p, _, rfl, h.1, fun l => plain_ne hp.1 l, partsRel_zip h.2 hp.2⟩

theorem fillA_length {place : Nat → Option (Nat × Nat)} : ∀ {ps : List (Nat × AV)} {cells out : List AV}, fillA place cells ps = some out → out.length = cells.length
  | [], cells, out, h => by simp [fillA] at h; rw [h]
  | p :: l, cells, out, h => by
    obtain ⟨i, a⟩ := p
    simp only [fillA] at h
    split at h
    · rename_i off size hpl
      cases hb : (a.cells.length.beq size && (off + size).ble cells.length) with
      | false => rw [hb] at h; simp at h
      | true =>
        rw [hb] at h; simp only [cond_true] at h
        simp only [Bool.and_eq_true] at hb
        have e1 := Nat.eq_of_beq_eq_true hb.1
        have e2 := Nat.le_of_ble_eq_true hb.2
        rw [fillA_length h]
        simp only [spliceL, List.length_append, List.length_take, List.length_drop]; omega
    · cases h

theorem takeOpt_rel {M : Mp} {ρ : Operand → Value} {o : Option Operand} {l : List AV} {q : List Operand} (h : RelL M l ((o.toList ++ q).map ρ)) :
    RelO M (takeOpt o l).1 (o.map ρ) ∧ RelL M (takeOpt o l).2 (q.map ρ) := by
  cases o with
  | none =>
    simp only [Option.toList_none, List.nil_append] at h
    cases l <;> simp only [takeOpt, RelO, Option.map_none] <;> exact ⟨trivial, h⟩
  | some x =>
    simp only [Option.toList_some, List.singleton_append, List.map_cons] at h
    cases l with
    | nil => simp [RelL] at h
    | cons y l =>
      simp only [relL_cons] at h
      simp only [takeOpt, RelO, Option.map_some]
      exact ⟨⟨_, rfl, h.1⟩, h.2⟩

theorem places_run {P : Program} {E : Env} (hty : ∀ t i, E.ty t = some i → TyOk P t i) (w : World) : ∀ (fs : List Field), (fs.all fun f : Field => (E.ty f.type).isSome) = true →
    ∃ pl : List (Nat × Nat), (List.mapM (fun f : Field => Prod.mk f.offset <$> sizeOf f.type) fs).run P w = .ok pl w ∧ ∀ j : Nat, pl[j]? = placeOf E fs j := by
  intro fs
  induction fs with
  | nil => intro _; exact ⟨[], by simp, fun j => by simp [placeOf]⟩
  | cons f fs ih =>
    intro h
    simp only [List.all_cons, Bool.and_eq_true] at h
    obtain ⟨i, hi⟩ := Option.isSome_iff_exists.1 h.1
    obtain ⟨pl, h1, h2⟩ := ih h.2
    refine ⟨(f.offset, i.size) :: pl, ?_, ?_⟩
    · simp only [List.mapM_cons, Sem.run_bind, Sem.run_map, size_run (hty _ _ hi), Result.andThen_ok, Sem.run_pure, h1]
    · intro j
      cases j with
      | zero => simp [hi, placeOf]
      | succ j => simpa [placeOf] using h2 j

section
variable {call : CallF} {P : Program} {B0 : Nat} {w0 : World} {E : Env}

theorem fieldOf_some {t : TypeId} {j : Nat} {f : Field} (h : fieldOf E t j = some f) : ∃ fs, E.d t = some (.struct ⟨fs⟩) ∧ fs[j]? = some f := by
  unfold fieldOf at h
  split at h
  · rename_i fs hfs; exact ⟨fs, hfs, h⟩
  · cases h

theorem ret_run {v v' : AV} {s s' : St} (h : (EM.ret v).run call s = some (v', s')) : v' = v ∧ s' = s := by
  simp only [EM.run, Option.some.injEq, Prod.mk.injEq] at h
  exact ⟨h.1.symm, h.2.symm⟩

/-- a builtin, held against the model's -/
theorem builtinK_run (hty : ∀ t i, E.ty t = some i → TyOk P t i) {b : Builtin} {ats : List TypeId} {xs : List AV} {s s' : St} {v : AV} (h : (builtinK E b ats xs .ret).run call s = some (v, s')) :
    s.nxt ≤ s'.nxt ∧ ∀ {M : Mp} {w : World} {cargs : List Value} (at' : Array TypeId) (ty : TypeId) (consts : Array Bool), at'.toList = ats → Inv B0 w0 M s.h w → RelL M xs cargs → (∀ k, s.nxt ≤ k → k < s'.nxt → M.m k = none) →
      ∃ M' w' cv, (builtin b at' ty consts ⟨cargs⟩).run P w = .ok (.value cv) w' ∧ M.le M' ∧ (∀ n, M'.m n ≠ none → M.m n ≠ none ∨ (s.nxt ≤ n ∧ n < s'.nxt)) ∧ Inv B0 w0 M' s'.h w' ∧ Rel M' v cv := by
  have hat0 : ∀ {at' : Array TypeId} {t : TypeId} {l : List TypeId}, at'.toList = t :: l → at'[0]? = some t := by
    intro at' t l e
    rw [← Array.getElem?_toList, e]; rfl
  unfold builtinK at h
  split at h
  · -- append
    rename_i t xt x y
    split at h
    · exact (fail_run h).elim
    · exact (fail_run h).elim
    · rename_i d hni hd
      have hud := E_d hty hd
      obtain ⟨v1, s1, hmon, h1, hrest⟩ := appendK_run (B0 := B0) (w0 := w0) hty (xt := xt) 0 hud (fun k e => hni k e) h
      obtain ⟨rfl, rfl⟩ := ret_run h1
      refine ⟨hmon, fun {M w cargs} at' ty consts hat I hr hfresh => ?_⟩
      obtain ⟨v2, s2, hmon2, h2, hrest2⟩ := appendK_run (B0 := B0) (w0 := w0) hty (xt := xt) ty hud (fun k e => hni k e) h
      obtain ⟨rfl, rfl⟩ := ret_run h2
      simp only [RelL] at hr
      obtain ⟨c1, q, rfl, hr1, c2, q', rfl, hr2, rfl⟩ := hr
      have hat' : at' = #[t, xt] := by apply Array.ext'; simpa using hat
      subst hat'
      obtain ⟨M', w', cv, g1, g2, g3, g4, g5⟩ := hrest2 I hr1 hr2 hfresh
      exact ⟨M', w', cv, by simp only [builtin, Sem.run_bind]; rw [g1]; rfl, g2, g3, g4, g5⟩
  · -- len
    rename_i t l x
    obtain ⟨v1, s1, ⟨e1, e2⟩, h1, hrest⟩ := lenK_run (P := P) (B0 := B0) (w0 := w0) hty h
    obtain ⟨rfl, rfl⟩ := ret_run h1
    refine ⟨by omega, fun {M w cargs} at' ty consts hat I hr hfresh => ?_⟩
    simp only [RelL] at hr
    obtain ⟨c1, q, rfl, hr1, rfl⟩ := hr
    obtain ⟨cv, hcv, hrun⟩ := hrest at' ty (hat0 hat) I hr1
    exact ⟨M, w, cv, by simp only [builtin, Sem.run_bind]; rw [hrun]; rfl, M.le_refl, fun _ h => .inl h, by rw [e1]; exact I, hcv⟩
  · -- cap
    rename_i t l x
    obtain ⟨v1, h1, hrest⟩ := capK_run (P := P) hty h
    obtain ⟨rfl, rfl⟩ := ret_run h1
    refine ⟨Nat.le_refl _, fun {M w cargs} at' ty consts hat I hr hfresh => ?_⟩
    simp only [RelL] at hr
    obtain ⟨c1, q, rfl, hr1, rfl⟩ := hr
    obtain ⟨cv, hcv, hrun⟩ := hrest (w := w) at' ty (hat0 hat) hr1
    exact ⟨M, w, cv, by simp only [builtin, Sem.run_bind]; rw [hrun]; rfl, M.le_refl, fun _ h => .inl h, I, hcv⟩
  · -- copy
    rename_i t l x y
    obtain ⟨v1, s1, e1, h1, hrest⟩ := copyK_run (P := P) (B0 := B0) (w0 := w0) hty h
    obtain ⟨rfl, rfl⟩ := ret_run h1
    refine ⟨by omega, fun {M w cargs} at' ty consts hat I hr hfresh => ?_⟩
    simp only [RelL] at hr
    obtain ⟨c1, q, rfl, hr1, c2, q', rfl, hr2, rfl⟩ := hr
    obtain ⟨cv, w', hcv, hrun, I2⟩ := hrest at' ty (hat0 hat) I hr1 hr2
    exact ⟨M, w', cv, by simp only [builtin, Sem.run_bind]; rw [hrun]; rfl, M.le_refl, fun _ h => .inl h, I2, hcv⟩
  · -- max
    rename_i k x l
    obtain ⟨q, hq, h1⟩ := withO_run h
    obtain ⟨rfl, rfl⟩ := ret_run h1
    refine ⟨Nat.le_refl _, fun {M w cargs} at' ty consts hat I hr hfresh => ?_⟩
    simp only [RelL] at hr
    obtain ⟨c1, q', rfl, hr1, hr2⟩ := hr
    simp only [Rel] at hr1; subst hr1
    have := minmaxA_run (P := P) (isMax := true) w hq hr2
    simp only [if_true] at this
    exact ⟨M, w, .int k q, by simp only [builtin, Builtin.max_, Sem.run_bind]; rw [this]; rfl, M.le_refl, fun _ h => .inl h, I, by simp only [Rel]⟩
  · -- min
    rename_i k x l
    obtain ⟨q, hq, h1⟩ := withO_run h
    obtain ⟨rfl, rfl⟩ := ret_run h1
    refine ⟨Nat.le_refl _, fun {M w cargs} at' ty consts hat I hr hfresh => ?_⟩
    simp only [RelL] at hr
    obtain ⟨c1, q', rfl, hr1, hr2⟩ := hr
    simp only [Rel] at hr1; subst hr1
    have := minmaxA_run (P := P) (isMax := false) w hq hr2
    simp only [Bool.false_eq_true, if_false] at this
    exact ⟨M, w, .int k q, by simp only [builtin, Builtin.min_, Sem.run_bind]; rw [this]; rfl, M.le_refl, fun _ h => .inl h, I, by simp only [Rel]⟩
  · -- delete
    rename_i t l x y
    obtain ⟨v1, s1, e1, h1, hrest⟩ := deleteK_run (P := P) (B0 := B0) (w0 := w0) hty h
    obtain ⟨rfl, rfl⟩ := ret_run h1
    refine ⟨by omega, fun {M w cargs} at' ty consts hat I hr hfresh => ?_⟩
    simp only [RelL] at hr
    obtain ⟨c1, q, rfl, hr1, c2, q', rfl, hr2, rfl⟩ := hr
    obtain ⟨cv, w', hcv, hrun, I2⟩ := hrest at' ty (hat0 hat) I hr1 hr2
    exact ⟨M, w', cv, by simp only [builtin, Sem.run_bind]; rw [hrun]; rfl, M.le_refl, fun _ h => .inl h, I2, hcv⟩
  · -- clear
    rename_i t l x
    obtain ⟨v1, s1, e1, h1, hrest⟩ := clearK_run (P := P) (B0 := B0) (w0 := w0) hty h
    obtain ⟨rfl, rfl⟩ := ret_run h1
    refine ⟨by omega, fun {M w cargs} at' ty consts hat I hr hfresh => ?_⟩
    simp only [RelL] at hr
    obtain ⟨c1, q, rfl, hr1, rfl⟩ := hr
    obtain ⟨cv, w', hcv, hrun, I2⟩ := hrest at' ty (hat0 hat) I hr1
    exact ⟨M, w', cv, by simp only [builtin, Sem.run_bind]; rw [hrun]; rfl, M.le_refl, fun _ h => .inl h, I2, hcv⟩
  · exact (fail_run h).elim

/-- a function without a text, held against the model's -/
theorem extK_run (hE : EnvOk P E) {g : FuncId} {k : ExtK} (hk : E.ext g = some k) {xs : List AV} {s s' : St} {v : AV} (h : (extK k xs).run call s = some (v, s')) :
    s.nxt ≤ s'.nxt ∧ ∀ {M : Mp} {w : World} {cargs : List Value}, Inv B0 w0 M s.h w → RelL M xs cargs → (∀ k, s.nxt ≤ k → k < s'.nxt → M.m k = none) →
      ∃ M' w' cv, (callFunc g ⟨cargs⟩).run P w = .ok (.value cv) w' ∧ M.le M' ∧ (∀ n, M'.m n ≠ none → M.m n ≠ none ∨ (s.nxt ≤ n ∧ n < s'.nxt)) ∧ Inv B0 w0 M' s'.h w' ∧ Rel M' v cv := by
  have hx := hE.ext g k hk
  unfold extK at h
  split at h
  · rename_i b c
    obtain ⟨rfl, rfl⟩ := ret_run h
    refine ⟨Nat.le_refl _, fun {M w cargs} I hr _ => ?_⟩
    simp only [RelL] at hr
    obtain ⟨c1, q, rfl, hr1, c2, q', rfl, hr2, rfl⟩ := hr
    simp only [Rel] at hr1 hr2; subst hr1; subst hr2
    exact ⟨M, w, _, hx b c w, M.le_refl, fun _ h => .inl h, I, by simp only [Rel]⟩
  · rename_i b c
    obtain ⟨rfl, rfl⟩ := ret_run h
    refine ⟨Nat.le_refl _, fun {M w cargs} I hr _ => ?_⟩
    simp only [RelL] at hr
    obtain ⟨c1, q, rfl, hr1, c2, q', rfl, hr2, rfl⟩ := hr
    simp only [Rel] at hr1 hr2; subst hr1; subst hr2
    exact ⟨M, w, _, hx b c w, M.le_refl, fun _ h => .inl h, I, by simp only [Rel]⟩
  · rename_i t n
    obtain ⟨b, hb, h2⟩ := look_run h
    split at h2
    · rename_i es clock
      simp only [EM.run, Option.some.injEq, Prod.mk.injEq] at h2
      obtain ⟨rfl, rfl⟩ := h2
      refine ⟨by simp, fun {M w cargs} I hr hfresh => ?_⟩
      simp only [RelL] at hr
      obtain ⟨c1, q, rfl, hr1, rfl⟩ := hr
      simp only [Rel] at hr1
      obtain ⟨cv, rfl, z0, hz0, rfl⟩ := hr1
      obtain ⟨z, ces, e, hz, g1, g2, g3, g4⟩ := map_at I hb (c := .map (some z0.B)) (by simp only [Rel]; exact ⟨z0, hz0, rfl⟩)
      rw [hz0] at hz; cases hz
      have hfr := hfresh s.nxt (Nat.le_refl _) (by simp)
      have I2 := I.alloc s.nxt ⟨w.heap.size, 0, 1, 0⟩ (.amap es clock) (.map ces clock) hfr rfl ⟨rfl, rfl, ces, by
        show (w.heap.push (.map ces clock))[w.heap.size]? = _
        simp, EsRel.mono (M.le_lay _ _ (.inl hfr)) _ _ g4⟩
      refine ⟨_, _, _, hx t z0.B ces clock w g3, M.le_lay s.nxt _ (.inl hfr), ?_, I2, ?_⟩
      · intro q hq
        by_cases e : q = s.nxt
        · right; simp only; omega
        · left; rw [Mp.lay_ne M _ e] at hq; exact hq
      · simp only [Rel]; exact ⟨_, rfl, _, Mp.lay_self _ _ _, rfl⟩
    · exact (fail_run h2).elim
  · exact (fail_run h).elim

theorem op_run (hE : EnvOk P E) (hcall : CallOk P B0 w0 call) {o : Oper} {xs : List AV} {s s' : St} {v : AV} (h : (opE E o.op xs).run call s = some (v, s')) :
    s.nxt ≤ s'.nxt ∧ ∀ {M : Mp} {w : World} {a : Act}, Inv B0 w0 M s.h w → RelL M xs (o.op.operands.toList.map a.eval) → (∀ k, s.nxt ≤ k → k < s'.nxt → M.m k = none) → OpOk P B0 w0 M s s' v o a w := by
  have hty := hE.ty
  generalize hop : o.op = op at h
  -- a value that the world's turning does not touch
  have pure_ok : ∀ {M : Mp} {w : World} {a : Act} {v : AV} {cv : Value} {s s' : St}, Inv B0 w0 M s.h w → s'.h = s.h → Rel M v cv → (execOp a.eval o).run P w = .ok (.value cv) w → OpOk P B0 w0 M s s' v o a w := by
    intro M w a v cv s s' I hs hr he
    exact OpOk.of_value (OutV.of_same (cv := cv) (w := w) I hs rfl hr) (by intro cv' w' e; cases e; exact he)
  unfold opE at h
  split at h
  · -- move
    rename_i x0 x
    obtain ⟨rfl, rfl⟩ := ret_run h
    refine ⟨Nat.le_refl _, fun {M w a} I hr _ => ?_⟩
    simp only [Op.operands, List.map_cons, List.map_nil, relL_cons, relL_nil, and_true] at hr
    exact pure_ok I rfl hr (by simp [execOp, hop])
  · -- assign
    rename_i x0 x
    obtain ⟨rfl, rfl⟩ := ret_run h
    refine ⟨Nat.le_refl _, fun {M w a} I hr _ => ?_⟩
    simp only [Op.operands, List.map_cons, List.map_nil, relL_cons, relL_nil, and_true] at hr
    exact pure_ok I rfl hr (by simp [execOp, hop])
  · -- pick
    rename_i c0 a0 b0 c x y
    obtain ⟨rfl, rfl⟩ := ret_run h
    refine ⟨Nat.le_refl _, fun {M w a} I hr _ => ?_⟩
    simp only [Op.operands, List.map_cons, List.map_nil, relL_cons, relL_nil, and_true] at hr
    obtain ⟨h1, h2, h3⟩ := hr
    simp only [Rel] at h1
    refine pure_ok (cv := if c then a.eval a0 else a.eval b0) I rfl (by cases c <;> simpa) ?_
    simp [execOp, hop, h1, asBool]
  · -- alloc
    rename_i e
    obtain ⟨i, hi, h1⟩ := withO_run h
    obtain ⟨z, hz, h2⟩ := withO_run h1
    simp only [EM.run, Option.some.injEq, Prod.mk.injEq] at h2
    obtain ⟨rfl, rfl⟩ := h2
    refine ⟨by simp, fun {M w a} I hr hfresh => ?_⟩
    obtain ⟨ti, hti, hu, hs, _, _, hz0, _⟩ := hty e i hi
    obtain ⟨zv, hzv, hzo, hzl⟩ := hz0 z hz
    have hfr := hfresh s.nxt (Nat.le_refl _) (by simp)
    obtain ⟨zc, hzc, hzr⟩ := Rel.cells (ofVal_rel M 400 zv z hzo) (by intro l e; subst e; unfold ofVal at hzo; split at hzo <;> first | (cases hzo; done) | (split at hzo <;> cases hzo))
    have hl := hzr.length
    have I2 := I.newRow s.nxt z.cells i.size true zc e hfr (by omega) (fun _ => hl) (by rw [← hl, List.take_length]; exact hzr)
    refine OpOk.of_value (res := .ok (.pointer (some ⟨w.heap.size, 0, none⟩)) (w.alloc (.cells ⟨zc⟩ e))) ⟨_, _, _, rfl, M.le_lay s.nxt _ (.inl hfr), ?_, I2, ?_⟩ ?_
    · intro q hq
      by_cases e : q = s.nxt
      · right; simp only; omega
      · left; rw [Mp.lay_ne M _ e] at hq; exact hq
    · simp only [Rel]; exact ⟨_, Mp.lay_self _ _ _, rfl⟩
    · intro cv w' e; cases e
      simp [execOp, hop, Instr.alloc, zeroValue, typeInfo, hti, hzv, newVar, newRow, hzc]
  · -- box
    rename_i e x0 x
    obtain ⟨hpl, h1⟩ := guardE_run h
    simp only [EM.run, Option.some.injEq, Prod.mk.injEq] at h1
    obtain ⟨rfl, rfl⟩ := h1
    refine ⟨by simp, fun {M w a} I hr hfresh => ?_⟩
    simp only [Op.operands, List.map_cons, List.map_nil, relL_cons, relL_nil, and_true] at hr
    have hfr := hfresh s.nxt (Nat.le_refl _) (by simp)
    obtain ⟨zc, hzc, hzr⟩ := Rel.cells hr (fun l => plain_ne hpl l)
    have hl := hzr.length
    have I2 := I.newRow s.nxt x.cells x.cells.length true zc e hfr (by omega) (fun _ => hl) (by rw [← hl, List.take_length]; exact hzr)
    refine OpOk.of_value (res := .ok (.pointer (some ⟨w.heap.size, 0, none⟩)) (w.alloc (.cells ⟨zc⟩ e))) ⟨_, _, _, rfl, M.le_lay s.nxt _ (.inl hfr), ?_, I2, ?_⟩ ?_
    · intro q hq
      by_cases e : q = s.nxt
      · right; simp only; omega
      · left; rw [Mp.lay_ne M _ e] at hq; exact hq
    · simp only [Rel]; exact ⟨_, Mp.lay_self _ _ _, rfl⟩
    · intro cv w' e; cases e
      simp [execOp, hop, Instr.box, newVar, newRow, hzc]
  · -- build
    rename_i ty ps
    obtain ⟨hg, h1⟩ := guardE_run h
    simp only [Bool.and_eq_true] at hg
    have hlen := Nat.eq_of_beq_eq_true hg.2
    obtain ⟨i, hi, h2⟩ := withO_run h1
    obtain ⟨z, hz, h3⟩ := withO_run h2
    obtain ⟨ti, hti, hu, hs, _, _, hz0, _⟩ := hty ty i hi
    obtain ⟨zv, hzv, hzo, hzl⟩ := hz0 z hz
    have hzero : ∀ w, (zeroValue ty).run P w = .ok zv w := fun w => by simp [zeroValue, typeInfo, hti, hzv]
    have hparts : ∀ {M : Mp} {a : Act}, RelL M xs ((Op.build ty ps).operands.toList.map a.eval) → PartsRel M (zipParts ps.toList xs) (ps.toList.map fun p => (p.1, a.eval p.2)) := by
      intro M a hr
      refine partsRel_zip ?_ hg.1
      simpa [Op.operands] using hr
    have hzc : ∀ M : Mp, ∃ zc, zv.cells = ⟨zc⟩ ∧ RelL M z.cells zc := fun M => Rel.cells (ofVal_rel M 400 zv z hzo) (by intro l e; subst e; unfold ofVal at hzo; split at hzo <;> first | (cases hzo; done) | (split at hzo <;> cases hzo))
    split at h3
    · rename_i fs hfs
      obtain ⟨hall, h3'⟩ := guardE_run h3
      obtain ⟨c, hc, h4⟩ := withO_run h3'
      obtain ⟨rfl, rfl⟩ := ret_run h4
      refine ⟨Nat.le_refl _, fun {M w a} I hr _ => ?_⟩
      obtain ⟨zc, hzc, hzr⟩ := hzc M
      obtain ⟨ov, hov, hf⟩ := fillA_run hc hzr (hparts hr)
      refine pure_ok (cv := .agg ⟨ov⟩) I rfl (by simp only [Rel]; exact ⟨ov, rfl, hov⟩) ?_
      rw [hfs] at hu
      obtain ⟨pl, hpl1, hpl2⟩ := places_run (P := P) hty w fs hall
      have hfe : placeOf E fs = fun j : Nat => pl[j]? := by
        funext j; exact (hpl2 j).symm
      rw [hfe] at hf
      simp [execOp, hop, Instr.build, hzero, run_underlying hu, hzc, hpl1, hf]
    · rename_i m e hd
      obtain ⟨k, hk, h4⟩ := withO_run h3
      obtain ⟨c, hc, h5⟩ := withO_run h4
      obtain ⟨rfl, rfl⟩ := ret_run h5
      refine ⟨Nat.le_refl _, fun {M w a} I hr _ => ?_⟩
      obtain ⟨zc, hzc, hzr⟩ := hzc M
      obtain ⟨ov, hov, hf⟩ := fillA_run hc hzr (hparts hr)
      refine pure_ok (cv := .agg ⟨ov⟩) I rfl (by simp only [Rel]; exact ⟨ov, rfl, hov⟩) ?_
      rw [hd] at hu
      have : (ps.map fun p => (p.1, a.eval p.2)).toList = ps.toList.map fun p => (p.1, a.eval p.2) := by simp
      simp [execOp, hop, Instr.build, hzero, run_underlying hu, size_run (hty e k hk), hzc, hf]
    · exact (fail_run h3).elim
  · -- buildSlice
    rename_i ty len ps
    split at h
    · rename_i e hd
      have hud := E_d hty hd
      obtain ⟨k, hk, h2⟩ := withO_run h
      obtain ⟨z, hz, h3⟩ := withO_run h2
      obtain ⟨hg, h4⟩ := guardE_run h3
      simp only [Bool.and_eq_true] at hg
      have hle := Nat.le_of_ble_eq_true hg.1.1.1
      have hpos : 0 < k.size := Nat.lt_of_succ_le (Nat.le_of_ble_eq_true hg.1.1.2)
      obtain ⟨c, hc, h5⟩ := withO_run h4
      simp only [EM.run, Option.some.injEq, Prod.mk.injEq] at h5
      obtain ⟨rfl, rfl⟩ := h5
      obtain ⟨ti, hti, hu, hs, _, _, hz0, _⟩ := hty e k hk
      obtain ⟨zv, hzv, hzo, hzl⟩ := hz0 z hz
      have hzero : ∀ w, (zeroValue e).run P w = .ok zv w := fun w => by simp [zeroValue, typeInfo, hti, hzv]
      refine ⟨by simp, fun {M w a} I hr hfresh => ?_⟩
      have hfr := hfresh s.nxt (Nat.le_refl _) (by simp)
      have hparts : PartsRel M (zipParts ps.toList xs) (ps.toList.map fun p => (p.1, a.eval p.2)) := by
        refine partsRel_zip ?_ hg.1.2
        simpa [Op.operands] using hr
      obtain ⟨zc, hzc, hzr⟩ := Rel.cells (ofVal_rel M 400 zv z hzo) (by intro l e; subst e; unfold ofVal at hzo; split at hzo <;> first | (cases hzo; done) | (split at hzo <;> cases hzo))
      obtain ⟨ov, hov, hf⟩ := fillA_run hc (hzr.repl len) hparts
      have hzl' : zc.length = k.size := by rw [hzr.length]; exact hzl
      have hol : ov.length = len * k.size := by
        have h1 := hov.length
        have h2 := fillA_length hc
        rw [h1, h2]; simp [repl, hzl]
      have hcl : c.length = len * k.size := by rw [← hov.length]; exact hol
      have I2 := I.newRow s.nxt c k.size true ov e hfr (by omega) (fun _ => by omega) (by rw [hcl, ← hol, List.take_length]; exact hov)
      refine OpOk.of_value (res := .ok (.slice (some ⟨w.heap.size, 0, none⟩) len len) (w.alloc (.cells ⟨ov⟩ e))) ⟨_, _, _, rfl, M.le_lay s.nxt _ (.inl hfr), ?_, I2, ?_⟩ ?_
      · intro q hq
        by_cases e : q = s.nxt
        · right; simp only; omega
        · left; rw [Mp.lay_ne M _ e] at hq; exact hq
      · simp only [Rel, slcRel]
        exact ⟨_, Mp.lay_self _ _ _, _, _, rfl, Nat.le_refl _, .inr rfl, rfl⟩
      · intro cv w' e1; cases e1
        have h24 : ¬ (16777216 < len * k.size) := by omega
        have hfl := zeroCells_flat zc len
        have hrange : ((Array.range (len * k.size)).map (fun x => (⟨zc⟩ : Array Value)[x % zc.length]!)) = ⟨(List.replicate len zc).flatten⟩ := by
          have : Builtin.zeroCells ⟨zc⟩ len = ⟨(List.replicate len zc).flatten⟩ := by
            apply Array.ext'; exact hfl
          rw [← this]; unfold Builtin.zeroCells; simp [hzl']
        have hrange2 : Array.map (fun x => zc[x % zc.length]?.getD default) (Array.range (len * k.size)) = ⟨(List.replicate len zc).flatten⟩ := by
          rw [← hrange]; simp
        by_cases h0 : len * k.size = 0
        · have hl0 : len = 0 := by
            rcases Nat.mul_eq_zero.1 h0 with h | h
            · exact h
            · omega
          subst hl0
          simp only [List.replicate_zero, List.flatten_nil] at hf
          simp [execOp, hop, Instr.buildSlice, run_underlying hud, size_run (hty e k hk), newRow]
          have hf0 : Instr.fill (fun i => some (i * k.size, k.size)) (Array.map (fun _ => default) (Array.range 0)) (List.map (fun x => (x.1, a.eval x.2)) ps.toList) = some ⟨ov⟩ := by
            have e0 : Array.map (fun _ => (default : Value)) (Array.range 0) = ⟨[]⟩ := by simp
            rw [e0]; exact hf
          simp [hf0]
        · simp [execOp, hop, Instr.buildSlice, run_underlying hud, size_run (hty e k hk), h24, h0, hzero, hzc, newRow]
          simp [hrange2, hf]
    · exact (fail_run h).elim
  · -- load
    rename_i ty x0 x
    obtain ⟨i, hi, h1⟩ := withO_run h
    obtain ⟨ti, hti, hu, hs, _, hag, _⟩ := hty ty i hi
    have hisagg : ∀ w, (isAgg ty).run P w = .ok i.agg w := fun w => by
      rw [hag]
      unfold isAgg
      simp only [Sem.run_bind, run_underlying hu, Result.andThen_ok]
      cases i.d <;> rfl
    have hsize := size_run (hty ty i hi)
    split at h1
    · rename_i hagg
      obtain ⟨l, s1, ⟨e1, e2⟩, h2, hl, hrest⟩ := loadK_run (B0 := B0) (w0 := w0) h1
      obtain ⟨rfl, rfl⟩ := ret_run h2
      refine ⟨by omega, fun {M w a} I hr _ => ?_⟩
      simp only [Op.operands, List.map_cons, List.map_nil, relL_cons, relL_nil, and_true] at hr
      obtain ⟨b, o', vs, hc, hvs, hcell⟩ := hrest I hr
      refine pure_ok (cv := .agg ⟨vs⟩) I e1 (by simp only [Rel]; exact ⟨vs, rfl, hvs⟩) ?_
      have hld := run_loadCells_list (P := P) w ⟨b, o', none⟩ vs (fun j v hv => by rw [Addr.add_none]; exact hcell j v hv)
      rw [hvs.length, hl] at hld
      simp [execOp, hop, Instr.loadAt, hc, Instr.sureAddr, loadVar, hisagg, hagg, hsize, hld]
    · rename_i hagg
      obtain ⟨l, s1, ⟨e1, e2⟩, h2, hl, hrest⟩ := loadK_run (B0 := B0) (w0 := w0) h1
      split at h2
      · rename_i v1
        obtain ⟨rfl, rfl⟩ := ret_run h2
        refine ⟨by omega, fun {M w a} I hr _ => ?_⟩
        simp only [Op.operands, List.map_cons, List.map_nil, relL_cons, relL_nil, and_true] at hr
        obtain ⟨b, o', vs, hc, hvs, hcell⟩ := hrest I hr
        simp only [RelL] at hvs
        obtain ⟨cv, q, rfl, hcv, rfl⟩ := hvs
        refine pure_ok (cv := cv) I e1 hcv ?_
        have := hcell 0 cv (by simp)
        simp only [Nat.add_zero] at this
        simp [execOp, hop, Instr.loadAt, hc, Instr.sureAddr, loadVar, hisagg, hagg, this]
      · exact (fail_run h2).elim
  · -- store
    rename_i ty x0 y0 x y
    obtain ⟨i, hi, h1⟩ := withO_run h
    obtain ⟨hg, h2⟩ := guardE_run h1
    simp only [Bool.and_eq_true] at hg
    have hlen := Nat.eq_of_beq_eq_true hg.2
    obtain ⟨s1, hs1, h3, hrest⟩ := storeK_run (P := P) (B0 := B0) (w0 := w0) h2
    obtain ⟨rfl, rfl⟩ := ret_run h3
    refine ⟨by omega, fun {M w a} I hr _ => ?_⟩
    simp only [Op.operands, List.map_cons, List.map_nil, relL_cons, relL_nil, and_true] at hr
    obtain ⟨zc, hzc, hzr⟩ := Rel.cells hr.2 (fun l => plain_ne hg.1 l)
    obtain ⟨b, o', hc, hst, I2⟩ := hrest I hr.1 hzr
    refine OpOk.of_skip (w' := w.setCells b o' zc) ?_ I2 rfl
    have hl := hzr.length
    simp [execOp, hop, Instr.storeAt, hc, Instr.sureAddr, storeVar, hzc, size_run (hty ty i hi), hst, hl, hlen]
  · -- nilCheck
    rename_i x0 x
    have key : (EM.ret x).run call s = some (v, s') ∧ ((∃ n o, x = .ptr n o) ∨ (∃ c, x = .eptr c) ∨ (∃ f a b, x = .fn (.func f) a b) ∨ (∃ n, x = .mp n) ∨ ∃ n o l c, x = .slc n o l c) := by
      split at h
      · exact ⟨h, .inl ⟨_, _, rfl⟩⟩
      · exact ⟨h, .inr (.inl ⟨_, rfl⟩)⟩
      · exact ⟨h, .inr (.inr (.inl ⟨_, _, _, rfl⟩))⟩
      · exact ⟨h, .inr (.inr (.inr (.inl ⟨_, rfl⟩)))⟩
      · exact ⟨h, .inr (.inr (.inr (.inr ⟨_, _, _, _, rfl⟩)))⟩
      · exact (fail_run h).elim
    obtain ⟨h1, hsh⟩ := key
    obtain ⟨rfl, rfl⟩ := ret_run h1
    refine ⟨Nat.le_refl _, fun {M w a} I hr _ => ?_⟩
    simp only [Op.operands, List.map_cons, List.map_nil, relL_cons, relL_nil, and_true] at hr
    refine pure_ok I rfl hr ?_
    rcases hsh with ⟨n, q, rfl⟩ | ⟨c, rfl⟩ | ⟨f, q1, q2, rfl⟩ | ⟨n, rfl⟩ | ⟨n, q, l, c, rfl⟩
    · simp only [Rel] at hr; obtain ⟨z, _, he⟩ := hr; simp [execOp, hop, he]
    · simp only [Rel] at hr; obtain ⟨z, vs, he, _⟩ := hr; simp [execOp, hop, he]
    · simp only [Rel] at hr; obtain ⟨va, vb, he, _⟩ := hr; simp [execOp, hop, he]
    · simp only [Rel] at hr; obtain ⟨z, _, he⟩ := hr; simp [execOp, hop, he]
    · simp only [Rel] at hr; obtain ⟨z, _, q1, q2, he, _⟩ := hr; simp [execOp, hop, he]
  · -- binOp
    rename_i op ty x0 y0 ty2 x y
    obtain ⟨v1, hv, h1⟩ := withO_run h
    obtain ⟨rfl, rfl⟩ := ret_run h1
    refine ⟨Nat.le_refl _, fun {M w a} I hr _ => ?_⟩
    simp only [Op.operands, List.map_cons, List.map_nil, relL_cons, relL_nil, and_true] at hr
    obtain ⟨cv, hcv, hrun⟩ := binA_run (P := P) hty hv hr.1 hr.2 x0 y0 w
    refine pure_ok (cv := cv) I rfl hcv ?_
    simp only [execOp, hop]
    simp only [Sem.run_bind] at hrun ⊢
    rw [hrun]; rfl
  · -- unOp
    rename_i op ty x0 x
    obtain ⟨v1, hv, h1⟩ := withO_run h
    obtain ⟨rfl, rfl⟩ := ret_run h1
    refine ⟨Nat.le_refl _, fun {M w a} I hr _ => ?_⟩
    simp only [Op.operands, List.map_cons, List.map_nil, relL_cons, relL_nil, and_true] at hr
    obtain ⟨cv, hcv, hrun⟩ := unA_run (P := P) hv hr w
    exact pure_ok (cv := cv) I rfl hcv (by simp [execOp, hop, hrun])
  · -- convert
    rename_i src dst x0 x
    obtain ⟨v1, s1, hmon, h1, hrest⟩ := convertK_run (P := P) (B0 := B0) (w0 := w0) hty h
    obtain ⟨rfl, rfl⟩ := ret_run h1
    refine ⟨hmon, fun {M w a} I hr hfresh => ?_⟩
    simp only [Op.operands, List.map_cons, List.map_nil, relL_cons, relL_nil, and_true] at hr
    refine OpOk.of_value (hrest I hr hfresh) ?_
    intro cv w' e
    simp [execOp, hop, e]
  · -- makeInterface
    rename_i ty x0 x
    split at h
    · exact (fail_run h).elim
    · exact (fail_run h).elim
    · rename_i d hni hd
      obtain ⟨rfl, rfl⟩ := ret_run h
      have hud := E_d hty hd
      refine ⟨Nat.le_refl _, fun {M w a} I hr _ => ?_⟩
      simp only [Op.operands, List.map_cons, List.map_nil, relL_cons, relL_nil, and_true] at hr
      refine pure_ok (cv := .iface ty (a.eval x0)) I rfl (by simp only [Rel]; exact ⟨_, rfl, hr⟩) ?_
      simp only [execOp, hop, Instr.makeInterface, Sem.run_bind, run_underlying hud, Result.andThen_ok]
      cases d <;> first | rfl | exact (hni _ rfl).elim
  · -- makeFunc
    rename_i f first cap
    obtain ⟨rfl, rfl⟩ := ret_run h
    refine ⟨Nat.le_refl _, fun {M w a} I hr _ => ?_⟩
    have hr' : RelL M xs (first.toList.map a.eval ++ cap.toList.map a.eval) := by simpa [Op.operands] using hr
    have hlen : (first.toList.map a.eval).length = first.size := by simp
    have h1 := hr'.take first.size
    have h2 := hr'.drop first.size
    rw [List.take_left' hlen] at h1
    rw [List.drop_left' hlen] at h2
    refine pure_ok (cv := .func f ⟨first.toList.map a.eval⟩ ⟨cap.toList.map a.eval⟩) I rfl (by simp only [Rel]; exact ⟨_, _, rfl, h1, h2⟩) ?_
    have e1 : first.map a.eval = ⟨first.toList.map a.eval⟩ := by apply Array.ext'; simp
    have e2 : cap.map a.eval = ⟨cap.toList.map a.eval⟩ := by apply Array.ext'; simp
    simp [execOp, hop, Instr.makeFunc, e1, e2]
  · -- makeMap
    rename_i ty
    simp only [EM.run, Option.some.injEq, Prod.mk.injEq] at h
    obtain ⟨rfl, rfl⟩ := h
    refine ⟨by simp, fun {M w a} I hr hfresh => ?_⟩
    have hfr := hfresh s.nxt (Nat.le_refl _) (by simp)
    have I2 := I.alloc s.nxt ⟨w.heap.size, 0, 1, 0⟩ (.amap [] 0) (.map #[] 0) hfr rfl ⟨rfl, rfl, #[], by
      show (w.heap.push (.map #[] 0))[w.heap.size]? = _
      simp, by simp only [EsRel]⟩
    refine OpOk.of_value (res := .ok (.map (some w.heap.size)) (w.alloc (.map #[] 0))) ⟨_, _, _, rfl, M.le_lay s.nxt _ (.inl hfr), ?_, I2, ?_⟩ ?_
    · intro q hq
      by_cases e : q = s.nxt
      · right; simp only; omega
      · left; rw [Mp.lay_ne M _ e] at hq; exact hq
    · simp only [Rel]; exact ⟨_, Mp.lay_self _ _ _, rfl⟩
    · intro cv w' e; cases e
      simp [execOp, hop, Instr.makeMap]
  · -- makeSlice
    rename_i ty l0 c0 l c
    split at h
    · rename_i e hd
      have hud := E_d hty hd
      obtain ⟨k, hk, h1⟩ := withO_run h
      obtain ⟨z, hz, h2⟩ := withO_run h1
      obtain ⟨ln, hln, h3⟩ := withO_run h2
      obtain ⟨cn, hcn, h4⟩ := withO_run h3
      obtain ⟨hg, h5⟩ := guardE_run h4
      simp only [Bool.and_eq_true] at hg
      have hle := Nat.le_of_ble_eq_true hg.1.1.1
      have hby := Nat.le_of_ble_eq_true hg.1.1.2
      have hcm := Nat.le_of_ble_eq_true hg.1.2
      have hpos : 0 < k.size := Nat.lt_of_succ_le (Nat.le_of_ble_eq_true hg.2)
      simp only [EM.run, Option.some.injEq, Prod.mk.injEq] at h5
      obtain ⟨rfl, rfl⟩ := h5
      obtain ⟨ti, hti, hu, hs, hbt, _, hz0, _⟩ := hty e k hk
      obtain ⟨zv, hzv, hzo, hzl⟩ := hz0 z hz
      have hzero : ∀ w, (zeroValue e).run P w = .ok zv w := fun w => by simp [zeroValue, typeInfo, hti, hzv]
      refine ⟨by simp, fun {M w a} I hr hfresh => ?_⟩
      simp only [Op.operands, List.map_cons, List.map_nil, relL_cons, relL_nil, and_true] at hr
      obtain ⟨k1, e1⟩ := asNat_rel hln hr.1
      obtain ⟨k2, e2⟩ := asNat_rel hcn hr.2
      have hfr := hfresh s.nxt (Nat.le_refl _) (by simp)
      obtain ⟨zc, hzc, hzr⟩ := Rel.cells (ofVal_rel M 400 zv z hzo) (by intro l e; subst e; unfold ofVal at hzo; split at hzo <;> first | (cases hzo; done) | (split at hzo <;> cases hzo))
      have hzl' : zc.length = k.size := by rw [hzr.length]; exact hzl
      have hrl := (hzr.repl cn)
      have hlen : ((List.replicate cn zc).flatten).length = cn * k.size := by simp [hzl']
      have hcl : (repl cn z.cells).length = cn * k.size := by rw [← hrl.length]; exact hlen
      have I2 := I.newRow s.nxt (repl cn z.cells) k.size true (List.replicate cn zc).flatten e hfr (by omega) (fun _ => by omega) (by rw [hcl, ← hlen, List.take_length]; exact hrl)
      refine OpOk.of_value (res := .ok (.slice (some ⟨w.heap.size, 0, none⟩) ln cn) (w.alloc (.cells ⟨(List.replicate cn zc).flatten⟩ e))) ⟨_, _, _, rfl, M.le_lay s.nxt _ (.inl hfr), ?_, I2, ?_⟩ ?_
      · intro q hq
        by_cases e : q = s.nxt
        · right; simp only; omega
        · left; rw [Mp.lay_ne M _ e] at hq; exact hq
      · simp only [Rel, slcRel]
        exact ⟨_, Mp.lay_self _ _ _, _, _, rfl, hle, .inr rfl, rfl⟩
      · intro cv w' e3; cases e3
        unfold maxBytes at hby hcm
        have hw1 : IntKind.i64.wrap (ln : Int) = ln := IntWalk.i64_in _ (by omega)
        have hw2 : IntKind.i64.wrap (cn : Int) = cn := IntWalk.i64_in _ (by omega)
        have hbytes : ¬ (281474976710656 < (ti.bytes : Int) * (cn : Int)) := by
          rw [hbt]
          have hq : (k.bytes : Int) * (cn : Int) = ((cn * k.bytes : Nat) : Int) := by rw [Int.natCast_mul, Int.mul_comm]
          rw [hq]
          generalize cn * k.bytes = q at hby
          omega
        have hrange : Array.map (fun x => zc[x % zc.length]?.getD default) (Array.range (cn * k.size)) = ⟨(List.replicate cn zc).flatten⟩ := by
          have : Builtin.zeroCells ⟨zc⟩ cn = ⟨(List.replicate cn zc).flatten⟩ := by
            apply Array.ext'; exact zeroCells_flat zc cn
          rw [← this]; unfold Builtin.zeroCells; simp [hzl']
        have hne1 : ¬ ((cn : Int) < 0) := by omega
        have hne2 : ¬ ((ln : Int) < 0) := by omega
        have hne3 : ¬ ((cn : Int) < (ln : Int)) := by omega
        by_cases h0 : cn * k.size = 0
        · have hc0 : cn = 0 := by
            rcases Nat.mul_eq_zero.1 h0 with h | h
            · exact h
            · omega
          subst hc0
          have hl0 : ln = 0 := by omega
          subst hl0
          simp only [Int.natCast_zero] at hw1 hw2 e1 e2 hbytes
          simp [execOp, hop, Instr.makeSlice, run_underlying hud, e1, e2, asInt, asIntOf, typeInfo, hti, hw1, size_run (hty e k hk), newRow]
          have e0 : Array.map (fun _ => (default : Value)) (Array.range 0) = ⟨[]⟩ := by simp
          rw [e0]
        · simp [execOp, hop, Instr.makeSlice, run_underlying hud, e1, e2, asInt, asIntOf, typeInfo, hti, hw1, hw2, hbytes, hne1, hne2, hne3, size_run (hty e k hk), h0, hzero, hzc, hrange, newRow]
    · exact (fail_run h).elim
  · -- slice
    rename_i ty x0 lo hi mx x rr
    obtain ⟨v1, s1, ⟨e1, e2⟩, h1, hrest⟩ := sliceK_run (P := P) (B0 := B0) (w0 := w0) hty h
    obtain ⟨rfl, rfl⟩ := ret_run h1
    refine ⟨by omega, fun {M w a} I hr _ => ?_⟩
    have hr' : RelL M (x :: rr) (a.eval x0 :: ((lo.toList ++ (hi.toList ++ (mx.toList ++ []))).map a.eval)) := by
      simpa [Op.operands] using hr
    rw [relL_cons] at hr'
    obtain ⟨g1, g2⟩ := takeOpt_rel hr'.2
    obtain ⟨g3, g4⟩ := takeOpt_rel g2
    obtain ⟨g5, _⟩ := takeOpt_rel g4
    obtain ⟨cv, hcv, hrun⟩ := hrest I hr'.1 g1 g3 g5
    exact pure_ok (cv := cv) I e1 hcv (by simp [execOp, hop, hrun])
  · -- fieldAddr
    rename_i ty x0 f x
    obtain ⟨fd, hfd, h1⟩ := withO_run h
    obtain ⟨k, hk, h2⟩ := withO_run h1
    obtain ⟨hg, h3⟩ := guardE_run h2
    have hpos : 0 < k.size := Nat.lt_of_succ_le (Nat.le_of_ble_eq_true hg)
    obtain ⟨fs, hfs, hfj⟩ := fieldOf_some hfd
    have hud := E_d hty hfs
    have hplace : ∀ (ad : Addr) (w : World), (fieldPlace ad fd).run P w = .ok (ad.add fd.offset) w := fun ad w => by
      simp [fieldPlace, size_run (hty _ k hk), Nat.ne_of_gt hpos]
    have hfj' : (⟨fs⟩ : Array Field)[f]? = some fd := by simpa using hfj
    split at h3
    · rename_i n off
      obtain ⟨rfl, rfl⟩ := ret_run h3
      refine ⟨Nat.le_refl _, fun {M w a} I hr _ => ?_⟩
      simp only [Op.operands, List.map_cons, List.map_nil, relL_cons, relL_nil, and_true] at hr
      simp only [Rel] at hr
      obtain ⟨z, hz, he⟩ := hr
      refine pure_ok (cv := .pointer (some ⟨z.B, z.O + (off + fd.offset), none⟩)) I rfl (by simp only [Rel]; exact ⟨z, hz, rfl⟩) ?_
      simp [execOp, hop, Instr.fieldAt, run_underlying hud, hfj', he, Instr.sureAddr, hplace, Addr.add_none, Nat.add_assoc]
    · rename_i cs
      obtain ⟨rfl, rfl⟩ := ret_run h3
      refine ⟨Nat.le_refl _, fun {M w a} I hr _ => ?_⟩
      simp only [Op.operands, List.map_cons, List.map_nil, relL_cons, relL_nil, and_true] at hr
      simp only [Rel] at hr
      obtain ⟨⟨ab, ao, asp⟩, vs, he, hs, hvs, hat⟩ := hr
      simp only at hs; subst hs
      refine pure_ok (cv := .pointer (some ⟨ab, ao + fd.offset, none⟩)) I rfl (by simp only [Rel]; exact ⟨_, _, rfl, rfl, hvs.drop _, AtI.drop _ _ _ _ _ hat⟩) ?_
      simp [execOp, hop, Instr.fieldAt, run_underlying hud, he, Instr.sureAddr]
      simp [hfj, hplace, Addr.add_none]
    · exact (fail_run h3).elim
  · -- field
    rename_i ty x0 f x
    obtain ⟨fd, hfd, h1⟩ := withO_run h
    obtain ⟨fs, hfs, hfj⟩ := fieldOf_some hfd
    have hud := E_d hty hfs
    split at h1
    · rename_i cs
      obtain ⟨v1, hv, h2⟩ := withO_run h1
      obtain ⟨rfl, rfl⟩ := ret_run h2
      refine ⟨Nat.le_refl _, fun {M w a} I hr _ => ?_⟩
      simp only [Op.operands, List.map_cons, List.map_nil, relL_cons, relL_nil, and_true] at hr
      simp only [Rel] at hr
      obtain ⟨vs, he, hvs⟩ := hr
      obtain ⟨cv, hcv, hp⟩ := partA_run (P := P) hty hv hvs w
      refine pure_ok (cv := cv) I rfl hcv ?_
      simp [execOp, hop, Instr.field, run_underlying hud, he, asAgg]
      simp [hfj, hp]
    · exact (fail_run h1).elim
  · -- indexAddr
    rename_i ty x0 i0 x i
    obtain ⟨n, hn, h1⟩ := withO_run h
    split at h1
    · rename_i e m off len cap hd
      have hud := E_d hty hd
      obtain ⟨k, hk, h2⟩ := withO_run h1
      obtain ⟨hg, h3⟩ := guardE_run h2
      have hlt : n < len := Nat.le_of_ble_eq_true hg
      obtain ⟨rfl, rfl⟩ := ret_run h3
      refine ⟨Nat.le_refl _, fun {M w a} I hr _ => ?_⟩
      simp only [Op.operands, List.map_cons, List.map_nil, relL_cons, relL_nil, and_true] at hr
      obtain ⟨k1, e1⟩ := asNat_rel hn hr.2
      have hx := hr.1
      simp only [Rel, slcRel] at hx
      obtain ⟨z, hz, ad, kk, he, hk1, ha, _⟩ := hx
      have ha := ha.resolve_left (by omega)
      subst ha
      refine pure_ok (cv := .pointer (some ⟨z.B, z.O + (off + n * k.size), none⟩)) I rfl (by simp only [Rel]; exact ⟨z, hz, rfl⟩) ?_
      have : (0 : Int) ≤ n ∧ (n : Int) < len := ⟨by omega, by omega⟩
      simp [execOp, hop, Instr.indexAt, e1, asIntOf, run_underlying hud, he, this, size_run (hty e k hk), Addr.add_none, Nat.add_assoc]
      intro hc; omega
    · rename_i e cs len cap hd
      have hud := E_d hty hd
      obtain ⟨k, hk, h2⟩ := withO_run h1
      obtain ⟨hg, h3⟩ := guardE_run h2
      simp only [Bool.and_eq_true] at hg
      have hlt : n < len := Nat.le_of_ble_eq_true hg.1
      have hne : 0 < cs.length := Nat.le_of_ble_eq_true hg.2
      obtain ⟨rfl, rfl⟩ := ret_run h3
      refine ⟨Nat.le_refl _, fun {M w a} I hr _ => ?_⟩
      simp only [Op.operands, List.map_cons, List.map_nil, relL_cons, relL_nil, and_true] at hr
      obtain ⟨k1, e1⟩ := asNat_rel hn hr.2
      have hx := hr.1
      simp only [Rel] at hx
      obtain ⟨ad, kk, vs, he, hk1, _, hvs, hsp, hat⟩ := hx
      have hvn : ad.spot = none := hsp.resolve_right (fun e => by subst e; have := hvs.length; simp at this; omega)
      have : (0 : Int) ≤ n ∧ (n : Int) < len := ⟨by omega, by omega⟩
      obtain ⟨ab, ao, asp⟩ := ad
      simp only at hvn; subst hvn
      refine pure_ok (cv := .pointer (some ⟨ab, ao + n * k.size, none⟩)) I rfl (by simp only [Rel]; exact ⟨_, _, rfl, rfl, hvs.drop _, AtI.drop _ _ _ _ _ hat⟩) ?_
      simp [execOp, hop, Instr.indexAt, e1, asIntOf, run_underlying hud, he, this, size_run (hty e k hk), Addr.add_none]
      intro hc; omega
    · rename_i m e nn off hd
      have hud := E_d hty hd
      obtain ⟨k, hk, h2⟩ := withO_run h1
      obtain ⟨hg, h3⟩ := guardE_run h2
      have hlt : n < m := Nat.le_of_ble_eq_true hg
      obtain ⟨rfl, rfl⟩ := ret_run h3
      refine ⟨Nat.le_refl _, fun {M w a} I hr _ => ?_⟩
      simp only [Op.operands, List.map_cons, List.map_nil, relL_cons, relL_nil, and_true] at hr
      obtain ⟨k1, e1⟩ := asNat_rel hn hr.2
      have hx := hr.1
      simp only [Rel] at hx
      obtain ⟨z, hz, he⟩ := hx
      refine pure_ok (cv := .pointer (some ⟨z.B, z.O + (off + n * k.size), none⟩)) I rfl (by simp only [Rel]; exact ⟨z, hz, rfl⟩) ?_
      have : (0 : Int) ≤ n ∧ (n : Int) < m := ⟨by omega, by omega⟩
      simp [execOp, hop, Instr.indexAt, e1, asIntOf, run_underlying hud, he, this, Instr.sureAddr, size_run (hty e k hk), Addr.add_none, Nat.add_assoc]
      intro hc; omega
    · rename_i m e cs hd
      have hud := E_d hty hd
      obtain ⟨k, hk, h2⟩ := withO_run h1
      obtain ⟨hg, h3⟩ := guardE_run h2
      have hlt : n < m := Nat.le_of_ble_eq_true hg
      obtain ⟨rfl, rfl⟩ := ret_run h3
      refine ⟨Nat.le_refl _, fun {M w a} I hr _ => ?_⟩
      simp only [Op.operands, List.map_cons, List.map_nil, relL_cons, relL_nil, and_true] at hr
      obtain ⟨k1, e1⟩ := asNat_rel hn hr.2
      have hx := hr.1
      simp only [Rel] at hx
      obtain ⟨⟨ab, ao, asp⟩, vs, he, hs, hvs, hat⟩ := hx
      simp only at hs; subst hs
      refine pure_ok (cv := .pointer (some ⟨ab, ao + n * k.size, none⟩)) I rfl (by simp only [Rel]; exact ⟨_, _, rfl, rfl, hvs.drop _, AtI.drop _ _ _ _ _ hat⟩) ?_
      have : (0 : Int) ≤ n ∧ (n : Int) < m := ⟨by omega, by omega⟩
      simp [execOp, hop, Instr.indexAt, e1, asIntOf, run_underlying hud, he, this, Instr.sureAddr, size_run (hty e k hk), Addr.add_none]
      intro hc; omega
    · exact (fail_run h1).elim
  · -- index
    rename_i ty x0 i0 x i
    obtain ⟨n, hn, h1⟩ := withO_run h
    split at h1
    · rename_i m e cs hd
      have hud := E_d hty hd
      obtain ⟨k, hk, h2⟩ := withO_run h1
      obtain ⟨hg, h3⟩ := guardE_run h2
      have hlt : n < m := Nat.le_of_ble_eq_true hg
      obtain ⟨v1, hv, h4⟩ := withO_run h3
      obtain ⟨rfl, rfl⟩ := ret_run h4
      refine ⟨Nat.le_refl _, fun {M w a} I hr _ => ?_⟩
      simp only [Op.operands, List.map_cons, List.map_nil, relL_cons, relL_nil, and_true] at hr
      obtain ⟨k1, e1⟩ := asNat_rel hn hr.2
      have hx := hr.1
      simp only [Rel] at hx
      obtain ⟨vs, he, hvs⟩ := hx
      obtain ⟨cv, hcv, hp⟩ := partA_run (P := P) hty hv hvs w
      refine pure_ok (cv := cv) I rfl hcv ?_
      have : (0 : Int) ≤ n ∧ (n : Int) < m := ⟨by omega, by omega⟩
      simp [execOp, hop, Instr.index, e1, asIntOf, run_underlying hud, he, this, size_run (hty e k hk), hp]
      intro hc; omega
    · rename_i b hd
      have hud := E_d hty hd
      obtain ⟨c, hc, h2⟩ := withO_run h1
      obtain ⟨rfl, rfl⟩ := ret_run h2
      refine ⟨Nat.le_refl _, fun {M w a} I hr _ => ?_⟩
      simp only [Op.operands, List.map_cons, List.map_nil, relL_cons, relL_nil, and_true] at hr
      obtain ⟨k1, e1⟩ := asNat_rel hn hr.2
      have hx := hr.1
      simp only [Rel] at hx
      refine pure_ok (cv := .int .u8 c.toNat) I rfl (by simp only [Rel]) ?_
      have hlt : n < b.size := by
        rcases Nat.lt_or_ge n b.data.toList.length with h' | h'
        · simpa using h'
        · rw [List.getElem?_eq_none h'] at hc; cases hc
      have hrun := run_index_string (P := P) w ty b k1 n hud
      have hin : (0 : Int) ≤ n ∧ (n : Int) < b.size := ⟨by omega, by omega⟩
      rw [dif_pos hin] at hrun
      have hb : b[(n : Int).toNat]'(by omega) = c := by
        have h1 : b.data.toList[n]? = some (b.data[n]'hlt) := by simp [hlt]
        rw [h1] at hc
        cases hc
        rfl
      rw [hb] at hrun
      simp [execOp, hop, hx, e1, hrun]
    · exact (fail_run h1).elim
  · -- lookup
    rename_i ty x0 k0 ok x k
    obtain ⟨v1, s1, ⟨e1, e2⟩, h1, hrest⟩ := lookupK_run (P := P) (B0 := B0) (w0 := w0) hty h
    obtain ⟨rfl, rfl⟩ := ret_run h1
    refine ⟨by omega, fun {M w a} I hr _ => ?_⟩
    simp only [Op.operands, List.map_cons, List.map_nil, relL_cons, relL_nil, and_true] at hr
    obtain ⟨cv, hcv, hrun⟩ := hrest I hr.1 hr.2
    exact pure_ok (cv := cv) I e1 hcv (by simp [execOp, hop, hrun])
  · -- mapUpdate
    rename_i ty m0 k0 x0 m k x
    obtain ⟨s1, e1, h1, hrest⟩ := updateK_run (P := P) (B0 := B0) (w0 := w0) hty h
    obtain ⟨rfl, rfl⟩ := ret_run h1
    refine ⟨by omega, fun {M w a} I hr _ => ?_⟩
    simp only [Op.operands, List.map_cons, List.map_nil, relL_cons, relL_nil, and_true] at hr
    obtain ⟨w', hrun, I2⟩ := hrest I hr.1 hr.2.1 hr.2.2
    exact OpOk.of_skip (w' := w') (by simp [execOp, hop, hrun]) I2 rfl
  · -- insert
    rename_i ty m0 k0 x0 m k x
    obtain ⟨s1, e1, h1, hrest⟩ := updateK_run (P := P) (B0 := B0) (w0 := w0) hty h
    obtain ⟨rfl, rfl⟩ := ret_run h1
    refine ⟨by omega, fun {M w a} I hr _ => ?_⟩
    simp only [Op.operands, List.map_cons, List.map_nil, relL_cons, relL_nil, and_true] at hr
    obtain ⟨w', hrun, I2⟩ := hrest I hr.1 hr.2.1 hr.2.2
    exact OpOk.of_skip (w' := w') (by simp [execOp, hop, hrun]) I2 rfl
  · -- mapEntry
    rename_i ty m0 k0 m k
    obtain ⟨v1, s1, e1, h1, hrest⟩ := entryK_run (P := P) (B0 := B0) (w0 := w0) hty h
    obtain ⟨rfl, rfl⟩ := ret_run h1
    refine ⟨by omega, fun {M w a} I hr _ => ?_⟩
    simp only [Op.operands, List.map_cons, List.map_nil, relL_cons, relL_nil, and_true] at hr
    obtain ⟨cv, w', hcv, hrun, I2⟩ := hrest I hr.1 hr.2
    exact OpOk.of_value (res := .ok cv w') ⟨M, w', cv, rfl, M.le_refl, fun _ h => .inl h, I2, hcv⟩ (by intro c w2 e; cases e; simp [execOp, hop, hrun])
  · -- entryStore
    rename_i ty m0 st0 x0 m st x
    obtain ⟨s1, e1, h1, hrest⟩ := entryStoreK_run (P := P) (B0 := B0) (w0 := w0) (t := ty) h
    obtain ⟨rfl, rfl⟩ := ret_run h1
    refine ⟨by omega, fun {M w a} I hr _ => ?_⟩
    simp only [Op.operands, List.map_cons, List.map_nil, relL_cons, relL_nil, and_true] at hr
    obtain ⟨w', hrun, I2⟩ := hrest I hr.1 hr.2.1 hr.2.2
    exact OpOk.of_skip (w' := w') (by simp [execOp, hop, hrun]) I2 rfl
  · -- range over a text
    rename_i ty x0 x
    split at h
    · rename_i b hd
      have hud := E_d hty hd
      simp only [EM.run, Option.some.injEq, Prod.mk.injEq] at h
      obtain ⟨rfl, rfl⟩ := h
      refine ⟨by simp, fun {M w a} I hr hfresh => ?_⟩
      simp only [Op.operands, List.map_cons, List.map_nil, relL_cons, relL_nil, and_true] at hr
      simp only [Rel] at hr
      have hfr := hfresh s.nxt (Nat.le_refl _) (by simp)
      have I2 := I.alloc s.nxt ⟨w.heap.size, 0, 1, 0⟩ (.siter b 0) (.stringIter b 0) hfr rfl ⟨rfl, rfl, by
        show (w.heap.push (.stringIter b 0))[w.heap.size]? = _
        simp⟩
      refine OpOk.of_value (res := .ok (.pointer (some ⟨w.heap.size, 0, none⟩)) (w.alloc (.stringIter b 0))) ⟨_, _, _, rfl, M.le_lay s.nxt _ (.inl hfr), ?_, I2, ?_⟩ ?_
      · intro q hq
        by_cases e : q = s.nxt
        · right; simp only; omega
        · left; rw [Mp.lay_ne M _ e] at hq; exact hq
      · simp only [Rel]; exact ⟨_, Mp.lay_self _ _ _, rfl⟩
      · intro cv w' e; cases e
        simp [execOp, hop, Instr.range, run_underlying hud, hr]
    · exact (fail_run h).elim
  · -- next
    rename_i x0 x
    obtain ⟨v1, s1, e1, h1, hrest⟩ := nextK_run (P := P) (B0 := B0) (w0 := w0) (t := o.type) h
    obtain ⟨rfl, rfl⟩ := ret_run h1
    refine ⟨by omega, fun {M w a} I hr _ => ?_⟩
    simp only [Op.operands, List.map_cons, List.map_nil, relL_cons, relL_nil, and_true] at hr
    obtain ⟨cv, w', hcv, hrun, I2⟩ := hrest I hr
    exact OpOk.of_value (res := .ok cv w') ⟨M, w', cv, rfl, M.le_refl, fun _ h => .inl h, I2, hcv⟩ (by intro c w2 e; cases e; simp [execOp, hop, hrun])
  · -- typeAssert
    rename_i x0 xt t ok x
    split at h
    · exact (fail_run h).elim
    · rename_i d u v1 hni hd
      have hud := E_d hty hd
      obtain ⟨hg, h1⟩ := guardE_run h
      have hut := Nat.eq_of_beq_eq_true hg
      subst hut
      obtain ⟨rfl, rfl⟩ := ret_run h1
      refine ⟨Nat.le_refl _, fun {M w a} I hr _ => ?_⟩
      simp only [Op.operands, List.map_cons, List.map_nil, relL_cons, relL_nil, and_true] at hr
      simp only [Rel] at hr
      obtain ⟨cv, he, hcv⟩ := hr
      refine pure_ok (cv := if ok then .tuple #[cv, .bool true] else cv) I rfl ?_ ?_
      · cases ok with
        | true => simp only [okV, Rel, if_true]; exact ⟨[cv, .bool true], rfl, by simp only [RelL, Rel]; exact ⟨_, _, rfl, hcv, _, _, rfl, rfl, rfl⟩⟩
        | false => simpa [okV] using hcv
      · simp only [execOp, hop, Instr.typeAssert, he, Sem.run_bind, run_underlying hud, Result.andThen_ok]
        cases d <;> first | (exact (hni _ rfl).elim) | (cases ok <;> simp)
    · exact (fail_run h).elim
  · -- extract
    rename_i x0 i vs
    obtain ⟨v1, hv, h1⟩ := withO_run h
    obtain ⟨rfl, rfl⟩ := ret_run h1
    refine ⟨Nat.le_refl _, fun {M w a} I hr _ => ?_⟩
    simp only [Op.operands, List.map_cons, List.map_nil, relL_cons, relL_nil, and_true] at hr
    simp only [Rel] at hr
    obtain ⟨cs, he, hcs⟩ := hr
    obtain ⟨x, hx, hrx⟩ := hcs.get i _ hv
    refine pure_ok (cv := x) I rfl hrx ?_
    have hx' : (⟨cs⟩ : Array Value)[i]? = some x := by simpa using hx
    simp only [execOp, hop, Instr.extract, he, hx']
    simp
  · -- call
    rename_i c
    split at h
    · -- a builtin
      rename_i b hb
      obtain ⟨hmon, hrest⟩ := builtinK_run (P := P) (B0 := B0) (w0 := w0) hty (v := v) (s' := s') h
      refine ⟨hmon, fun {M w a} I hr hfresh => ?_⟩
      have hr' : RelL M xs (c.args.toList.map a.eval) := by simpa [Op.operands, Call.operands, hb] using hr
      have e1 : c.args.map a.eval = ⟨c.args.toList.map a.eval⟩ := by apply Array.ext'; simp
      obtain ⟨M', w', cv, h1, h2, h3, h4, h5⟩ := hrest c.argTypes o.type (c.args.map fun | .const _ => true | _ => false) rfl I hr' hfresh
      intro next Q k
      unfold Oper.wp
      have : (execOp a.eval o).run P w = .ok (.value cv) w' := by
        simp only [execOp, hop, resolve, hb, Sem.run_bind, Sem.run_pure, Result.andThen_ok, invoke, e1]
        exact h1
      rw [this]
      exact k M' w' cv h2 h3 h4 h5
    · -- a function value
      rename_i f0 hf
      split at h
      · rename_i g first cap args
        have hargs : ∀ {M : Mp} {w : World} {a : Act}, RelL M (AV.fn (.func g) first cap :: args) ((Op.call c).operands.toList.map a.eval) →
            ∃ cargs, RelL M (first ++ args ++ cap) cargs ∧ (execOp a.eval o).run P w = (callFunc g ⟨cargs⟩).run P w := by
          intro M w a hr
          have hr' : RelL M (AV.fn (.func g) first cap :: args) (a.eval f0 :: c.args.toList.map a.eval) := by simpa [Op.operands, Call.operands, hf] using hr
          rw [relL_cons] at hr'
          obtain ⟨h1, h2⟩ := hr'
          simp only [Rel] at h1
          obtain ⟨va, vb, he, h3, h4⟩ := h1
          refine ⟨va ++ c.args.toList.map a.eval ++ vb, (h3.append h2).append h4, ?_⟩
          have e1 : c.args.map a.eval = ⟨c.args.toList.map a.eval⟩ := by apply Array.ext'; simp
          simp only [execOp, hop, resolve, hf, he, Deferred.ofValue, Sem.run_bind, Sem.run_pure, Result.andThen_ok, invoke, e1]
          congr 2
          apply Array.ext'; simp
        unfold callK at h
        split at h
        · -- without a text
          rename_i k hk
          obtain ⟨hmon, hrest⟩ := extK_run (B0 := B0) (w0 := w0) hE hk h
          refine ⟨hmon, fun {M w a} I hr hfresh => ?_⟩
          obtain ⟨cargs, hc1, hc2⟩ := hargs (w := w) hr
          obtain ⟨M', w', cv, h1, h2, h3, h4, h5⟩ := hrest I hc1 hfresh
          intro next Q k
          unfold Oper.wp
          rw [hc2, h1]
          exact k M' w' cv h2 h3 h4 h5
        · -- with a text
          have h' : call g (first ++ args ++ cap) s = some (v, s') := by
            simp only [EM.run] at h
            split at h
            · rename_i v1 s1 hc
              simp only [Option.some.injEq, Prod.mk.injEq] at h
              obtain ⟨rfl, rfl⟩ := h
              exact hc
            · cases h
          obtain ⟨hmon, hrest⟩ := hcall _ _ _ _ _ h'
          refine ⟨hmon, fun {M w a} I hr hfresh => ?_⟩
          obtain ⟨cargs, hc1, hc2⟩ := hargs (w := w) hr
          obtain ⟨⟨fn, hfn, hbody, hname⟩, hcalls⟩ := hrest M w cargs I hc1 hfresh
          intro next Q k
          unfold Oper.wp
          have hcf : (callFunc g ⟨cargs⟩).run P w = .ok (.enter g ⟨cargs⟩) w := by
            have hb : fn.body ≠ none := fun e => by rw [e] at hbody; cases hbody
            simp [callFunc, hfn, hname]
            exact fun e => absurd e hb
          rw [hc2, hcf, Oper.upon_enter]
          refine hcalls.mono ?_
          rintro e w' ⟨cv, M', rfl, g1, g2, g3, g4⟩
          exact k M' w' cv g1 g2 g3 g4
      · exact (fail_run h).elim
    · exact (fail_run h).elim
  · exact (fail_run h).elim
end
end Go.Ab
