/- The abstract evaluator: arithmetic and comparison at one operation; composites; maps. -/
import Derived.Test.YtgegheifegnflaaGreatDoorEvE3
namespace Go.Ab
open Go.RowKit

section
variable {β : Type} {call : CallF} {s : St} {r : β × St} {P : Program} {B0 : Nat} {w0 : World} {E : Env}

theorem pureOf_run {α : Type} {x : Sem α} {a : α} (h : pureOf x = some a) (w : World) : x.run P w = .ok a w := by
  unfold pureOf at h
  split at h
  · cases h; rfl
  · cases h

/-- nil, or not: of which shape -/
inductive NilC : TypeDesc → Value → Bool → Prop
  | p0 {e} : NilC (.pointer e) (.pointer none) true
  | p1 {e a} : NilC (.pointer e) (.pointer (some a)) false
  | s0 {e a b} : NilC (.slice e) (.slice none a b) true
  | s1 {e a l c} : NilC (.slice e) (.slice (some a) l c) false
  | m0 {k e} : NilC (.map k e) (.map none) true
  | m1 {k e b} : NilC (.map k e) (.map (some b)) false
  | f0 {a b c} : NilC (.func a b c) .nilFunc true
  | f1 {a b c f x y} : NilC (.func a b c) (.func f x y) false

theorem nilC_of {M : Mp} {d : TypeDesc} {x : AV} {b : Bool} {c : Value} (h1 : nilTy d x = true) (h2 : isNilOf x = some b) (h : Rel M x c) : NilC d c b := by
  cases x with
  | sc v =>
    simp only [Rel] at h; subst h
    cases c with
    | pointer a => cases a <;> simp [isNilOf] at h2 <;> subst h2 <;> cases d <;> simp [nilTy] at h1 <;> constructor
    | slice a l k => cases a <;> simp [isNilOf] at h2 <;> subst h2 <;> cases d <;> simp [nilTy] at h1 <;> constructor
    | map a => cases a <;> simp [isNilOf] at h2 <;> subst h2 <;> cases d <;> simp [nilTy] at h1 <;> constructor
    | nilFunc => simp [isNilOf] at h2; subst h2; cases d <;> simp [nilTy] at h1; constructor
    | _ => simp [isNilOf] at h2
  | ptr n o =>
    simp only [Rel] at h; obtain ⟨z, hz, rfl⟩ := h
    simp [isNilOf] at h2; subst h2; cases d <;> simp [nilTy] at h1; constructor
  | slc n o l k =>
    simp only [Rel] at h; obtain ⟨z, hz, a, k, rfl, _⟩ := h
    simp [isNilOf] at h2; subst h2; cases d <;> simp [nilTy] at h1; constructor
  | isl cs l k =>
    simp only [Rel] at h; obtain ⟨a, k, vs, rfl, _⟩ := h
    simp [isNilOf] at h2; subst h2; cases d <;> simp [nilTy] at h1; constructor
  | eptr cs =>
    simp only [Rel] at h; obtain ⟨a, vs, rfl, _⟩ := h
    simp [isNilOf] at h2; subst h2; cases d <;> simp [nilTy] at h1; constructor
  | mp n =>
    simp only [Rel] at h; obtain ⟨z, hz, rfl⟩ := h
    simp [isNilOf] at h2; subst h2; cases d <;> simp [nilTy] at h1; constructor
  | fn f a b =>
    simp only [Rel] at h; obtain ⟨va, vb, rfl, _⟩ := h
    simp [isNilOf] at h2; subst h2; cases d <;> simp [nilTy] at h1; constructor
  | _ => simp [isNilOf] at h2

theorem nil_eq {t : TypeId} {d : TypeDesc} (hu : P.underlying t = some d) {x y : Value} {a b : Bool} (hx : NilC d x a) (hy : NilC d y b) (hab : a = true ∨ b = true) (w : World) : (Op.equal t x y).run P w = .ok (a && b) w := by
  show (Op.equalIn (9999 + 1) t x y).run P w = .ok (a && b) w
  generalize 9999 = n
  cases hx <;> cases hy <;> first
    | (simp [Op.equalIn, run_underlying hu]; done)
    | (rcases hab with h | h <;> cases h)

theorem nil_guard {d : TypeDesc} {x y : Value} {a b : Bool} (hx : NilC d x a) (hy : NilC d y b) (op : BinOp) (t : TypeId) (ox oy : Operand) (w : World) : (eqGuard op t ox oy x y).run P w = .ok () w := by
  cases hx <;> cases hy <;> cases op <;> simp [eqGuard]

theorem nil_bin {d : TypeDesc} {x y : Value} {a b : Bool} (hx : NilC d x a) (hy : NilC d y b) (t : TypeId) (w : World) :
    (binOp .eql t x y).run P w = ((Op.equal t x y).run P w).andThen (fun q w => .ok (.bool q) w) ∧ (binOp .neq t x y).run P w = ((Op.equal t x y).run P w).andThen (fun q w => .ok (.bool (!q)) w) := by
  cases hx <;> cases hy <;> constructor <;> simp [binOp]

theorem binA_run (hty : ∀ t i, E.ty t = some i → TyOk P t i) {op : BinOp} {t : TypeId} {x y v : AV} (h : binA E op t x y = some v) {M : Mp} {cx cy : Value} (hx : Rel M x cx) (hy : Rel M y cy) (ox oy : Operand) (w : World) :
    ∃ cv, Rel M v cv ∧ (do eqGuard op t ox oy cx cy; binOp op t cx cy : Sem Value).run P w = .ok cv w := by
  unfold binA at h
  split at h
  · rename_i j a k b
    split at h
    · rename_i v' hv'; cases h
      simp only [Rel] at hx hy; subst hx; subst hy
      refine ⟨v', by simp only [Rel], ?_⟩
      have hg : (eqGuard op t ox oy (.int j a) (.int k b)).run P w = .ok () w := by cases op <;> simp [eqGuard]
      simp only [Sem.run_bind, hg, Result.andThen_ok]
      exact pureOf_run hv' w
    · cases h
  · rename_i a b
    split at h
    · rename_i v' hv'; cases h
      simp only [Rel] at hx hy; subst hx; subst hy
      refine ⟨v', by simp only [Rel], ?_⟩
      have hg : (eqGuard op t ox oy (.string a) (.string b)).run P w = .ok () w := by cases op <;> simp [eqGuard]
      simp only [Sem.run_bind, hg, Result.andThen_ok]
      exact pureOf_run hv' w
    · cases h
  · rename_i a b
    simp only [Rel] at hx hy; subst hx; subst hy
    have hg : (eqGuard op t ox oy (.bool a) (.bool b)).run P w = .ok () w := by cases op <;> simp [eqGuard]
    split at h
    · rename_i hd; cases h
      have hu := E_d hty hd
      refine ⟨.bool (a == b), by simp only [Rel], ?_⟩
      have := run_equalIn_bool' (P := P) w 9999 t a b hu
      simp only [Sem.run_bind, hg, Result.andThen_ok]
      simp [binOp, Op.equal, Op.maxDepth, this]
    · rename_i hd; cases h
      have hu := E_d hty hd
      refine ⟨.bool (!(a == b)), by simp only [Rel], ?_⟩
      have := run_equalIn_bool' (P := P) w 9999 t a b hu
      simp only [Sem.run_bind, hg, Result.andThen_ok]
      simp [binOp, Op.equal, Op.maxDepth, this]
    · cases h
  · rename_i a b
    have hx' := hx; have hy' := hy
    simp only [Rel] at hx hy
    obtain ⟨va, rfl, hva⟩ := hx
    obtain ⟨vb, rfl, hvb⟩ := hy
    -- the guard of a comparison of composites
    have hg : ∀ q, eqA E 40 t (.agg a) (.agg b) = some q → (eqGuard op t ox oy (.agg ⟨va⟩) (.agg ⟨vb⟩)).run P w = .ok () w := by
      intro q hq
      unfold eqA at hq
      split at hq
      · cases hq
      · rename_i i hi
        obtain ⟨ti, hti, hu, hs, _, hag, _, heq⟩ := hty t i hi
        split at hq
        · rename_i heq1 _; cases heq1
        · rename_i heq1 _; cases heq1
        · rename_i heq1 _; cases heq1
        · split at hq
          · rename_i hok
            exact run_eqGuard_agg w op t ox oy ⟨va⟩ ⟨vb⟩ (heq hok).2
          · cases hq
        · cases hq
    split at h
    · rename_i q hq; cases h
      refine ⟨.bool q, by simp only [Rel], ?_⟩
      have := eqA_run (P := P) hty 40 t (.agg a) (.agg b) q _ _ 10000 w hq hx' hy' (by omega)
      simp only [Sem.run_bind, hg q hq, Result.andThen_ok]
      simp [binOp, Op.equal, Op.maxDepth, this]
    · rename_i q hq; cases h
      refine ⟨.bool (!q), by simp only [Rel], ?_⟩
      have := eqA_run (P := P) hty 40 t (.agg a) (.agg b) q _ _ 10000 w hq hx' hy' (by omega)
      simp only [Sem.run_bind, hg q hq, Result.andThen_ok]
      simp [binOp, Op.equal, Op.maxDepth, this]
    · cases h
  · split at h
    · rename_i d hd
      have hu := E_d hty hd
      split at h
      · rename_i hn
        simp only [Bool.and_eq_true] at hn
        have go : ∀ a b, isNilOf x = some a → isNilOf y = some b → (a = true ∨ b = true) →
            (do eqGuard .eql t ox oy cx cy; binOp .eql t cx cy : Sem Value).run P w = .ok (.bool (a && b)) w ∧ (do eqGuard .neq t ox oy cx cy; binOp .neq t cx cy : Sem Value).run P w = .ok (.bool (!(a && b))) w := by
          intro a b ha hb hab
          have cx' := nilC_of hn.1 ha hx
          have cy' := nilC_of hn.2 hb hy
          have e := nil_eq hu cx' cy' hab w
          have g1 := nil_guard (P := P) cx' cy' .eql t ox oy w
          have g2 := nil_guard (P := P) cx' cy' .neq t ox oy w
          obtain ⟨b1, b2⟩ := nil_bin (P := P) cx' cy' t w
          simp only [Sem.run_bind, g1, g2, Result.andThen_ok, b1, b2, e, and_self]
        split at h
        · rename_i b ha hb; cases h
          exact ⟨.bool b, by simp only [Rel], by have := (go true b ha hb (.inl rfl)).1; simpa using this⟩
        · rename_i b ha hb; cases h
          exact ⟨.bool (!b), by simp only [Rel], by have := (go true b ha hb (.inl rfl)).2; simpa using this⟩
        · rename_i ha hb; cases h
          exact ⟨.bool false, by simp only [Rel], by have := (go false true ha hb (.inr rfl)).1; simpa using this⟩
        · rename_i ha hb; cases h
          exact ⟨.bool true, by simp only [Rel], by have := (go false true ha hb (.inr rfl)).2; simpa using this⟩
        · cases h
      · cases h
    · cases h

theorem unA_run {op : UnOp} {x v : AV} (h : unA op x = some v) {M : Mp} {cx : Value} (hx : Rel M x cx) (w : World) : ∃ cv, Rel M v cv ∧ (Op.unary op cx).run P w = .ok cv w := by
  unfold unA at h
  split at h
  · split at h
    · rename_i v' hv'; cases h
      simp only [Rel] at hx; subst hx
      exact ⟨v', by simp only [Rel], pureOf_run hv' w⟩
    · cases h
  · split at h
    · rename_i v' hv'; cases h
      simp only [Rel] at hx; subst hx
      exact ⟨v', by simp only [Rel], pureOf_run hv' w⟩
    · cases h
  · cases h

/-! ### composites -/

theorem isCell_cells {M : Mp} {a : AV} {c : Value} (h : Rel M a c) (hs : ∀ l, a ≠ .sc (.agg l)) : ∃ vs, c.cells = ⟨vs⟩ ∧ RelL M a.cells vs := Rel.cells h hs

/-- parts, each with its place -/
def PartsRel (M : Mp) : List (Nat × AV) → List (Nat × Value) → Prop
  | [], c => c = []
  | p :: l, c => ∃ v q, c = (p.1, v) :: q ∧ Rel M p.2 v ∧ (∀ l, p.2 ≠ .sc (.agg l)) ∧ PartsRel M l q

theorem foldl_set (vs : List Value) : ∀ (off : Nat) (cells : List Value), off + vs.length ≤ cells.length →
    ((vs.zipIdx).foldl (fun (cs : Array Value) (p : Value × Nat) => cs.setIfInBounds (off + p.2) p.1) ⟨cells⟩) = ⟨cells.take off ++ vs ++ cells.drop (off + vs.length)⟩ := by
  suffices H : ∀ (vs : List Value) (k off : Nat) (cells : List Value), off + k + vs.length ≤ cells.length →
      ((vs.zipIdx k).foldl (fun (cs : Array Value) (p : Value × Nat) => cs.setIfInBounds (off + p.2) p.1) ⟨cells⟩) = ⟨cells.take (off + k) ++ vs ++ cells.drop (off + k + vs.length)⟩ by
    intro off cells h
    exact H vs 0 off cells (by omega)
  intro vs
  induction vs with
  | nil => intro k off cells h; simp
  | cons v vs ih =>
    intro k off cells h
    simp only [List.length_cons] at h
    simp only [List.zipIdx_cons, List.foldl_cons]
    have e : (⟨cells⟩ : Array Value).setIfInBounds (off + k) v = ⟨cells.set (off + k) v⟩ := by
      apply Array.ext'; simp
    rw [e, ih (k + 1) off (cells.set (off + k) v) (by simp; omega)]
    congr 1
    apply List.ext_getElem?
    intro i
    simp only [List.length_cons]
    by_cases h1 : i < off + k
    · rw [List.getElem?_append_left (by simp; omega), List.getElem?_append_left (by simp; omega), List.getElem?_take_of_lt (by omega),
        List.getElem?_append_left (by simp; omega), List.getElem?_append_left (by simp; omega), List.getElem?_take_of_lt h1, List.getElem?_set_ne (by omega)]
    · by_cases h2 : i = off + k
      · subst h2
        rw [List.getElem?_append_left (by simp; omega), List.getElem?_append_left (by simp; omega), List.getElem?_take_of_lt (by omega), List.getElem?_set_self (by omega),
          List.getElem?_append_left (by simp; omega), List.getElem?_append_right (by simp only [List.length_take]; omega)]
        have e2 : (List.take (off + k) cells).length = off + k := by simp; omega
        rw [e2]; simp
      · by_cases h3 : i < off + k + 1 + vs.length
        · rw [List.getElem?_append_left (by simp; omega), List.getElem?_append_right (by simp; omega), List.getElem?_append_left (by simp; omega), List.getElem?_append_right (by simp; omega)]
          have e1 : (List.take (off + (k + 1)) (cells.set (off + k) v)).length = off + k + 1 := by simp; omega
          have e2 : (List.take (off + k) cells).length = off + k := by simp; omega
          rw [e1, e2, show i - (off + k) = i - (off + k + 1) + 1 by omega, List.getElem?_cons_succ]
        · rw [List.getElem?_append_right (by simp; omega), List.getElem?_append_right (by simp; omega), List.getElem?_drop, List.getElem?_drop]
          have e1 : off + (k + 1) + vs.length + (i - (List.take (off + (k + 1)) (cells.set (off + k) v) ++ vs).length) = i := by simp; omega
          have e2 : off + k + (vs.length + 1) + (i - (List.take (off + k) cells ++ v :: vs).length) = i := by simp; omega
          rw [e1, e2, List.getElem?_set_ne (by omega)]

theorem fillA_run {M : Mp} {place : Nat → Option (Nat × Nat)} : ∀ {ps : List (Nat × AV)} {cells out : List AV} {cps : List (Nat × Value)} {cv : List Value}, fillA place cells ps = some out → RelL M cells cv → PartsRel M ps cps →
    ∃ ov, RelL M out ov ∧ Instr.fill place ⟨cv⟩ cps = some ⟨ov⟩
  | [], cells, out, cps, cv, h, hc, hp => by
    simp [fillA] at h; subst h
    simp only [PartsRel] at hp; subst hp
    exact ⟨cv, hc, rfl⟩
  | p :: l, cells, out, cps, cv, h, hc, hp => by
    simp only [PartsRel] at hp
    obtain ⟨v, q, rfl, hr, hns, hq⟩ := hp
    obtain ⟨i, a⟩ := p
    simp only [fillA] at h
    split at h
    · rename_i off size hpl
      cases hb : (a.cells.length.beq size && (off + size).ble cells.length) with
      | false => rw [hb] at h; simp at h
      | true =>
        rw [hb] at h; simp only [cond_true] at h
        simp only [Bool.and_eq_true] at hb
        have e1 := Nat.eq_of_beq_eq_true hb.1
        have e2 := Nat.le_of_ble_eq_true hb.2
        obtain ⟨vs, hvs, hrv⟩ := Rel.cells hr hns
        have hl := hrv.length
        have hcl := hc.length
        obtain ⟨ov, ho, hf⟩ := fillA_run h (hc.splice off hrv) hq
        refine ⟨ov, ho, ?_⟩
        simp only [Instr.fill, hpl, hvs, List.size_toArray]
        have e3 : vs.length = size := by rw [hl]; exact e1
        have e4 : off + vs.length ≤ cv.length := by omega
        rw [if_neg (by simp; omega)]
        have hfold := foldl_set vs off cv e4
        have hz : (Array.zipIdx (⟨vs⟩ : Array Value)).foldl (fun (cs : Array Value) (p : Value × Nat) => cs.setIfInBounds (off + p.2) p.1) ⟨cv⟩ = ⟨cv.take off ++ vs ++ cv.drop (off + vs.length)⟩ := by
          rw [← Array.foldl_toList, Array.toList_zipIdx]
          exact hfold
        exact (congrArg (fun q => Instr.fill place q _) hz).trans hf
    · cases h
end
end Go.Ab
