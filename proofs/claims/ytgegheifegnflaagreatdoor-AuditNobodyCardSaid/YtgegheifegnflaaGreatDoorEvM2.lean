/- slices.Sorted(maps.Keys(m)) at keys that are ints, as the evaluator tells it, held against its contract. -/
import Derived.Test.YtgegheifegnflaaGreatDoorEvM
import Derived.Lib.SlKeysI
namespace Go.Ab
open Go.RowKit
open Go.WideElems (Fit rd rg)

/-! ### the sort -/

def insZ (x : Int) : List Int → List Int
  | [] => [x]
  | y :: l => match leI x y with | true => x :: y :: l | false => y :: insZ x l

def sortZ : List Int → List Int
  | [] => []
  | x :: l => insZ x (sortZ l)

theorem insZ_perm (x : Int) : ∀ l, (insZ x l).Perm (x :: l)
  | [] => .refl _
  | y :: l => by
    simp only [insZ]
    split
    · exact .refl _
    · exact ((insZ_perm x l).cons y).trans (.swap x y l)

theorem sortZ_perm : ∀ l, (sortZ l).Perm l
  | [] => .refl _
  | x :: l => (insZ_perm x _).trans ((sortZ_perm l).cons x)

theorem leI_trans (a b c : Int) (h1 : leI a b = true) (h2 : leI b c = true) : leI a c = true := by
  simp only [leI, decide_eq_true_eq] at *; omega

theorem insZ_sorted (x : Int) : ∀ l, l.Pairwise (fun a b => leI a b = true) → (insZ x l).Pairwise (fun a b => leI a b = true)
  | [], _ => by simp [insZ]
  | y :: l, h => by
    simp only [insZ]
    rw [List.pairwise_cons] at h
    split
    · rename_i hx
      refine List.pairwise_cons.2 ⟨fun b hb => ?_, List.pairwise_cons.2 h⟩
      rcases List.mem_cons.1 hb with rfl | hb
      · exact hx
      · exact leI_trans _ _ _ hx (h.1 b hb)
    · rename_i hx
      refine List.pairwise_cons.2 ⟨fun b hb => ?_, insZ_sorted x l h.2⟩
      rcases List.mem_cons.1 ((insZ_perm x l).mem_iff.1 hb) with rfl | hb
      · simp only [leI, decide_eq_true_eq, decide_eq_false_iff_not] at hx ⊢
        omega
      · exact h.1 b hb

theorem sortZ_sorted : ∀ l, (sortZ l).Pairwise (fun a b => leI a b = true)
  | [] => List.Pairwise.nil
  | x :: l => insZ_sorted x _ (sortZ_sorted l)

theorem sortZ_eq {l l' : List Int} (h : l.Perm l') : l.mergeSort leI = sortZ l' := by
  have tr := leI_trans
  have to : ∀ a b : Int, (leI a b || leI b a) = true := fun a b => by simp only [leI, Bool.or_eq_true, decide_eq_true_eq]; omega
  refine List.Perm.eq_of_pairwise (le := fun a b => leI a b = true) (fun a b _ _ h1 h2 => ?_) (List.pairwise_mergeSort tr to l) (sortZ_sorted l') (((List.mergeSort_perm l leI).trans h).trans (sortZ_perm l').symm)
  simp only [leI, decide_eq_true_eq] at h1 h2
  omega

/-! ### the map, as the evaluator sees it -/

def keysSZ : List (AV × AV × Nat) → Option (List Int)
  | [] => some []
  | (k, _, _) :: l => match k with
    | .sc (.int .i64 b) => match keysSZ l with | some r => some (b :: r) | none => none
    | _ => none

def diffBZ : List Int → Bool
  | [] => true
  | x :: l => l.all (fun y => !(x == y)) && diffBZ l

def mapOkBZ (ks : List Int) (es : List (AV × AV × Nat)) (clock : Nat) : Bool :=
  Nat.ble es.length 1000 && (es.map (·.2.2)).all (fun b => Nat.blt b clock) && diffN (es.map (·.2.2)) && diffBZ ks && ks.all (fun k => (Lit.int .i64 k).wf)

theorem diffB_specZ : ∀ l, diffBZ l = true → l.Nodup
  | [], _ => List.nodup_nil
  | x :: l, h => by
    simp only [diffBZ, Bool.and_eq_true, List.all_eq_true] at h
    refine List.nodup_cons.2 ⟨fun hx => ?_, diffB_specZ l h.2⟩
    have := h.1 x hx
    simp at this

theorem keys_relZ {M : Mp} : ∀ {es : List (AV × AV × Nat)} {ces : List MapEntry} {ks : List Int}, keysSZ es = some ks → EsRel M es ces → ces.map (·.key) = ks.map encZ ∧ ces.map (·.born) = es.map (·.2.2) ∧ ces.length = es.length
  | [], ces, ks, h, r => by
    simp only [keysSZ, Option.some.injEq] at h
    simp only [EsRel] at r
    subst h; subst r
    simp
  | (k, v, b) :: l, ces, ks, h, r => by
    simp only [EsRel] at r
    obtain ⟨x, r', rfl, h1, h2, h3, h4⟩ := r
    simp only [keysSZ] at h
    split at h
    · rename_i s
      split at h
      · rename_i q hq
        simp only [Option.some.injEq] at h
        subst h
        obtain ⟨e1, e2, e3⟩ := keys_relZ hq h4
        simp only [Rel] at h1
        refine ⟨?_, by simp [e2, h3], by simp [e3]⟩
        simp only [List.map_cons, e1, h1, encZ]
      · cases h
    · cases h

/-- the contract, at a program: f sorts what the iterator g gives -/
structure SortedAtZ (P : Program) (f g : FuncId) : Prop where
  fn : ∃ fn, P.funcs[f]? = some fn ∧ fn.body.isSome = true ∧ fn.name ≠ "runtime.NumGoroutine"
  full : ∃ key, P.underlying key = some (.int .i64) ∧ ∀ (Bm b nn : Nat) (D0 : DataW Unit) (R : Value → Option (DataW Unit × List MemPlace)) (w : World), Bm < w.heap.size → w.cell? ⟨Bm, 0, none⟩ = some (.map (some b)) → w.ownsMap P key R b nn D0 →
    Maps.size D0 ≤ maxLen → Maps.size D0 * 8 ≤ 140737488355328 →
    Calls P f #[.func (.func g) #[] #[.pointer (some ⟨Bm, 0, none⟩)]] w fun e w' => ∃ (v : Value) (ss : List Int), e = .returned v ∧ ss.Perm (intKeys D0) ∧ w'.ownsRow w.heap.size key 1 v ss.length ((ss.mergeSort leI).map encZ) ∧ (v = .slice none 0 0 ↔ ss = []) ∧ Below w.heap.size w w'
  nil : ∀ (Bm : Nat) (w : World), Bm < w.heap.size → w.cell? ⟨Bm, 0, none⟩ = some (.map none) →
    Calls P f #[.func (.func g) #[] #[.pointer (some ⟨Bm, 0, none⟩)]] w fun e w' => e = .returned (.slice none 0 0) ∧ Below w.heap.size w w'

/-- what the call comes to -/
def sortedKZ (gs : List FuncId) (args : List AV) : EM AV :=
  match args with
  | [.fn (.func g) [] [.ptr b 0]] => guardE (gs.elem g) <| .look b fun bl => match bl with
    | .cells (x :: _) _ true => match x with
      | .mp n => .look n fun ml => match ml with
        | .amap es clock => withO (keysSZ es) fun ks => guardE (mapOkBZ ks es clock) <| match ks with
          | [] => .ret (.sc (.slice none 0 0))
          | _ :: _ => .alloc (.cells ((sortZ ks).map fun l => .sc (.int .i64 l)) 1 false) fun m => .ret (.slc m 0 ks.length none)
        | _ => .fail
      | .sc (.map none) => .ret (.sc (.slice none 0 0))
      | _ => .fail
    | _ => .fail
  | _ => .fail

def sortedSZ (gs : List FuncId) (args : List AV) (s : St) : Option (AV × St) := (sortedKZ gs args).run noCall s

theorem fr_sortedSZ (gs : List FuncId) (args : List AV) : Fr (sortedSZ gs args) := fr_run (call := noCall) (fun _ _ => fr_none) _

theorem encs_relZ (M : Mp) : ∀ l : List Int, RelL M (l.map fun l => AV.sc (.int .i64 l)) (l.map encZ)
  | [] => by simp [RelL]
  | x :: l => by
    simp only [List.map_cons, RelL, Rel]
    exact ⟨_, _, rfl, rfl, encs_relZ M l⟩

theorem sorted_okZ {P : Program} {f : FuncId} {gs : List FuncId} (hS : ∀ g, g ∈ gs → SortedAtZ P f g) (B0 : Nat) (w0 : World) {args : List AV} {s s' : St} {v : AV} (h : sortedSZ gs args s = some (v, s')) : s.nxt ≤ s'.nxt ∧
    ∀ (M : Mp) (w : World) (cargs : List Value), Inv B0 w0 M s.h w → RelL M args cargs → (∀ k, s.nxt ≤ k → k < s'.nxt → M.m k = none) →
      (∃ fn, P.funcs[f]? = some fn ∧ fn.body.isSome = true ∧ fn.name ≠ "runtime.NumGoroutine") ∧
      Calls P f ⟨cargs⟩ w fun e w' => ∃ cv M', e = .returned cv ∧ M.le M' ∧ (∀ n, M'.m n ≠ none → M.m n ≠ none ∨ (s.nxt ≤ n ∧ n < s'.nxt)) ∧ Inv B0 w0 M' s'.h w' ∧ Rel M' v cv := by
  unfold sortedSZ sortedKZ at h
  split at h
  · rename_i g b
    obtain ⟨hg, h⟩ := guardE_run h
    have hS := hS g (by simpa using hg)
    obtain ⟨bl, hb, h⟩ := look_run h
    split at h
    · rename_i x rest sz
      -- what every case has in common
      have hargs : ∀ {M : Mp} {w : World} {cargs : List Value}, Inv B0 w0 M s.h w → RelL M [AV.fn (.func g) [] [.ptr b 0]] cargs → ∃ zb cv, cargs = [.func (.func g) #[] #[.pointer (some ⟨zb, 0, none⟩)]] ∧ zb < w.heap.size ∧ w.cell? ⟨zb, 0, none⟩ = some cv ∧ Rel M x cv := by
        intro M w cargs I hr
        simp only [RelL, Rel] at hr
        obtain ⟨_, _, rfl, ⟨va, vb, rfl, rfl, ⟨p, q, rfl, ⟨z, hz, rfl⟩, rfl⟩⟩, rfl⟩ := hr
        obtain ⟨z', hz', hok⟩ := I.blk b _ hb
        rw [hz] at hz'; cases hz'
        obtain ⟨_, h2, h3, h4⟩ := hok
        obtain ⟨hK, hO⟩ := h3 rfl
        obtain ⟨⟨cv, hcv, hrel⟩, _⟩ := h4 0 (by rw [hK]; simp)
        rw [hO] at hcv
        exact ⟨z.B, cv, by rw [hO], (I.base b z hz).2, hcv, hrel x (by simp)⟩
      split at h
      · rename_i n
        obtain ⟨ml, hn, h⟩ := look_run h
        split at h
        · rename_i es clock
          obtain ⟨ks, hks, h⟩ := withO_run h
          obtain ⟨hok, h⟩ := guardE_run h
          simp only [mapOkBZ, Bool.and_eq_true, List.all_eq_true] at hok
          obtain ⟨⟨⟨⟨o1, o2⟩, o3⟩, o4⟩, o5⟩ := hok
          have o1 : es.length ≤ 1000 := Nat.le_of_ble_eq_true o1
          obtain ⟨key, hkey, full⟩ := hS.full
          have hcall : ∀ {M : Mp} {w : World} {cargs : List Value}, Inv B0 w0 M s.h w → RelL M [AV.fn (.func g) [] [.ptr b 0]] cargs →
              Calls P f ⟨cargs⟩ w fun e w' => ∃ (v : Value) (ss : List Int), e = .returned v ∧ ss.Perm ks ∧ w'.ownsRow w.heap.size key 1 v ss.length ((ss.mergeSort leI).map encZ) ∧ (v = .slice none 0 0 ↔ ss = []) ∧ Below w.heap.size w w' := by
            intro M w cargs I hr
            obtain ⟨zb, cv, rfl, hzb, hcell, hrel⟩ := hargs I hr
            simp only [Rel] at hrel
            obtain ⟨z, hz, rfl⟩ := hrel
            obtain ⟨z', hz', hO, hK, ces, hheap, hes⟩ := I.blk n _ hn
            rw [hz] at hz'; cases hz'
            obtain ⟨k1, k2, k3⟩ := keys_relZ hks hes
            have hreads : ∀ y ∈ ces.toList, ∃ kb, keyOf P key y.key = some (.int .i64 kb) ∧ y.key = encZ kb := by
              intro y hy
              have : y.key ∈ ks.map encZ := by rw [← k1]; exact List.mem_map_of_mem hy
              obtain ⟨kb, hkb, hke⟩ := List.mem_map.1 this
              refine ⟨kb, ?_, hke.symm⟩
              have hwf := o5 kb hkb
              rw [← hke]
              simp [keyOf, hkey, mapKey, encZ, hwf]
            have F : Fit (H := Unit) P key (fun _ => some (.nil, [])) ces clock := by
              refine ⟨?_, ⟨?_, ?_, ?_⟩, ?_⟩
              · have : 1000 ≤ maxLen := by decide
                rw [← Array.length_toList]; omega
              · intro y hy
                have : y.born ∈ es.map (·.2.2) := by rw [← k2]; exact List.mem_map_of_mem hy
                exact Nat.le_of_ble_eq_true (o2 _ this)
              · rw [k2]; exact diffN_spec _ o3
              · rw [k1]
                exact List.pairwise_map.2 ((diffB_specZ _ o4).imp fun hne e => hne (encZ_inj e))
              · intro y hy
                obtain ⟨kb, h1, _⟩ := hreads y hy
                exact ⟨(.int .i64 kb, .nil), by simp [rd, h1]⟩
            have hsize : Maps.size (DataW.map ((ces.toList.map (rg P key fun _ => some ((DataW.nil : DataW Unit), []))).foldr DataW.insert [])) = es.length := by
              simp only [Maps.size]
              rw [length_read]
              rw [← Array.length_toList]; exact k3
            refine (full zb z.B ces.size _ _ w hzb hcell ⟨ces, clock, hheap, F, Nat.le_refl _, rfl⟩ ?_ ?_).mono ?_
            · rw [hsize]; have : 1000 ≤ maxLen := by decide
              omega
            · rw [hsize]; omega
            · rintro e w' ⟨v, ss, rfl, hp, h2, h3, h4⟩
              refine ⟨v, ss, rfl, hp.trans ?_, h2, h3, h4⟩
              simp only [intKeys]
              refine ((WideShapes.sorted_perm _).map _).trans ?_
              have : (ces.toList.map (rg P key fun _ => some ((DataW.nil : DataW Unit), []))).map (fun p => Go.intOf p.1) = ks := by
                have e1 : (ces.toList.map (·.key)).map (fun k => match k with | .int _ b => b | _ => 0) = ks := by
                  rw [k1, List.map_map]
                  have : ∀ l : List Int, l.map ((fun k => match k with | Value.int _ b => b | _ => 0) ∘ encZ) = l := by
                    intro l
                    induction l with
                    | nil => rfl
                    | cons a l ih => simp only [List.map_cons, ih]; simp
                  exact this ks
                rw [← e1, List.map_map, List.map_map]
                refine List.map_congr_left fun y hy => ?_
                obtain ⟨kb, h1, h2⟩ := hreads y hy
                rw [h2] at h1
                simp only [encZ] at h1
                simp [rg, rd, h2, h1, Go.intOf]
              rw [this]
          split at h
          · -- no key
            obtain ⟨rfl, rfl⟩ := ret_run h
            refine ⟨Nat.le_refl _, fun M w cargs I hr _ => ⟨hS.fn, (hcall I hr).mono ?_⟩⟩
            rintro e w' ⟨v, ss, rfl, hp, _, hnil, hbel⟩
            have : ss = [] := List.perm_nil.1 hp
            rw [hnil.2 this]
            exact ⟨_, M, rfl, M.le_refl, fun _ h => .inl h, I.grow hbel, by simp only [Rel]⟩
          · -- some
            rename_i k0 kr _
            simp only [EM.run, Option.some.injEq, Prod.mk.injEq] at h
            obtain ⟨rfl, rfl⟩ := h
            refine ⟨by simp, fun M w cargs I hr hfresh => ⟨hS.fn, (hcall I hr).mono ?_⟩⟩
            rintro e w' ⟨v, ss, rfl, hp, hrow, hnil, hbel⟩
            have hne : ss ≠ [] := by
              intro e0; subst e0
              have := hp.length_eq
              simp at this
            have hlen : ss.length = (k0 :: kr).length := hp.length_eq
            have hfr : M.m s.nxt = none := hfresh s.nxt (Nat.le_refl _) (by simp)
            rcases hrow.2 with ⟨e0, _⟩ | ⟨g0, cap, cur, rfl, hbase, hg0, r1, r2, r3, r4⟩
            · exact absurd (hnil.1 e0) hne
            · have hglt : g0 < w'.heap.size := (Array.getElem?_eq_some_iff.1 hg0).1
              have hc : ∀ x o, x < w.heap.size → w'.cell? ⟨x, o, none⟩ = w.cell? ⟨x, o, none⟩ ∧ w'.frozen? ⟨x, o, none⟩ = w.frozen? ⟨x, o, none⟩ := fun x o hx => by
                constructor
                · unfold World.cell?; simp only [hbel.block x hx]
                · unfold World.frozen?; simp only [hbel.block x hx]
              rw [sortZ_eq hp] at r4
              have hcl : cur.toList.length = cap := by simpa using r3
              have I2 := I.replace (w' := w') s.nxt ⟨g0, 0, cap, 1⟩ (.cells ((sortZ (k0 :: kr)).map fun l => AV.sc (.int .i64 l)) 1 false) (.inl hfr) (Nat.le_trans I.room hbase) hglt hbel.size (I.below.trans (hbel.mono I.room))
                (by
                  refine ⟨rfl, ?_, fun e => (by cases e), fun j hj => ⟨?_, ?_⟩⟩
                  · simp only [List.length_map]; rw [(sortZ_perm _).length_eq, ← hlen]; exact r1
                  · simp only [Nat.zero_add]
                    have hj' : j < cur.toList.length := by rw [hcl]; exact hj
                    refine ⟨cur.toList[j], ?_, ?_⟩
                    · unfold World.cell?
                      simp only [hg0]
                      simp
                    · intro a ha
                      have hrl := encs_relZ (M.lay s.nxt ⟨g0, 0, cap, 1⟩) (sortZ (k0 :: kr))
                      obtain ⟨y, hy, hry⟩ := hrl.get j a ha
                      rw [← r4] at hy
                      rw [List.getElem?_take] at hy
                      split at hy
                      · rw [List.getElem?_eq_getElem hj'] at hy
                        cases hy
                        exact hry
                      · cases hy
                  · simp only [Nat.zero_add]
                    unfold World.frozen?
                    simp only [hg0]
                    simp)
                (fun n' b' z' _ hb' hz' x o h1 h2 => by
                  have := I.base n' z' hz'
                  have e1 := h1.1; have e2 := h2.1
                  simp only at e1
                  omega)
                (fun x o hx => by
                  cases e : M.im x o with
                  | none => rfl
                  | some v => have := (I.im x o v e).2; have := hx.1; simp only at this; omega)
                (fun x o hx _ => hc x o hx)
                (fun x ob hx _ _ => by
                  have hlt : x < w.heap.size := (Array.getElem?_eq_some_iff.1 hx).1
                  rw [hbel.block x hlt]; exact hx)
              refine ⟨_, _, rfl, M.le_lay s.nxt _ (.inl hfr), ?_, I2, ?_⟩
              · intro k hk
                by_cases e : k = s.nxt
                · right; simp only; omega
                · left; rw [Mp.lay_ne M _ e] at hk; exact hk
              · simp only [Rel, slcRel]
                refine ⟨_, Mp.lay_self _ _ _, _, _, by rw [hlen], by rw [← hlen]; exact r1, .inr rfl, ?_⟩
                simp
        · exact (fail_run h).elim
      · -- the nil map
        obtain ⟨rfl, rfl⟩ := ret_run h
        refine ⟨Nat.le_refl _, fun M w cargs I hr _ => ⟨hS.fn, ?_⟩⟩
        obtain ⟨zb, cv, rfl, hzb, hcell, hrel⟩ := hargs I hr
        simp only [Rel] at hrel
        subst hrel
        refine (hS.nil zb w hzb hcell).mono ?_
        rintro e w' ⟨rfl, hbel⟩
        exact ⟨_, M, rfl, M.le_refl, fun _ h => .inl h, I.grow hbel, by simp only [Rel]⟩
      · exact (fail_run h).elim
    · exact (fail_run h).elim
  · exact (fail_run h).elim
end Go.Ab
