/- slices.Sorted(maps.Keys(m)), as the evaluator tells it, held against its contract. -/
import Derived.Test.YtgegheifegnflaaGreatDoorEvL
import Derived.Sort.KeysCollected
import Derived.Maps.OwnSet
import Derived.Laws.AppendOwn
namespace Go.Ab
open Go.RowKit
open Go.Proofs (encStr)
open Go.WideElems (Fit rd rg)

/-! ### the sort -/

def byteLe : List UInt8 → List UInt8 → Bool
  | [], _ => true
  | _ :: _, [] => false
  | a :: l, b :: m => Nat.blt a.toNat b.toNat || (a.toNat.beq b.toNat && byteLe l m)

theorem byteLe_eq : ∀ x y : List UInt8, byteLe x y = leB x y
  | [], y => by simp [byteLe, leB]
  | a :: l, [] => by simp [byteLe, leB]
  | a :: l, b :: m => by
    simp only [byteLe, byteLe_eq l m, leB]
    have h1 : Nat.blt a.toNat b.toNat = decide (a < b) := by
      rw [Bool.eq_iff_iff, decide_eq_true_eq, UInt8.lt_iff_toNat_lt]
      exact ⟨fun h => Nat.le_of_ble_eq_true h, fun h => Nat.ble_eq_true_of_le h⟩
    have h2 : a.toNat.beq b.toNat = decide (a = b) := by
      rw [Bool.eq_iff_iff, decide_eq_true_eq, ← UInt8.toNat_inj]
      exact ⟨fun h => Nat.eq_of_beq_eq_true h, fun h => by rw [h]; exact Nat.beq_refl _⟩
    rw [h1, h2, Bool.eq_iff_iff]
    simp [List.cons_le_cons_iff]

def insB (x : List UInt8) : List (List UInt8) → List (List UInt8)
  | [] => [x]
  | y :: l => match byteLe x y with | true => x :: y :: l | false => y :: insB x l

def sortB : List (List UInt8) → List (List UInt8)
  | [] => []
  | x :: l => insB x (sortB l)

theorem insB_perm (x : List UInt8) : ∀ l, (insB x l).Perm (x :: l)
  | [] => .refl _
  | y :: l => by
    simp only [insB]
    split
    · exact .refl _
    · exact ((insB_perm x l).cons y).trans (.swap x y l)

theorem sortB_perm : ∀ l, (sortB l).Perm l
  | [] => .refl _
  | x :: l => (insB_perm x _).trans ((sortB_perm l).cons x)

theorem leB_trans (a b c : List UInt8) (h1 : leB a b = true) (h2 : leB b c = true) : leB a c = true := by
  simp only [leB, decide_eq_true_eq] at *; exact List.le_trans h1 h2

theorem insB_sorted (x : List UInt8) : ∀ l, l.Pairwise (fun a b => leB a b = true) → (insB x l).Pairwise (fun a b => leB a b = true)
  | [], _ => by simp [insB]
  | y :: l, h => by
    simp only [insB, byteLe_eq]
    rw [List.pairwise_cons] at h
    split
    · rename_i hx
      refine List.pairwise_cons.2 ⟨fun b hb => ?_, List.pairwise_cons.2 h⟩
      rcases List.mem_cons.1 hb with rfl | hb
      · exact hx
      · exact leB_trans _ _ _ hx (h.1 b hb)
    · rename_i hx
      refine List.pairwise_cons.2 ⟨fun b hb => ?_, insB_sorted x l h.2⟩
      rcases List.mem_cons.1 ((insB_perm x l).mem_iff.1 hb) with rfl | hb
      · have := List.le_total b y
        simp only [leB, decide_eq_true_eq, decide_eq_false_iff_not] at hx ⊢
        exact this.resolve_left hx
      · exact h.1 b hb

theorem sortB_sorted : ∀ l, (sortB l).Pairwise (fun a b => leB a b = true)
  | [] => List.Pairwise.nil
  | x :: l => insB_sorted x _ (sortB_sorted l)

theorem sortB_eq {l l' : List (List UInt8)} (h : l.Perm l') : l.mergeSort leB = sortB l' := by
  have tr := leB_trans
  have to : ∀ a b : List UInt8, (leB a b || leB b a) = true := fun a b => by simp only [leB, Bool.or_eq_true, decide_eq_true_eq]; exact List.le_total a b
  refine List.Perm.eq_of_pairwise (le := fun a b => leB a b = true) (fun a b _ _ h1 h2 => ?_) (List.pairwise_mergeSort tr to l) (sortB_sorted l') (((List.mergeSort_perm l leB).trans h).trans (sortB_perm l').symm)
  simp only [leB, decide_eq_true_eq] at h1 h2
  exact List.le_antisymm h1 h2

/-! ### the map, as the evaluator sees it -/

def keysS : List (AV × AV × Nat) → Option (List (List UInt8))
  | [] => some []
  | (k, _, _) :: l => match k with
    | .sc (.string b) => match keysS l with | some r => some (b.data.toList :: r) | none => none
    | _ => none

def diffB : List (List UInt8) → Bool
  | [] => true
  | x :: l => l.all (fun y => !(byteLe x y && byteLe y x)) && diffB l

def diffN : List Nat → Bool
  | [] => true
  | x :: l => l.all (fun y => !(x.beq y)) && diffN l

def mapOkB (ks : List (List UInt8)) (es : List (AV × AV × Nat)) (clock : Nat) : Bool :=
  Nat.ble es.length 1000 && (es.map (·.2.2)).all (fun b => Nat.blt b clock) && diffN (es.map (·.2.2)) && diffB ks && ks.all (fun k => Nat.ble k.length 1000)

theorem diffN_spec : ∀ l, diffN l = true → l.Nodup
  | [], _ => List.nodup_nil
  | x :: l, h => by
    simp only [diffN, Bool.and_eq_true, List.all_eq_true] at h
    refine List.nodup_cons.2 ⟨fun hx => ?_, diffN_spec l h.2⟩
    have := h.1 x hx
    simp at this

theorem diffB_spec : ∀ l, diffB l = true → l.Nodup
  | [], _ => List.nodup_nil
  | x :: l, h => by
    simp only [diffB, Bool.and_eq_true, List.all_eq_true] at h
    refine List.nodup_cons.2 ⟨fun hx => ?_, diffB_spec l h.2⟩
    have := h.1 x hx
    rw [byteLe_eq] at this
    have hr : leB x x = true := by simp [leB]
    simp [hr] at this

theorem keys_rel {M : Mp} : ∀ {es : List (AV × AV × Nat)} {ces : List MapEntry} {ks : List (List UInt8)}, keysS es = some ks → EsRel M es ces → ces.map (·.key) = ks.map encStr ∧ ces.map (·.born) = es.map (·.2.2) ∧ ces.length = es.length
  | [], ces, ks, h, r => by
    simp only [keysS, Option.some.injEq] at h
    simp only [EsRel] at r
    subst h; subst r
    simp
  | (k, v, b) :: l, ces, ks, h, r => by
    simp only [EsRel] at r
    obtain ⟨x, r', rfl, h1, h2, h3, h4⟩ := r
    simp only [keysS] at h
    split at h
    · rename_i s
      split at h
      · rename_i q hq
        simp only [Option.some.injEq] at h
        subst h
        obtain ⟨e1, e2, e3⟩ := keys_rel hq h4
        simp only [Rel] at h1
        refine ⟨?_, by simp [e2, h3], by simp [e3]⟩
        simp only [List.map_cons, e1, h1, encStr]
      · cases h
    · cases h

/-- the worlds agree on all that was there -/
theorem Inv.grow {B0 : Nat} {w0 : World} {M : Mp} {h : T Blk} {w w' : World} (I : Inv B0 w0 M h w) (hb : Below w.heap.size w w') : Inv B0 w0 M h w' := by
  have hc : ∀ x o, x < w.heap.size → w'.cell? ⟨x, o, none⟩ = w.cell? ⟨x, o, none⟩ ∧ w'.frozen? ⟨x, o, none⟩ = w.frozen? ⟨x, o, none⟩ := fun x o hx => by
    constructor
    · unfold World.cell?; simp only [hb.block x hx]
    · unfold World.frozen?; simp only [hb.block x hx]
  refine ⟨I.below.trans (hb.mono I.room), Nat.le_trans I.room hb.size, fun n z e => ⟨(I.base n z e).1, Nat.lt_of_lt_of_le (I.base n z e).2 hb.size⟩, fun n b e => ?_, I.apart, fun b o v e => ?_, I.own⟩
  · obtain ⟨z, hz, hok⟩ := I.blk n b e
    have hlt := (I.base n z hz).2
    exact ⟨z, hz, hok.mono M.le_refl (fun o _ _ => hc z.B o hlt) (fun ob ho _ _ => by rw [hb.block _ hlt]; exact ho)⟩
  · obtain ⟨h1, h2⟩ := I.im b o v e
    exact ⟨by rw [(hc b o h2).1]; exact h1, Nat.lt_of_lt_of_le h2 hb.size⟩

/-- the contract, at a program: f sorts what the iterator g gives -/
structure SortedAt (P : Program) (f g : FuncId) : Prop where
  fn : ∃ fn, P.funcs[f]? = some fn ∧ fn.body.isSome = true ∧ fn.name ≠ "runtime.NumGoroutine"
  full : ∃ key, P.underlying key = some .string ∧ ∀ (Bm b nn : Nat) (D0 : DataW Unit) (R : Value → Option (DataW Unit × List MemPlace)) (w : World), Bm < w.heap.size → w.cell? ⟨Bm, 0, none⟩ = some (.map (some b)) → w.ownsMap P key R b nn D0 →
    Maps.size D0 ≤ maxLen → Maps.size D0 * 16 ≤ 140737488355328 →
    Calls P f #[.func (.func g) #[] #[.pointer (some ⟨Bm, 0, none⟩)]] w fun e w' => ∃ (v : Value) (ss : List (List UInt8)), e = .returned v ∧ ss.Perm (strKeys D0) ∧ w'.ownsRow w.heap.size key 1 v ss.length ((ss.mergeSort leB).map encStr) ∧ (v = .slice none 0 0 ↔ ss = []) ∧ Below w.heap.size w w'
  nil : ∀ (Bm : Nat) (w : World), Bm < w.heap.size → w.cell? ⟨Bm, 0, none⟩ = some (.map none) →
    Calls P f #[.func (.func g) #[] #[.pointer (some ⟨Bm, 0, none⟩)]] w fun e w' => e = .returned (.slice none 0 0) ∧ Below w.heap.size w w'

/-- what the call comes to -/
def sortedK (gs : List FuncId) (args : List AV) : EM AV :=
  match args with
  | [.fn (.func g) [] [.ptr b 0]] => guardE (gs.elem g) <| .look b fun bl => match bl with
    | .cells (x :: _) _ true => match x with
      | .mp n => .look n fun ml => match ml with
        | .amap es clock => withO (keysS es) fun ks => guardE (mapOkB ks es clock) <| match ks with
          | [] => .ret (.sc (.slice none 0 0))
          | _ :: _ => .alloc (.cells ((sortB ks).map fun l => .sc (.string ⟨l.toArray⟩)) 1 false) fun m => .ret (.slc m 0 ks.length none)
        | _ => .fail
      | .sc (.map none) => .ret (.sc (.slice none 0 0))
      | _ => .fail
    | _ => .fail
  | _ => .fail

def noCall : CallF := fun _ _ _ => none

def sortedS (gs : List FuncId) (args : List AV) (s : St) : Option (AV × St) := (sortedK gs args).run noCall s

theorem fr_sortedS (gs : List FuncId) (args : List AV) : Fr (sortedS gs args) := fr_run (call := noCall) (fun _ _ => fr_none) _

theorem encs_rel (M : Mp) : ∀ l : List (List UInt8), RelL M (l.map fun l => AV.sc (.string ⟨l.toArray⟩)) (l.map encStr)
  | [] => by simp [RelL]
  | x :: l => by
    simp only [List.map_cons, RelL, Rel]
    exact ⟨_, _, rfl, rfl, encs_rel M l⟩

theorem sorted_ok {P : Program} {f : FuncId} {gs : List FuncId} (hS : ∀ g, g ∈ gs → SortedAt P f g) (B0 : Nat) (w0 : World) {args : List AV} {s s' : St} {v : AV} (h : sortedS gs args s = some (v, s')) : s.nxt ≤ s'.nxt ∧
    ∀ (M : Mp) (w : World) (cargs : List Value), Inv B0 w0 M s.h w → RelL M args cargs → (∀ k, s.nxt ≤ k → k < s'.nxt → M.m k = none) →
      (∃ fn, P.funcs[f]? = some fn ∧ fn.body.isSome = true ∧ fn.name ≠ "runtime.NumGoroutine") ∧
      Calls P f ⟨cargs⟩ w fun e w' => ∃ cv M', e = .returned cv ∧ M.le M' ∧ (∀ n, M'.m n ≠ none → M.m n ≠ none ∨ (s.nxt ≤ n ∧ n < s'.nxt)) ∧ Inv B0 w0 M' s'.h w' ∧ Rel M' v cv := by
  unfold sortedS sortedK at h
  split at h
  · rename_i g b
    obtain ⟨hg, h⟩ := guardE_run h
    have hS := hS g (by simpa using hg)
    obtain ⟨bl, hb, h⟩ := look_run h
    split at h
    · rename_i x rest sz
      -- what every case has in common
      have hargs : ∀ {M : Mp} {w : World} {cargs : List Value}, Inv B0 w0 M s.h w → RelL M [AV.fn (.func g) [] [.ptr b 0]] cargs → ∃ zb cv, cargs = [.func (.func g) #[] #[.pointer (some ⟨zb, 0, none⟩)]] ∧ zb < w.heap.size ∧ w.cell? ⟨zb, 0, none⟩ = some cv ∧ Rel M x cv := by
        intro M w cargs I hr
        simp only [RelL, Rel] at hr
        obtain ⟨_, _, rfl, ⟨va, vb, rfl, rfl, ⟨p, q, rfl, ⟨z, hz, rfl⟩, rfl⟩⟩, rfl⟩ := hr
        obtain ⟨z', hz', hok⟩ := I.blk b _ hb
        rw [hz] at hz'; cases hz'
        obtain ⟨_, h2, h3, h4⟩ := hok
        obtain ⟨hK, hO⟩ := h3 rfl
        obtain ⟨⟨cv, hcv, hrel⟩, _⟩ := h4 0 (by rw [hK]; simp)
        rw [hO] at hcv
        exact ⟨z.B, cv, by rw [hO], (I.base b z hz).2, hcv, hrel x (by simp)⟩
      split at h
      · rename_i n
        obtain ⟨ml, hn, h⟩ := look_run h
        split at h
        · rename_i es clock
          obtain ⟨ks, hks, h⟩ := withO_run h
          obtain ⟨hok, h⟩ := guardE_run h
          simp only [mapOkB, Bool.and_eq_true, List.all_eq_true] at hok
          obtain ⟨⟨⟨⟨o1, o2⟩, o3⟩, o4⟩, o5⟩ := hok
          have o1 : es.length ≤ 1000 := Nat.le_of_ble_eq_true o1
          obtain ⟨key, hkey, full⟩ := hS.full
          have hcall : ∀ {M : Mp} {w : World} {cargs : List Value}, Inv B0 w0 M s.h w → RelL M [AV.fn (.func g) [] [.ptr b 0]] cargs →
              Calls P f ⟨cargs⟩ w fun e w' => ∃ (v : Value) (ss : List (List UInt8)), e = .returned v ∧ ss.Perm ks ∧ w'.ownsRow w.heap.size key 1 v ss.length ((ss.mergeSort leB).map encStr) ∧ (v = .slice none 0 0 ↔ ss = []) ∧ Below w.heap.size w w' := by
            intro M w cargs I hr
            obtain ⟨zb, cv, rfl, hzb, hcell, hrel⟩ := hargs I hr
            simp only [Rel] at hrel
            obtain ⟨z, hz, rfl⟩ := hrel
            obtain ⟨z', hz', hO, hK, ces, hheap, hes⟩ := I.blk n _ hn
            rw [hz] at hz'; cases hz'
            obtain ⟨k1, k2, k3⟩ := keys_rel hks hes
            have hreads : ∀ y ∈ ces.toList, ∃ kb, keyOf P key y.key = some (.string kb) ∧ y.key = encStr kb := by
              intro y hy
              have : y.key ∈ ks.map encStr := by rw [← k1]; exact List.mem_map_of_mem hy
              obtain ⟨kb, hkb, hke⟩ := List.mem_map.1 this
              refine ⟨kb, ?_, hke.symm⟩
              have hlen := Nat.le_of_ble_eq_true (o5 kb hkb)
              rw [← hke]
              have hsz : (⟨kb.toArray⟩ : ByteArray).size ≤ maxLen := by
                show kb.toArray.size ≤ maxLen
                simp only [List.size_toArray]
                have : 1000 ≤ maxLen := by decide
                omega
              simp [keyOf, hkey, mapKey, encStr, hsz]
            have F : Fit (H := Unit) P key (fun _ => some (.nil, [])) ces clock := by
              refine ⟨?_, ⟨?_, ?_, ?_⟩, ?_⟩
              · have : 1000 ≤ maxLen := by decide
                rw [← Array.length_toList]; omega
              · intro y hy
                have : y.born ∈ es.map (·.2.2) := by rw [← k2]; exact List.mem_map_of_mem hy
                exact Nat.le_of_ble_eq_true (o2 _ this)
              · rw [k2]; exact diffN_spec _ o3
              · rw [k1]
                exact List.pairwise_map.2 ((diffB_spec _ o4).imp fun hne e => hne (encStr_inj e))
              · intro y hy
                obtain ⟨kb, h1, _⟩ := hreads y hy
                exact ⟨(.string kb, .nil), by simp [rd, h1]⟩
            have hsize : Maps.size (DataW.map ((ces.toList.map (rg P key fun _ => some ((DataW.nil : DataW Unit), []))).foldr DataW.insert [])) = es.length := by
              simp only [Maps.size]
              rw [length_read]
              rw [← Array.length_toList]; exact k3
            refine (full zb z.B ces.size _ _ w hzb hcell ⟨ces, clock, hheap, F, Nat.le_refl _, rfl⟩ ?_ ?_).mono ?_
            · rw [hsize]; have : 1000 ≤ maxLen := by decide
              omega
            · rw [hsize]; omega
            · rintro e w' ⟨v, ss, rfl, hp, h2, h3, h4⟩
              refine ⟨v, ss, rfl, hp.trans ?_, h2, h3, h4⟩
              simp only [strKeys]
              refine ((WideShapes.sorted_perm _).map _).trans ?_
              have : (ces.toList.map (rg P key fun _ => some ((DataW.nil : DataW Unit), []))).map (fun p => strOf p.1) = ks := by
                have e1 : (ces.toList.map (·.key)).map (fun k => match k with | .string b => b.data.toList | _ => []) = ks := by
                  rw [k1, List.map_map]
                  have : ∀ l : List (List UInt8), l.map ((fun k => match k with | Value.string b => b.data.toList | _ => []) ∘ encStr) = l := by
                    intro l
                    induction l with
                    | nil => rfl
                    | cons a l ih => simp only [List.map_cons, ih]; simp
                  exact this ks
                rw [← e1, List.map_map, List.map_map]
                refine List.map_congr_left fun y hy => ?_
                obtain ⟨kb, h1, h2⟩ := hreads y hy
                rw [h2] at h1
                simp only [encStr] at h1
                simp [rg, rd, h2, h1, strOf]
              rw [this]
          split at h
          · -- no key
            obtain ⟨rfl, rfl⟩ := ret_run h
            refine ⟨Nat.le_refl _, fun M w cargs I hr _ => ⟨hS.fn, (hcall I hr).mono ?_⟩⟩
            rintro e w' ⟨v, ss, rfl, hp, _, hnil, hbel⟩
            have : ss = [] := List.perm_nil.1 hp
            rw [hnil.2 this]
            exact ⟨_, M, rfl, M.le_refl, fun _ h => .inl h, I.grow hbel, by simp only [Rel]⟩
          · -- some
            rename_i k0 kr _
            simp only [EM.run, Option.some.injEq, Prod.mk.injEq] at h
            obtain ⟨rfl, rfl⟩ := h
            refine ⟨by simp, fun M w cargs I hr hfresh => ⟨hS.fn, (hcall I hr).mono ?_⟩⟩
            rintro e w' ⟨v, ss, rfl, hp, hrow, hnil, hbel⟩
            have hne : ss ≠ [] := by
              intro e0; subst e0
              have := hp.length_eq
              simp at this
            have hlen : ss.length = (k0 :: kr).length := hp.length_eq
            have hfr : M.m s.nxt = none := hfresh s.nxt (Nat.le_refl _) (by simp)
            rcases hrow.2 with ⟨e0, _⟩ | ⟨g0, cap, cur, rfl, hbase, hg0, r1, r2, r3, r4⟩
            · exact absurd (hnil.1 e0) hne
            · have hglt : g0 < w'.heap.size := (Array.getElem?_eq_some_iff.1 hg0).1
              have hc : ∀ x o, x < w.heap.size → w'.cell? ⟨x, o, none⟩ = w.cell? ⟨x, o, none⟩ ∧ w'.frozen? ⟨x, o, none⟩ = w.frozen? ⟨x, o, none⟩ := fun x o hx => by
                constructor
                · unfold World.cell?; simp only [hbel.block x hx]
                · unfold World.frozen?; simp only [hbel.block x hx]
              rw [sortB_eq hp] at r4
              have hcl : cur.toList.length = cap := by simpa using r3
              have I2 := I.replace (w' := w') s.nxt ⟨g0, 0, cap, 1⟩ (.cells ((sortB (k0 :: kr)).map fun l => AV.sc (.string ⟨l.toArray⟩)) 1 false) (.inl hfr) (Nat.le_trans I.room hbase) hglt hbel.size (I.below.trans (hbel.mono I.room))
                (by
                  refine ⟨rfl, ?_, fun e => (by cases e), fun j hj => ⟨?_, ?_⟩⟩
                  · simp only [List.length_map]; rw [(sortB_perm _).length_eq, ← hlen]; exact r1
                  · simp only [Nat.zero_add]
                    have hj' : j < cur.toList.length := by rw [hcl]; exact hj
                    refine ⟨cur.toList[j], ?_, ?_⟩
                    · unfold World.cell?
                      simp only [hg0]
                      simp
                    · intro a ha
                      have hrl := encs_rel (M.lay s.nxt ⟨g0, 0, cap, 1⟩) (sortB (k0 :: kr))
                      obtain ⟨y, hy, hry⟩ := hrl.get j a ha
                      rw [← r4] at hy
                      rw [List.getElem?_take] at hy
                      split at hy
                      · rw [List.getElem?_eq_getElem hj'] at hy
                        cases hy
                        exact hry
                      · cases hy
                  · simp only [Nat.zero_add]
                    unfold World.frozen?
                    simp only [hg0]
                    simp)
                (fun n' b' z' _ hb' hz' x o h1 h2 => by
                  have := I.base n' z' hz'
                  have e1 := h1.1; have e2 := h2.1
                  simp only at e1
                  omega)
                (fun x o hx => by
                  cases e : M.im x o with
                  | none => rfl
                  | some v => have := (I.im x o v e).2; have := hx.1; simp only at this; omega)
                (fun x o hx _ => hc x o hx)
                (fun x ob hx _ _ => by
                  have hlt : x < w.heap.size := (Array.getElem?_eq_some_iff.1 hx).1
                  rw [hbel.block x hlt]; exact hx)
              refine ⟨_, _, rfl, M.le_lay s.nxt _ (.inl hfr), ?_, I2, ?_⟩
              · intro k hk
                by_cases e : k = s.nxt
                · right; simp only; omega
                · left; rw [Mp.lay_ne M _ e] at hk; exact hk
              · simp only [Rel, slcRel]
                refine ⟨_, Mp.lay_self _ _ _, _, _, by rw [hlen], by rw [← hlen]; exact r1, .inr rfl, ?_⟩
                simp
        · exact (fail_run h).elim
      · -- the nil map
        obtain ⟨rfl, rfl⟩ := ret_run h
        refine ⟨Nat.le_refl _, fun M w cargs I hr _ => ⟨hS.fn, ?_⟩⟩
        obtain ⟨zb, cv, rfl, hzb, hcell, hrel⟩ := hargs I hr
        simp only [Rel] at hrel
        subst hrel
        refine (hS.nil zb w hzb hcell).mono ?_
        rintro e w' ⟨rfl, hbel⟩
        exact ⟨_, M, rfl, M.le_refl, fun _ h => .inl h, I.grow hbel, by simp only [Rel]⟩
      · exact (fail_run h).elim
    · exact (fail_run h).elim
  · exact (fail_run h).elim
end Go.Ab
