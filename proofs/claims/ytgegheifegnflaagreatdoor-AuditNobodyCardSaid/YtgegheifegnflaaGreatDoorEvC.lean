/- The abstract evaluator: how a heap's meaning is kept while memory is made and written. -/
import Derived.Test.YtgegheifegnflaaGreatDoorEvB
import Derived.Laws.IdiomCopy
import Derived.Laws.Append
namespace Go.Ab
open Go.RowKit

/-- M with the name n laid at z -/
def Mp.lay (M : Mp) (n : Nat) (z : Zn) : Mp := { M with m := fun k => if k = n then some z else M.m k }

theorem Mp.lay_self (M : Mp) (n : Nat) (z : Zn) : (M.lay n z).m n = some z := by simp [Mp.lay]
theorem Mp.lay_ne (M : Mp) {n k : Nat} (z : Zn) (h : k ≠ n) : (M.lay n z).m k = M.m k := by simp [Mp.lay, h]
theorem Mp.le_lay (M : Mp) (n : Nat) (z : Zn) (h : M.m n = none ∨ M.m n = some z) : M.le (M.lay n z) := by
  refine ⟨fun k y e => ?_, fun _ _ _ e => e⟩
  by_cases hk : k = n
  · subst hk
    rcases h with h | h
    · rw [h] at e; cases e
    · rw [h] at e; simp [Mp.lay]; exact Option.some.inj e
  · rw [Mp.lay_ne M z hk]; exact e

theorem BlkOk.mono {M M' : Mp} {z : Zn} {w w' : World} {b : Blk} (hle : M.le M') (h : BlkOk M z w b)
    (hag : ∀ o, z.O ≤ o → o < z.O + z.K → w'.cell? ⟨z.B, o, none⟩ = w.cell? ⟨z.B, o, none⟩ ∧ w'.frozen? ⟨z.B, o, none⟩ = w.frozen? ⟨z.B, o, none⟩)
    (hob : ∀ ob, w.heap[z.B]? = some ob → (∀ c e f, ob ≠ .cells c e f) → z.has z.B 0 → w'.heap[z.B]? = some ob) : BlkOk M' z w' b := by
  cases b with
  | cells c sz ex =>
    obtain ⟨h1, h2, h3, h4⟩ := h
    refine ⟨h1, h2, h3, fun j hj => ?_⟩
    obtain ⟨⟨v, hv, hr⟩, hf⟩ := h4 j hj
    obtain ⟨e1, e2⟩ := hag (z.O + j) (by omega) (by omega)
    exact ⟨⟨v, by rw [e1]; exact hv, fun a ha => Rel.mono hle _ _ (hr a ha)⟩, by rw [e2]; exact hf⟩
  | amap es clock =>
    obtain ⟨h1, h2, ces, h3, h4⟩ := h
    exact ⟨h1, h2, ces, hob _ h3 (by simp) ⟨rfl, by omega, by omega⟩, EsRel.mono hle _ _ h4⟩
  | siter s pos =>
    obtain ⟨h1, h2, h3⟩ := h
    exact ⟨h1, h2, hob _ h3 (by simp) ⟨rfl, by omega, by omega⟩⟩

/-- one name is laid, or its block is turned: nothing outside its zone turns -/
theorem Inv.replace {B0 : Nat} {w0 : World} {M : Mp} {h : T Blk} {w w' : World} (I : Inv B0 w0 M h w) (n : Nat) (z : Zn) (b : Blk)
    (hn : M.m n = none ∨ M.m n = some z) (hb0 : B0 ≤ z.B) (hz : z.B < w'.heap.size) (hsize : w.heap.size ≤ w'.heap.size) (hbel : Below B0 w0 w')
    (hok : BlkOk (M.lay n z) z w' b)
    (hap : ∀ n' b' z', n' ≠ n → h.get n' = some b' → M.m n' = some z' → ∀ x o, z.has x o → ¬ z'.has x o)
    (hown : ∀ x o, z.has x o → M.im x o = none)
    (hag : ∀ x o, x < w.heap.size → ¬ z.has x o → w'.cell? ⟨x, o, none⟩ = w.cell? ⟨x, o, none⟩ ∧ w'.frozen? ⟨x, o, none⟩ = w.frozen? ⟨x, o, none⟩)
    (hobj : ∀ x ob, w.heap[x]? = some ob → (∀ c e f, ob ≠ .cells c e f) → ¬ z.has x 0 → w'.heap[x]? = some ob) :
    Inv B0 w0 (M.lay n z) (h.set n (some b)) w' := by
  have hle := M.le_lay n z hn
  refine ⟨hbel, by have := I.room; omega, ?_, ?_, ?_, ?_, ?_⟩
  · intro k y hk
    by_cases e : k = n
    · subst e; rw [Mp.lay_self] at hk; cases hk; exact ⟨hb0, hz⟩
    · rw [Mp.lay_ne M z e] at hk
      have := I.base k y hk
      exact ⟨this.1, by omega⟩
  · intro k bk hk
    by_cases e : k = n
    · subst e; rw [T.get_set_self] at hk; cases hk
      exact ⟨z, Mp.lay_self M k z, hok⟩
    · rw [T.get_set_ne _ _ e] at hk
      obtain ⟨y, hy, hbk⟩ := I.blk k bk hk
      have hyb := I.base k y hy
      have hnot := hap k bk y e hk hy
      refine ⟨y, by rw [Mp.lay_ne M z e]; exact hy, hbk.mono hle (fun o h1 h2 => hag _ _ hyb.2 fun hz' => hnot _ _ hz' ⟨rfl, h1, h2⟩) (fun ob h1 h2 h3 => hobj _ _ h1 h2 fun hz' => hnot _ _ hz' h3)⟩
  · intro k k' bk bk' y y' hne hk hk' hy hy'
    by_cases e : k = n
    · subst e
      rw [Mp.lay_self] at hy; cases hy
      have e' : k' ≠ k := fun h => hne h.symm
      rw [T.get_set_ne _ _ e'] at hk'
      rw [Mp.lay_ne M _ e'] at hy'
      exact hap k' bk' y' e' hk' hy'
    · rw [T.get_set_ne _ _ e] at hk
      rw [Mp.lay_ne M _ e] at hy
      by_cases e' : k' = n
      · subst e'
        rw [Mp.lay_self] at hy'; cases hy'
        intro x o h1 h2
        exact hap k bk y e hk hy x o h2 h1
      · rw [T.get_set_ne _ _ e'] at hk'
        rw [Mp.lay_ne M _ e'] at hy'
        exact I.apart k k' bk bk' y y' hne hk hk' hy hy'
  · intro x o v hv
    have hv' : M.im x o = some v := hv
    obtain ⟨e1, e2⟩ := I.im x o v hv'
    have hnz : ¬ z.has x o := fun hz' => by have := hown x o hz'; rw [this] at hv'; cases hv'
    exact ⟨by rw [(hag x o e2 hnz).1]; exact e1, by omega⟩
  · intro k bk y hk hy x o hx
    show M.im x o = none
    by_cases e : k = n
    · subst e; rw [Mp.lay_self] at hy; cases hy; exact hown x o hx
    · rw [T.get_set_ne _ _ e] at hk
      rw [Mp.lay_ne M _ e] at hy
      exact I.own k bk y hk hy x o hx

theorem Inv.drop {B0 : Nat} {w0 : World} {M : Mp} {h : T Blk} {w : World} (I : Inv B0 w0 M h w) (n : Nat) : Inv B0 w0 M (h.set n none) w := by
  have key : ∀ {k : Nat} {b : Blk}, (h.set n none).get k = some b → h.get k = some b := by
    intro k b hk
    rw [T.get_set] at hk
    split at hk
    · cases hk
    · exact hk
  exact ⟨I.below, I.room, I.base, fun k b hk => I.blk k b (key hk), fun k k' b b' z z' hne hk hk' => I.apart k k' b b' z z' hne (key hk) (key hk'), I.im, fun k b z hk => I.own k b z (key hk)⟩

/-- the heap may be forgotten in part, and spelled otherwise -/
theorem Inv.sub {B0 : Nat} {w0 : World} {M : Mp} {h h' : T Blk} {w : World} (I : Inv B0 w0 M h w) (hs : ∀ n b, h'.get n = some b → h.get n = some b) : Inv B0 w0 M h' w :=
  ⟨I.below, I.room, I.base, fun k b hk => I.blk k b (hs _ _ hk), fun k k' b b' z z' hne hk hk' => I.apart k k' b b' z z' hne (hs _ _ hk) (hs _ _ hk'), I.im, fun k b z hk => I.own k b z (hs _ _ hk)⟩

theorem Inv.drew {B0 : Nat} {w0 : World} {M : Mp} {h : T Blk} {w : World} (I : Inv B0 w0 M h w) : Inv B0 w0 M h w.drew :=
  ⟨I.below.drew, I.room, I.base, fun k b hk => by
    obtain ⟨z, hz, hb⟩ := I.blk k b hk
    exact ⟨z, hz, hb.mono (M.le_refl) (fun _ _ _ => ⟨rfl, rfl⟩) (fun _ h _ _ => h)⟩, I.apart, I.im, I.own⟩

/-! ### new blocks -/

theorem cell_push (w : World) (ob : Obj) (x o : Nat) (hx : x < w.heap.size) : (w.alloc ob).cell? ⟨x, o, none⟩ = w.cell? ⟨x, o, none⟩ := World.cell?_alloc_lt _ _ _ hx
theorem frozen_push (w : World) (ob : Obj) (x o : Nat) (hx : x < w.heap.size) : (w.alloc ob).frozen? ⟨x, o, none⟩ = w.frozen? ⟨x, o, none⟩ := World.frozen?_alloc_old _ _ _ (Nat.ne_of_lt hx)
theorem heap_push (w : World) (ob : Obj) (x : Nat) (oo : Obj) (h : w.heap[x]? = some oo) : (w.alloc ob).heap[x]? = some oo := by
  have hx : x < w.heap.size := by
    rcases Nat.lt_or_ge x w.heap.size with h' | h'
    · exact h'
    · rw [Array.getElem?_eq_none h'] at h; cases h
  rw [Below.heap_alloc w ob x hx]; exact h

theorem Inv.alloc {B0 : Nat} {w0 : World} {M : Mp} {h : T Blk} {w : World} (I : Inv B0 w0 M h w) (n : Nat) (z : Zn) (b : Blk) (ob : Obj)
    (hn : M.m n = none) (hz : z.B = w.heap.size) (hok : BlkOk (M.lay n z) z (w.alloc ob) b) : Inv B0 w0 (M.lay n z) (h.set n (some b)) (w.alloc ob) := by
  have hroom := I.room
  refine I.replace n z b (.inl hn) (by omega) (by rw [World.size_alloc]; omega) (by rw [World.size_alloc]; omega) (I.below.alloc hroom ob) hok ?_ ?_ ?_ ?_
  · intro n' b' z' _ hb' hz' x o h1 h2
    have := I.base n' z' hz'
    have e1 := h1.1; have e2 := h2.1
    omega
  · intro x o hx
    cases e : M.im x o with
    | none => rfl
    | some v => have := (I.im x o v e).2; have := hx.1; omega
  · intro x o hx _
    exact ⟨cell_push w ob x o hx, frozen_push w ob x o hx⟩
  · intro x oo hx _ _
    exact heap_push w ob x oo hx

/-- a new row of cells -/
theorem Inv.newRowF {B0 : Nat} {w0 : World} {M : Mp} {h : T Blk} {w : World} (I : Inv B0 w0 M h w) (n : Nat) (c : List AV) (sz : Nat) (ex : Bool) (C : List Value) (el : TypeId) (lo hi : Nat)
    (hn : M.m n = none) (hlen : c.length ≤ C.length) (hex : ex = true → C.length = c.length) (hr : RelL M c (C.take c.length)) (hfz : C.length ≤ lo ∨ hi = 0) :
    Inv B0 w0 (M.lay n ⟨w.heap.size, 0, C.length, sz⟩) (h.set n (some (.cells c sz ex))) (w.alloc (.cells ⟨C⟩ el (lo, hi))) := by
  refine I.alloc n ⟨w.heap.size, 0, C.length, sz⟩ _ _ hn rfl ⟨rfl, hlen, fun e => ⟨hex e, rfl⟩, fun j hj => ?_⟩
  have hat : (w.alloc (.cells ⟨C⟩ el (lo, hi))).heap[w.heap.size]? = some (.cells ⟨C⟩ el (lo, hi)) := by
    show (w.heap.push (.cells ⟨C⟩ el (lo, hi)))[w.heap.size]? = _
    simp
  refine ⟨⟨C[j]'hj, ?_, ?_⟩, ?_⟩
  · simp only [Nat.zero_add]
    unfold World.cell?
    simp only [hat]
    simp only at hj
    simp [hj]
  · intro a ha
    have hjc : j < c.length := by
      rcases Nat.lt_or_ge j c.length with h' | h'
      · exact h'
      · rw [List.getElem?_eq_none h'] at ha; cases ha
    obtain ⟨x, hx, hr'⟩ := hr.get j a ha
    rw [List.getElem?_take_of_lt hjc, List.getElem?_eq_getElem hj] at hx
    cases hx
    exact Rel.mono (M.le_lay n _ (.inl hn)) _ _ hr'
  · simp only [Nat.zero_add]
    unfold World.frozen?
    simp only [hat]
    simp only at hj
    rcases hfz with h | h
    · have : ¬ lo ≤ j := by omega
      simp [this]
    · subst h; simp

theorem Inv.newRow {B0 : Nat} {w0 : World} {M : Mp} {h : T Blk} {w : World} (I : Inv B0 w0 M h w) (n : Nat) (c : List AV) (sz : Nat) (ex : Bool) (C : List Value) (el : TypeId)
    (hn : M.m n = none) (hlen : c.length ≤ C.length) (hex : ex = true → C.length = c.length) (hr : RelL M c (C.take c.length)) :
    Inv B0 w0 (M.lay n ⟨w.heap.size, 0, C.length, sz⟩) (h.set n (some (.cells c sz ex))) (w.alloc (.cells ⟨C⟩ el)) :=
  I.newRowF n c sz ex C el 0 0 hn hlen hex hr (.inr rfl)

/-! ### writing -/

theorem setCells_os (b : Nat) : ∀ (vs : List Value) (o : Nat) (w : World), (w.setCells b o vs).os = w.os ∧ (w.setCells b o vs).tape = w.tape ∧ (w.setCells b o vs).output = w.output ∧ (w.setCells b o vs).heap.size = w.heap.size
  | [], _, _ => ⟨rfl, rfl, rfl, rfl⟩
  | v :: r, o, w => by
    have := setCells_os b r (o + 1) (w.setCell ⟨b, o, none⟩ v)
    rw [World.setCells]
    refine ⟨this.1, this.2.1, this.2.2.1, ?_⟩
    rw [this.2.2.2, World.size_setCell]

theorem setCells_heap (b : Nat) : ∀ (vs : List Value) (o : Nat) (w : World) (k : Nat), k ≠ b → (w.setCells b o vs).heap[k]? = w.heap[k]?
  | [], _, _, _, _ => rfl
  | v :: r, o, w, k, h => by
    rw [World.setCells, setCells_heap b r (o + 1) _ k h]
    exact Below.heap_setCell _ _ _ _ h

theorem setCells_obj (b : Nat) : ∀ (vs : List Value) (o : Nat) (w : World) (k : Nat) (ob : Obj), w.heap[k]? = some ob → (∀ c e f, ob ≠ .cells c e f) → (w.setCells b o vs).heap[k]? = some ob
  | [], _, _, _, _, h, _ => h
  | v :: r, o, w, k, ob, h, hn => by
    rw [World.setCells]
    refine setCells_obj b r (o + 1) _ k ob ?_ hn
    simp only [World.setCell, Array.getElem?_modify]
    by_cases e : b = k
    · subst e
      rw [if_pos rfl, h]
      cases ob <;> first | rfl | exact absurd rfl (hn _ _ _)
    · rw [if_neg e]; exact h

theorem Below.setCells {B : Nat} {a w : World} (h : Below B a w) {b : Nat} (hb : B ≤ b) (o : Nat) (vs : List Value) : Below B a (w.setCells b o vs) := by
  obtain ⟨h1, h2, h3, h4⟩ := setCells_os b vs o w
  exact h.trans ⟨h1, h2, h3, by omega, fun k hk => setCells_heap b vs o w k (by omega)⟩

/-- cells of a block that is known are written over (or behind the known ones, within its zone) -/
theorem Inv.write {B0 : Nat} {w0 : World} {M : Mp} {h : T Blk} {w : World} (I : Inv B0 w0 M h w) (n : Nat) (z : Zn) (c c' : List AV) (sz : Nat) (ex : Bool) (vs : List Value) (off : Nat)
    (hz : M.m n = some z) (hg : h.get n = some (.cells c sz ex)) (hin : off + vs.length ≤ z.K) (hlen : c'.length ≤ z.K) (hex : ex = true → z.K = c'.length)
    (hr : ∀ j a, c'[j]? = some a → (∃ x, off ≤ j ∧ vs[j - off]? = some x ∧ Rel M a x) ∨ ((j < off ∨ off + vs.length ≤ j) ∧ c[j]? = some a)) :
    Inv B0 w0 M (h.set n (some (.cells c' sz ex))) (w.setCells z.B (z.O + off) vs) := by
  obtain ⟨z', hz', hb⟩ := I.blk n _ hg
  rw [hz] at hz'; cases hz'
  obtain ⟨b1, b2, b3, b4⟩ := hb
  have hbase := I.base n z hz
  have hM : M.lay n z = M := by
    cases M with
    | mk m im =>
      simp only [Mp.lay, Mp.mk.injEq, and_true]
      funext k
      by_cases e : k = n
      · subst e; rw [if_pos rfl]; exact hz.symm
      · rw [if_neg e]
  have hcells : ∀ j, j < vs.length → (w.cell? ⟨z.B, z.O + off + j, none⟩).isSome = true := fun j hj => by
    obtain ⟨⟨v, hv, _⟩, _⟩ := b4 (off + j) (by omega)
    rw [show z.O + off + j = z.O + (off + j) by omega, hv]; rfl
  have hok : BlkOk M z (w.setCells z.B (z.O + off) vs) (.cells c' sz ex) := by
    refine ⟨b1, hlen, fun e => ⟨hex e, (b3 e).2⟩, fun j hj => ⟨?_, by rw [World.frozen?_setCells]; exact (b4 j hj).2⟩⟩
    by_cases hjin : off ≤ j ∧ j < off + vs.length
    · have hlt : j - off < vs.length := by omega
      refine ⟨vs[j - off]'hlt, ?_, ?_⟩
      · rw [show z.O + j = z.O + off + (j - off) by omega]
        exact World.cell?_setCells_in z.B vs (z.O + off) w hcells (j - off) hlt
      · intro a ha
        rcases hr j a ha with ⟨x, _, hx, hrx⟩ | ⟨hout, _⟩
        · rw [List.getElem?_eq_getElem hlt] at hx; cases hx; exact hrx
        · omega
    · obtain ⟨⟨v, hv, hrv⟩, _⟩ := b4 j hj
      refine ⟨v, ?_, ?_⟩
      · rw [World.cell?_setCells_out z.B vs (z.O + off) w ⟨z.B, z.O + j, none⟩ (fun _ _ => by simp; omega)]; exact hv
      · intro a ha
        rcases hr j a ha with ⟨x, h1, h2, _⟩ | ⟨_, h2⟩
        · have : j - off < vs.length := by
            rcases Nat.lt_or_ge (j - off) vs.length with h' | h'
            · exact h'
            · rw [List.getElem?_eq_none h'] at h2; cases h2
          omega
        · exact hrv a h2
  have := I.replace (w' := w.setCells z.B (z.O + off) vs) n z (.cells c' sz ex) (.inr hz) hbase.1 (by rw [(setCells_os _ _ _ _).2.2.2]; exact hbase.2) (by rw [(setCells_os _ _ _ _).2.2.2]; exact Nat.le_refl _)
    (Below.setCells I.below hbase.1 _ _) (by rw [hM]; exact hok) (fun n' b' z' hne hb' hz' => I.apart n n' _ b' z z' (fun e => hne e.symm) hg hb' hz hz') (I.own n _ z hg hz)
    (fun x o _ hnot => ⟨World.cell?_setCells_out z.B vs (z.O + off) w ⟨x, o, none⟩ (fun hx _ => by
        simp only at hx
        by_cases hlo : o < z.O + off
        · exact .inl hlo
        · by_cases hhi : z.O + off + vs.length ≤ o
          · exact .inr hhi
          · exact absurd ⟨hx, by omega, by omega⟩ hnot), World.frozen?_setCells _ _ _ _ _⟩)
    (fun x ob h1 h2 _ => setCells_obj z.B vs (z.O + off) w x ob h1 h2)
  rwa [hM] at this

/-- an object that is known is turned -/
theorem Inv.setObj {B0 : Nat} {w0 : World} {M : Mp} {h : T Blk} {w : World} (I : Inv B0 w0 M h w) (n : Nat) (z : Zn) (b b' : Blk) (ob : Obj)
    (hz : M.m n = some z) (hg : h.get n = some b) (hO : z.O = 0) (hK : z.K = 1) (hold : ∃ o1, w.heap[z.B]? = some o1 ∧ ∀ c e f, o1 ≠ .cells c e f) (hnew : ∀ c e f, ob ≠ .cells c e f)
    (hok : BlkOk M z { w with heap := w.heap.setIfInBounds z.B ob } b') : Inv B0 w0 M (h.set n (some b')) { w with heap := w.heap.setIfInBounds z.B ob } := by
  have hbase := I.base n z hz
  have hM : M.lay n z = M := by
    cases M with
    | mk m im =>
      simp only [Mp.lay, Mp.mk.injEq, and_true]
      funext k
      by_cases e : k = n
      · subst e; rw [if_pos rfl]; exact hz.symm
      · rw [if_neg e]
  obtain ⟨o1, ho1, hno1⟩ := hold
  have hheap : ∀ k, k ≠ z.B → (w.heap.setIfInBounds z.B ob)[k]? = w.heap[k]? := fun k hk => Array.getElem?_setIfInBounds_ne (fun e => hk e.symm)
  have := I.replace (w' := { w with heap := w.heap.setIfInBounds z.B ob }) n z b' (.inr hz) hbase.1 (by simp; exact hbase.2) (by simp)
    (I.below.trans ⟨rfl, rfl, rfl, by simp, fun k hk => hheap k (by omega)⟩) (by rw [hM]; exact hok) (fun n' b1 z' hne hb' hz' => I.apart n n' _ b1 z z' (fun e => hne e.symm) hg hb' hz hz') (I.own n _ z hg hz)
    (fun x o _ hnot => by
      by_cases hx : x = z.B
      · subst hx
        have e1 : (w.heap.setIfInBounds z.B ob)[z.B]? = some ob := by rw [Array.getElem?_setIfInBounds_self_of_lt hbase.2]
        constructor
        · unfold World.cell?
          rw [show ({ w with heap := w.heap.setIfInBounds z.B ob } : World).heap[z.B]? = some ob from e1, ho1]
          cases ob <;> cases o1 <;> first | rfl | exact absurd rfl (hnew _ _ _) | exact absurd rfl (hno1 _ _ _)
        · unfold World.frozen?
          rw [show ({ w with heap := w.heap.setIfInBounds z.B ob } : World).heap[z.B]? = some ob from e1, ho1]
          cases ob <;> cases o1 <;> first | rfl | exact absurd rfl (hnew _ _ _) | exact absurd rfl (hno1 _ _ _)
      · constructor
        · unfold World.cell?
          rw [show ({ w with heap := w.heap.setIfInBounds z.B ob } : World).heap[x]? = w.heap[x]? from hheap x hx]
        · unfold World.frozen?
          rw [show ({ w with heap := w.heap.setIfInBounds z.B ob } : World).heap[x]? = w.heap[x]? from hheap x hx])
    (fun x oo h1 _ h3 => by
      have : x ≠ z.B := fun e => h3 ⟨e, by omega, by omega⟩
      exact (hheap x this).trans h1)
  rwa [hM] at this

end Go.Ab
