/- The abstract evaluator: what a value, a block and a heap stand for. -/
import Derived.Test.YtgegheifegnflaaGreatDoorEvA
import Derived.Below
namespace Go.Ab
open Go.RowKit

/-! ### the map -/

theorem nbF {a b : Nat} (h : a ≠ b) : Nat.beq a b = false := by
  cases e : Nat.beq a b with
  | false => rfl
  | true => exact absurd (Nat.eq_of_beq_eq_true e) h

theorem T.get_leaf {α : Type} (n : Nat) : (T.leaf : T α).get n = none := rfl

theorem T.get_setF {α : Type} (v : Option α) : ∀ (k : Nat) (t : T α) (n m : Nat), (T.setF k t n v).get m = if m = n then v else t.get m := by
  intro k
  induction k with
  | zero =>
    intro t n m
    simp only [T.setF, T.get]
    by_cases h : m = n
    · subst h; simp
    · simp [h, nbF h]
  | succ k ih =>
    intro t n m
    have key : ∀ (x : Option α) (l r : T α), (bif n.beq 0 then T.node v l r else bif (n % 2).beq 1 then T.node x (T.setF k l ((n - 1) / 2) v) r else T.node x l (T.setF k r ((n - 1) / 2) v)).get m
        = if m = n then v else (T.node x l r).get m := by
      intro x l r
      by_cases hn : n = 0
      · subst hn
        by_cases hm : m = 0
        · subst hm; simp [T.get]
        · have hm' : Nat.beq m 0 = false := nbF hm
          simp [T.get, hm, hm']
      · have hn' : Nat.beq n 0 = false := nbF hn
        by_cases h1 : n % 2 = 1
        · simp only [hn', h1, cond_false]
          by_cases hm : m = 0
          · subst hm
            have : ¬ (0 = n) := fun h => hn h.symm
            simp [T.get, this]
          · have hm' : Nat.beq m 0 = false := nbF hm
            by_cases h2 : m % 2 = 1
            · simp only [T.get, hm', h2, cond_false, Nat.beq_refl, cond_true, ih]
              have : ((m - 1) / 2 = (n - 1) / 2) ↔ m = n := by omega
              simp [this]
            · have h2' : Nat.beq (m % 2) 1 = false := nbF h2
              have : ¬ m = n := by omega
              simp [T.get, hm', h2', this]
        · have h1' : Nat.beq (n % 2) 1 = false := nbF h1
          simp only [hn', h1', cond_false]
          by_cases hm : m = 0
          · subst hm
            have : ¬ (0 = n) := fun h => hn h.symm
            simp [T.get, this]
          · have hm' : Nat.beq m 0 = false := nbF hm
            by_cases h2 : m % 2 = 1
            · have : ¬ m = n := by omega
              simp [T.get, hm', h2, this]
            · have h2' : Nat.beq (m % 2) 1 = false := nbF h2
              simp only [T.get, hm', h2', cond_false, ih]
              have : ((m - 1) / 2 = (n - 1) / 2) ↔ m = n := by omega
              simp [this]
    cases t with
    | leaf =>
      have := key none .leaf .leaf
      simp only [T.setF]
      have e : ∀ m, (T.node (none : Option α) .leaf .leaf).get m = none := by intro m; simp [T.get]
      rw [e m] at this
      rw [T.get_leaf]
      by_cases hn : Nat.beq n 0 = true
      · simp only [hn, cond_true] at this ⊢; exact this
      · have hn' : Nat.beq n 0 = false := Bool.eq_false_iff.2 hn
        simp only [hn', cond_false] at this ⊢
        exact this
    | node x l r => simp only [T.setF]; exact key x l r
    | ovf y z t =>
      simp only [T.setF, T.get]
      by_cases h : m = n
      · subst h; simp
      · simp [h, nbF h]

theorem T.get_set {α : Type} (t : T α) (n m : Nat) (v : Option α) : (t.set n v).get m = if m = n then v else t.get m := T.get_setF v 64 t n m
theorem T.get_set_self {α : Type} (t : T α) (n : Nat) (v : Option α) : (t.set n v).get n = v := by rw [T.get_set]; simp
theorem T.get_set_ne {α : Type} (t : T α) {n m : Nat} (v : Option α) (h : m ≠ n) : (t.set n v).get m = t.get m := by rw [T.get_set]; simp [h]

/-! ### what values stand for -/

/-- where a name's memory lies: a block, the first cell, how many cells there are, the size of an element -/
structure Zn where
  B : Nat
  O : Nat
  K : Nat
  sz : Nat

structure Mp where
  m : Nat → Option Zn
  im : Nat → Nat → Option Value

def AtI (im : Nat → Nat → Option Value) (b o : Nat) : List Value → Prop
  | [] => True
  | v :: l => im b o = some v ∧ AtI im b (o + 1) l

def slcRel (z : Zn) (off len : Nat) (cap : Option Nat) (c : Value) : Prop :=
  ∃ a k, c = .slice (some a) len k ∧ len ≤ k ∧ (k = 0 ∨ a = ⟨z.B, z.O + off, none⟩) ∧
    match cap with
    | some x => k = x
    | none => k * z.sz + off = z.K

mutual
def Rel (M : Mp) : AV → Value → Prop
  | .sc v, c => c = v
  | .ptr n off, c => ∃ z, M.m n = some z ∧ c = .pointer (some ⟨z.B, z.O + off, none⟩)
  | .slc n off len cap, c => ∃ z, M.m n = some z ∧ slcRel z off len cap c
  | .isl cs len clip, c => ∃ a k vs, c = .slice (some a) len k ∧ len ≤ k ∧ (clip = true → k = len) ∧ RelL M cs vs ∧ (a.spot = none ∨ vs = []) ∧ AtI M.im a.block a.off vs
  | .eptr cs, c => ∃ a vs, c = .pointer (some a) ∧ a.spot = none ∧ RelL M cs vs ∧ AtI M.im a.block a.off vs
  | .mp n, c => ∃ z, M.m n = some z ∧ c = .map (some z.B)
  | .fn f a b, c => ∃ va vb, c = .func f ⟨va⟩ ⟨vb⟩ ∧ RelL M a va ∧ RelL M b vb
  | .ifc t v, c => ∃ cv, c = .iface t cv ∧ Rel M v cv
  | .agg cs, c => ∃ vs, c = .agg ⟨vs⟩ ∧ RelL M cs vs
  | .tup cs, c => ∃ vs, c = .tuple ⟨vs⟩ ∧ RelL M cs vs
def RelL (M : Mp) : List AV → List Value → Prop
  | [], c => c = []
  | a :: l, c => ∃ x r, c = x :: r ∧ Rel M a x ∧ RelL M l r
end

def Mp.le (M M' : Mp) : Prop := (∀ n z, M.m n = some z → M'.m n = some z) ∧ (∀ b o v, M.im b o = some v → M'.im b o = some v)

theorem Mp.le_refl (M : Mp) : M.le M := ⟨fun _ _ h => h, fun _ _ _ h => h⟩
theorem Mp.le_trans {M M' M'' : Mp} (h : M.le M') (h' : M'.le M'') : M.le M'' := ⟨fun n z e => h'.1 n z (h.1 n z e), fun b o v e => h'.2 b o v (h.2 b o v e)⟩

theorem AtI.mono {i i' : Nat → Nat → Option Value} (h : ∀ b o v, i b o = some v → i' b o = some v) : ∀ (l : List Value) (b o : Nat), AtI i b o l → AtI i' b o l
  | [], _, _, _ => trivial
  | _ :: l, _, _, ⟨a, r⟩ => ⟨h _ _ _ a, AtI.mono h l _ _ r⟩

mutual
theorem Rel.mono {M M' : Mp} (h : M.le M') : ∀ (a : AV) (c : Value), Rel M a c → Rel M' a c
  | .sc _, _, e => by simp only [Rel] at e ⊢; exact e
  | .ptr _ _, _, e => by simp only [Rel] at e ⊢; obtain ⟨z, a, b⟩ := e; exact ⟨z, h.1 _ _ a, b⟩
  | .slc _ _ _ _, _, e => by simp only [Rel] at e ⊢; obtain ⟨z, a, b⟩ := e; exact ⟨z, h.1 _ _ a, b⟩
  | .isl cs _ _, _, e => by
    simp only [Rel] at e ⊢
    obtain ⟨a, k, vs, e1, e2, e3, e4, e5, e6⟩ := e
    exact ⟨a, k, vs, e1, e2, e3, RelL.mono h cs vs e4, e5, AtI.mono h.2 vs _ _ e6⟩
  | .eptr cs, _, e => by
    simp only [Rel] at e ⊢
    obtain ⟨a, vs, e1, e2, e3, e4⟩ := e
    exact ⟨a, vs, e1, e2, RelL.mono h cs vs e3, AtI.mono h.2 vs _ _ e4⟩
  | .mp _, _, e => by simp only [Rel] at e ⊢; obtain ⟨z, a, b⟩ := e; exact ⟨z, h.1 _ _ a, b⟩
  | .fn _ x y, _, e => by simp only [Rel] at e ⊢; obtain ⟨va, vb, e1, e2, e3⟩ := e; exact ⟨va, vb, e1, RelL.mono h x va e2, RelL.mono h y vb e3⟩
  | .ifc _ v, _, e => by simp only [Rel] at e ⊢; obtain ⟨cv, e1, e2⟩ := e; exact ⟨cv, e1, Rel.mono h v cv e2⟩
  | .agg cs, _, e => by simp only [Rel] at e ⊢; obtain ⟨vs, e1, e2⟩ := e; exact ⟨vs, e1, RelL.mono h cs vs e2⟩
  | .tup cs, _, e => by simp only [Rel] at e ⊢; obtain ⟨vs, e1, e2⟩ := e; exact ⟨vs, e1, RelL.mono h cs vs e2⟩
theorem RelL.mono {M M' : Mp} (h : M.le M') : ∀ (a : List AV) (c : List Value), RelL M a c → RelL M' a c
  | [], _, e => by simp only [RelL] at e ⊢; exact e
  | a :: l, _, e => by simp only [RelL] at e ⊢; obtain ⟨x, r, e1, e2, e3⟩ := e; exact ⟨x, r, e1, Rel.mono h a x e2, RelL.mono h l r e3⟩
end

theorem RelL.length {M : Mp} : ∀ {a : List AV} {c : List Value}, RelL M a c → c.length = a.length
  | [], _, e => by simp only [RelL] at e; subst e; rfl
  | _ :: l, _, e => by simp only [RelL] at e; obtain ⟨x, r, rfl, _, e3⟩ := e; simp [RelL.length e3]

theorem RelL.append {M : Mp} : ∀ {a : List AV} {c : List Value} {a' : List AV} {c' : List Value}, RelL M a c → RelL M a' c' → RelL M (a ++ a') (c ++ c')
  | [], _, _, _, e, e' => by simp only [RelL] at e; subst e; simpa using e'
  | x :: l, _, _, _, e, e' => by
    simp only [RelL] at e; obtain ⟨y, r, rfl, h, e3⟩ := e
    simp only [List.cons_append, RelL]
    exact ⟨y, r ++ _, rfl, h, RelL.append e3 e'⟩

theorem RelL.drop {M : Mp} : ∀ (n : Nat) {a : List AV} {c : List Value}, RelL M a c → RelL M (a.drop n) (c.drop n)
  | 0, _, _, e => by simpa using e
  | n + 1, [], _, e => by simp only [RelL] at e; subst e; simp [RelL]
  | n + 1, _ :: _, _, e => by simp only [RelL] at e; obtain ⟨x, r, rfl, _, e3⟩ := e; simpa using RelL.drop n e3

theorem RelL.take {M : Mp} : ∀ (n : Nat) {a : List AV} {c : List Value}, RelL M a c → RelL M (a.take n) (c.take n)
  | 0, _, _, _ => by simp [RelL]
  | n + 1, [], _, e => by simp only [RelL] at e; subst e; simp [RelL]
  | n + 1, _ :: _, _, e => by
    simp only [RelL] at e; obtain ⟨x, r, rfl, h, e3⟩ := e
    simp only [List.take_succ_cons, RelL]
    exact ⟨x, r.take n, rfl, h, RelL.take n e3⟩

theorem RelL.get {M : Mp} : ∀ {a : List AV} {c : List Value} (i : Nat) (v : AV), RelL M a c → a[i]? = some v → ∃ x, c[i]? = some x ∧ Rel M v x
  | [], _, _, _, _, h => by simp at h
  | y :: l, _, 0, v, e, h => by
    simp only [RelL] at e; obtain ⟨x, r, rfl, h1, _⟩ := e
    simp at h; subst h; exact ⟨x, by simp, h1⟩
  | _ :: l, _, i + 1, v, e, h => by
    simp only [RelL] at e; obtain ⟨x, r, rfl, _, e3⟩ := e
    simp at h; obtain ⟨y, hy, hr⟩ := RelL.get i v e3 h
    exact ⟨y, by simpa using hy, hr⟩

theorem RelL.splice {M : Mp} {c l : List AV} {cv lv : List Value} (off : Nat) (h : RelL M c cv) (h' : RelL M l lv) : RelL M (spliceL c off l) (cv.take off ++ lv ++ cv.drop (off + lv.length)) := by
  unfold spliceL
  rw [h'.length]
  exact ((h.take off).append h').append (h.drop _)

theorem RelL.of_get {M : Mp} : ∀ {a : List AV} {c : List Value}, a.length = c.length → (∀ (i : Nat) (v : AV) (x : Value), a[i]? = some v → c[i]? = some x → Rel M v x) → RelL M a c
  | [], [], _, _ => by simp [RelL]
  | [], _ :: _, h, _ => by simp at h
  | _ :: _, [], h, _ => by simp at h
  | a :: l, x :: r, h, g => by
    simp only [RelL]
    exact ⟨x, r, rfl, g 0 a x (by simp) (by simp), RelL.of_get (by simpa using h) fun i v y h1 h2 => g (i + 1) v y (by simpa using h1) (by simpa using h2)⟩

theorem takeN_eq : ∀ (k : Nat) (l r : List AV), takeN k l = some r → r = l.take k ∧ k ≤ l.length
  | 0, l, r, h => by simp [takeN] at h; subst h; simp
  | k + 1, [], r, h => by simp [takeN] at h
  | k + 1, x :: l, r, h => by
    simp only [takeN] at h
    cases e : takeN k l with
    | none => rw [e] at h; simp at h
    | some q =>
      rw [e] at h; simp at h; subst h
      obtain ⟨e1, e2⟩ := takeN_eq k l q e
      subst e1; simp; omega

/-! ### what a heap stands for -/

def EsRel (M : Mp) : List (AV × AV × Nat) → List MapEntry → Prop
  | [], c => c = []
  | e :: l, c => ∃ x r, c = x :: r ∧ Rel M e.1 x.key ∧ Rel M e.2.1 x.val ∧ x.born = e.2.2 ∧ EsRel M l r

theorem EsRel.mono {M M' : Mp} (h : M.le M') : ∀ (a : List (AV × AV × Nat)) (c : List MapEntry), EsRel M a c → EsRel M' a c
  | [], _, e => by simp only [EsRel] at e ⊢; exact e
  | a :: l, _, e => by simp only [EsRel] at e ⊢; obtain ⟨x, r, e1, e2, e3, e4, e5⟩ := e; exact ⟨x, r, e1, Rel.mono h _ _ e2, Rel.mono h _ _ e3, e4, EsRel.mono h l r e5⟩

def BlkOk (M : Mp) (z : Zn) (w : World) : Blk → Prop
  | .cells c sz ex => z.sz = sz ∧ c.length ≤ z.K ∧ (ex = true → z.K = c.length ∧ z.O = 0) ∧
      (∀ j, j < z.K → (∃ v, w.cell? ⟨z.B, z.O + j, none⟩ = some v ∧ ∀ a, c[j]? = some a → Rel M a v) ∧ w.frozen? ⟨z.B, z.O + j, none⟩ = false)
  | .amap es clock => z.O = 0 ∧ z.K = 1 ∧ ∃ ces, w.heap[z.B]? = some (.map ces clock) ∧ EsRel M es ces.toList
  | .siter s pos => z.O = 0 ∧ z.K = 1 ∧ w.heap[z.B]? = some (.stringIter s pos)

/-- the cell (or the object) lies in the zone -/
def Zn.has (z : Zn) (b o : Nat) : Prop := b = z.B ∧ z.O ≤ o ∧ o < z.O + z.K

structure Inv (B0 : Nat) (w0 : World) (M : Mp) (h : T Blk) (w : World) : Prop where
  below : Below B0 w0 w
  room : B0 ≤ w.heap.size
  base : ∀ n z, M.m n = some z → B0 ≤ z.B ∧ z.B < w.heap.size
  blk : ∀ n b, h.get n = some b → ∃ z, M.m n = some z ∧ BlkOk M z w b
  apart : ∀ n n' b b' z z', n ≠ n' → h.get n = some b → h.get n' = some b' → M.m n = some z → M.m n' = some z' → ∀ x o, z.has x o → ¬ z'.has x o
  im : ∀ b o v, M.im b o = some v → w.cell? ⟨b, o, none⟩ = some v ∧ b < w.heap.size
  own : ∀ n b z, h.get n = some b → M.m n = some z → ∀ x o, z.has x o → M.im x o = none

end Go.Ab
