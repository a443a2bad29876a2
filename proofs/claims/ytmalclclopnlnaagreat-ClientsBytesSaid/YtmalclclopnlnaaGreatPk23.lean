/-
  Texts of this claim, one behind the other: SortP, SortA.
-/
import Derived.Test.YtmalclclopnlnaaGreatPk00
import Derived.Test.YtmalclclopnlnaaGreatPk01
import Derived.Test.YtmalclclopnlnaaGreatPk09
import Derived.Test.YtmalclclopnlnaaGreatProg
import Derived.IntWalk
/-
  Plain theory of sorting by exchanges: rows of numbers, places, ranges.
-/
namespace Go.Proofs.YtmalclclopnlnaaGreat

def at_ (xs : List Int) (i : Nat) : Int := xs.getD i 0
def swp (xs : List Int) (i j : Nat) : List Int := (xs.set i (at_ xs j)).set j (at_ xs i)
theorem at_lt {xs : List Int} {i : Nat} (h : i < xs.length) : at_ xs i = xs[i] := by simp [at_, h]
theorem swp_len (xs : List Int) (i j : Nat) : (swp xs i j).length = xs.length := by simp [swp]
theorem at_set (xs : List Int) (i k : Nat) (v : Int) (hi : i < xs.length) : at_ (xs.set i v) k = if k = i then v else at_ xs k := by
  unfold at_
  simp only [List.getD_eq_getElem?_getD, List.getElem?_set]
  by_cases h : i = k
  · subst h; simp [hi]
  · rw [if_neg h, if_neg (fun e => h e.symm)]
theorem at_swp {xs : List Int} {i j : Nat} (hi : i < xs.length) (hj : j < xs.length) (k : Nat) : at_ (swp xs i j) k = if k = j then at_ xs i else if k = i then at_ xs j else at_ xs k := by
  unfold swp
  rw [at_set _ _ _ _ (by simpa using hj), at_set _ _ _ _ hi]
theorem swp_perm {xs : List Int} {i j : Nat} (hi : i < xs.length) (hj : j < xs.length) : (swp xs i j).Perm xs := by
  unfold swp
  rw [at_lt hi, at_lt hj]
  exact List.set_set_perm hi hj

/-- ys comes of xs by exchanges of places within [a, b). -/
inductive Sws (a b : Nat) (xs : List Int) : List Int → Prop
  | refl : Sws a b xs xs
  | step {ys : List Int} {i j : Nat} : Sws a b xs ys → a ≤ i → i < b → a ≤ j → j < b → i < ys.length → j < ys.length → Sws a b xs (swp ys i j)
section
variable {a b : Nat} {xs ys zs : List Int}
theorem Sws.len (h : Sws a b xs ys) : ys.length = xs.length := by
  induction h with
  | refl => rfl
  | step _ _ _ _ _ _ _ ih => rw [swp_len, ih]
theorem Sws.perm (h : Sws a b xs ys) : ys.Perm xs := by
  induction h with
  | refl => exact .refl _
  | step _ _ _ _ _ hi hj ih => exact (swp_perm hi hj).trans ih
theorem Sws.out (h : Sws a b xs ys) {k : Nat} (hk : k < a ∨ b ≤ k) : at_ ys k = at_ xs k := by
  induction h with
  | refl => rfl
  | step _ h1 h2 h3 h4 hi hj ih => rw [at_swp hi hj, if_neg (by omega), if_neg (by omega), ih]
theorem Sws.all (h : Sws a b xs ys) {p : Int → Prop} (hp : ∀ k, a ≤ k → k < b → p (at_ xs k)) : ∀ k, a ≤ k → k < b → p (at_ ys k) := by
  induction h with
  | refl => exact hp
  | step _ h1 h2 h3 h4 hi hj ih =>
    intro k hk1 hk2
    rw [at_swp hi hj]
    split
    · exact ih _ h1 h2
    · split
      · exact ih _ h3 h4
      · exact ih k hk1 hk2
theorem Sws.trans (h : Sws a b xs ys) (k : Sws a b ys zs) : Sws a b xs zs := by
  induction k with
  | refl => exact h
  | step _ h1 h2 h3 h4 hi hj ih => exact .step ih h1 h2 h3 h4 hi hj
theorem Sws.mono {a' b' : Nat} (h : Sws a b xs ys) (ha : a' ≤ a) (hb : b ≤ b') : Sws a' b' xs ys := by
  induction h with
  | refl => exact .refl
  | step _ h1 h2 h3 h4 hi hj ih => exact .step ih (by omega) (by omega) (by omega) (by omega) hi hj
theorem Sws.one {i j : Nat} (h1 : a ≤ i) (h2 : i < b) (h3 : a ≤ j) (h4 : j < b) (hi : i < xs.length) (hj : j < xs.length) : Sws a b xs (swp xs i j) := .step .refl h1 h2 h3 h4 hi hj
end

def SrtOn (a b : Nat) (xs : List Int) : Prop := ∀ i j, a ≤ i → i < j → j < b → at_ xs i ≤ at_ xs j
theorem SrtOn.small {a b : Nat} (xs : List Int) (h : b ≤ a + 1) : SrtOn a b xs := fun i j h1 h2 h3 => by omega
/-- Sorted, as neighbours tell it. -/
theorem srtOn_of_next {a b : Nat} {xs : List Int} (h : ∀ k, a < k → k < b → at_ xs (k - 1) ≤ at_ xs k) : SrtOn a b xs := by
  intro i j hi hij hj
  obtain ⟨d, rfl⟩ : ∃ d, j = i + 1 + d := ⟨j - i - 1, by omega⟩
  clear hij
  induction d with
  | zero => have := h (i + 1) (by omega) (by omega); simpa using this
  | succ d ih =>
    have h1 := ih (by omega)
    have h2 := h (i + 1 + (d + 1)) (by omega) (by omega)
    have e : i + 1 + (d + 1) - 1 = i + 1 + d := by omega
    rw [e] at h2
    omega

/-! ### Insertion: [a, i) sorted, the one at i comes down to j -/
/-- While the one of place i comes down, standing at j: the others of [a, i] are sorted; it is less than all that stand above it. -/
structure InsAt (a i j : Nat) (xs : List Int) : Prop where
  lo : a ≤ j
  hi : j ≤ i
  rest : ∀ p q, a ≤ p → p < q → q ≤ i → p ≠ j → q ≠ j → at_ xs p ≤ at_ xs q
  up : ∀ q, j < q → q ≤ i → at_ xs j ≤ at_ xs q
theorem InsAt.start {a i : Nat} {xs : List Int} (h : SrtOn a i xs) (hai : a ≤ i) : InsAt a i i xs :=
  ⟨hai, Nat.le_refl _, fun p q h1 h2 h3 h4 h5 => h p q h1 h2 (by omega), fun q h1 h2 => by omega⟩
theorem InsAt.done {a i j : Nat} {xs : List Int} (h : InsAt a i j xs) (hs : j = a ∨ at_ xs (j - 1) ≤ at_ xs j) : SrtOn a (i + 1) xs := by
  intro p q h1 h2 h3
  by_cases hp : p = j
  · subst hp; exact h.up q h2 (by omega)
  · by_cases hq : q = j
    · subst hq
      rcases hs with hs | hs
      · omega
      · by_cases e : p = q - 1
        · rw [e]; exact hs
        · exact Int.le_trans (h.rest p (q - 1) h1 (by omega) (by have := h.hi; omega) hp (by omega)) hs
    · exact h.rest p q h1 h2 (by omega) hp hq
theorem InsAt.step {a i j : Nat} {xs : List Int} (h : InsAt a i j xs) (hj : a < j) (hlt : at_ xs j < at_ xs (j - 1)) (hi : i < xs.length) : InsAt a i (j - 1) (swp xs j (j - 1)) := by
  have hji := h.hi
  have e := at_swp (xs := xs) (i := j) (j := j - 1) (by omega) (by omega)
  refine ⟨by omega, by omega, fun p q h1 h2 h3 h4 h5 => ?_, fun q h1 h2 => ?_⟩
  · rw [e, e]
    rw [if_neg h4, if_neg h5]
    by_cases hp : p = j
    · subst hp
      rw [if_pos rfl, if_neg (by omega)]
      exact h.rest (p - 1) q (by omega) (by omega) h3 (by omega) (by omega)
    · rw [if_neg hp]
      by_cases hq : q = j
      · subst hq
        rw [if_pos rfl]
        exact h.rest p (q - 1) h1 (by omega) (by omega) hp (by omega)
      · rw [if_neg hq]; exact h.rest p q h1 h2 h3 hp hq
  · rw [e, e, if_pos rfl, if_neg (by omega)]
    by_cases hq : q = j
    · subst hq; rw [if_pos rfl]; omega
    · rw [if_neg hq]; exact h.up q (by omega) h2

/-! ### Heaps: [first + lo, first + hi) -/
/-- The heap's word on the places from lo on (below hi), but for the root r. -/
structure HpBut (first lo hi r : Nat) (xs : List Int) : Prop where
  kids : ∀ i, lo ≤ i → i ≠ r → ∀ c, (c = 2 * i + 1 ∨ c = 2 * i + 2) → c < hi → at_ xs (first + c) ≤ at_ xs (first + i)
  up : lo < r → ∀ p, lo ≤ p → (r = 2 * p + 1 ∨ r = 2 * p + 2) → ∀ c, (c = 2 * r + 1 ∨ c = 2 * r + 2) → c < hi → at_ xs (first + c) ≤ at_ xs (first + p)
  lr : lo ≤ r
def Hp (first lo hi : Nat) (xs : List Int) : Prop := ∀ i, lo ≤ i → ∀ c, (c = 2 * i + 1 ∨ c = 2 * i + 2) → c < hi → at_ xs (first + c) ≤ at_ xs (first + i)
theorem HpBut.done {first lo hi r : Nat} {xs : List Int} (h : HpBut first lo hi r xs) (hd : ∀ c, (c = 2 * r + 1 ∨ c = 2 * r + 2) → c < hi → at_ xs (first + c) ≤ at_ xs (first + r)) : Hp first lo hi xs := by
  intro i hi' c hc hch
  by_cases e : i = r
  · subst e; exact hd c hc hch
  · exact h.kids i hi' e c hc hch
theorem HpBut.start {first lo hi : Nat} {xs : List Int} (h : Hp first (lo + 1) hi xs) : HpBut first lo hi lo xs :=
  ⟨fun i h1 h2 c hc hch => h i (by omega) c hc hch, fun h1 => by omega, Nat.le_refl _⟩
/-- The greater child comes up. -/
theorem HpBut.step {first lo hi r k : Nat} {xs : List Int} (h : HpBut first lo hi r xs) (hk : k = 2 * r + 1 ∨ k = 2 * r + 2) (hkh : k < hi) (hlen : first + hi ≤ xs.length)
    (hbig : ∀ c, (c = 2 * r + 1 ∨ c = 2 * r + 2) → c < hi → at_ xs (first + c) ≤ at_ xs (first + k)) (hlt : at_ xs (first + r) < at_ xs (first + k)) :
    HpBut first lo hi k (swp xs (first + r) (first + k)) := by
  have hl := h.lr
  have e := at_swp (xs := xs) (i := first + r) (j := first + k) (by omega) (by omega)
  refine ⟨fun i h1 h2 c hc hch => ?_, fun h1 p hp hpk c hc hch => ?_, by omega⟩
  · rw [e, e, if_neg (show ¬ first + i = first + k by omega)]
    by_cases hir : i = r
    · subst hir
      rw [if_pos (show first + i = first + i from rfl)]
      by_cases hck : c = k
      · rw [if_pos (by omega)]; omega
      · rw [if_neg (by omega), if_neg (by omega)]; exact hbig c hc hch
    · rw [if_neg (show ¬ first + i = first + r by omega)]
      have h3 : ¬ c = k := by omega
      rw [if_neg (by omega)]
      by_cases hcr : c = r
      · subst hcr
        rw [if_pos rfl]
        exact h.up (by omega) i h1 hc k hk hkh
      · rw [if_neg (by omega)]; exact h.kids i h1 hir c hc hch
  · have hpr : p = r := by omega
    subst hpr
    rw [e, e, if_neg (by omega), if_neg (by omega), if_neg (by omega), if_pos rfl]
    exact h.kids k (by omega) (by omega) c hc hch
/-- The root is the greatest. -/
theorem Hp.top {first hi : Nat} {xs : List Int} (h : Hp first 0 hi xs) : ∀ c, c < hi → at_ xs (first + c) ≤ at_ xs first := by
  intro c
  induction c using Nat.strongRecOn with
  | ind c ih =>
    intro hc
    by_cases h0 : c = 0
    · subst h0; simp
    · have h1 := h ((c - 1) / 2) (by omega) c (by omega) hc
      have h2 := ih ((c - 1) / 2) (by omega) (by omega)
      omega

/-! ### The great loop of quicksort -/
/-- Of two places of [A, B), of which one lies below a, or one at b or above, the lesser bears no more. -/
def PInv (A B a b : Nat) (xs : List Int) : Prop := ∀ i j, A ≤ i → i < j → j < B → (i < a ∨ b ≤ j) → at_ xs i ≤ at_ xs j
theorem PInv.start (A B : Nat) (xs : List Int) : PInv A B A B xs := fun i j h1 h2 h3 h4 => by omega
theorem PInv.done {A B a b : Nat} {xs : List Int} (h : PInv A B a b xs) (hs : SrtOn a b xs) : SrtOn A B xs := by
  intro i j h1 h2 h3
  by_cases hc : i < a ∨ b ≤ j
  · exact h i j h1 h2 h3 hc
  · exact hs i j (by omega) h2 (by omega)
theorem PInv.sws {A B a b : Nat} {xs ys : List Int} (h : PInv A B a b xs) (hs : Sws a b xs ys) (ha : A ≤ a) (hb : b ≤ B) : PInv A B a b ys := by
  intro i j h1 h2 h3 h4
  by_cases hi : a ≤ i ∧ i < b
  · have hj : b ≤ j := by omega
    rw [hs.out (k := j) (.inr hj)]
    exact hs.all (p := fun v => v ≤ at_ xs j) (fun k hk1 hk2 => h k j (by omega) (by omega) h3 (.inr hj)) i hi.1 hi.2
  · rw [hs.out (k := i) (by omega)]
    by_cases hj : a ≤ j ∧ j < b
    · exact hs.all (p := fun v => at_ xs i ≤ v) (fun k hk1 hk2 => h i k h1 (by omega) (by omega) (.inl (by omega))) j hj.1 hj.2
    · rw [hs.out (k := j) (by omega)]; exact h i j h1 h2 h3 h4
/-- The range [a, b) is cut: what lies below mid is done. -/
theorem PInv.right {A B a b m : Nat} {xs : List Int} (h : PInv A B a b xs) (ham : a ≤ m) (h2 : ∀ i j, a ≤ i → i < j → j < b → i < m → at_ xs i ≤ at_ xs j) : PInv A B m b xs := by
  intro i j k1 k2 k3 k4
  by_cases hc : i < a ∨ b ≤ j
  · exact h i j k1 k2 k3 hc
  · exact h2 i j (by omega) k2 (by omega) (by omega)
theorem PInv.left {A B a b m : Nat} {xs : List Int} (h : PInv A B a b xs) (hmb : m ≤ b) (h2 : ∀ i j, a ≤ i → i < j → j < b → m ≤ j → at_ xs i ≤ at_ xs j) : PInv A B a m xs := by
  intro i j k1 k2 k3 k4
  by_cases hc : i < a ∨ b ≤ j
  · exact h i j k1 k2 k3 hc
  · exact h2 i j (by omega) k2 (by omega) (by omega)
/-- What the sort asks of what stands ahead. -/
def Pred_ (a b : Nat) (xs : List Int) : Prop := a = 0 ∨ ∀ k, a ≤ k → k < b → at_ xs (a - 1) ≤ at_ xs k
theorem Pred_.sws {a b : Nat} {xs ys : List Int} (h : Pred_ a b xs) (hs : Sws a b xs ys) : Pred_ a b ys := by
  rcases h with h | h
  · exact .inl h
  · by_cases h0 : a = 0
    · exact .inl h0
    · right
      rw [hs.out (k := a - 1) (by omega)]
      exact hs.all h
theorem Pred_.sub {a b b' : Nat} {xs : List Int} (h : Pred_ a b xs) (hb : b' ≤ b) : Pred_ a b' xs := by
  rcases h with h | h
  · exact .inl h
  · exact .inr fun k h1 h2 => h k h1 (by omega)
/-- Parted at m. -/
structure Parted (a b m : Nat) (xs : List Int) : Prop where
  lo : ∀ k, a ≤ k → k < m → at_ xs k ≤ at_ xs m
  hi : ∀ k, m < k → k < b → at_ xs m ≤ at_ xs k
theorem Parted.pred {a b m : Nat} {xs : List Int} (h : Parted a b m xs) : Pred_ (m + 1) b xs := .inr fun k h1 h2 => by simpa using h.hi k (by omega) h2

/-! ### Parting -/
/-- [a+1, i) less than the one at a, (j, b) no less. -/
structure PartAt (a b i j : Nat) (xs : List Int) : Prop where
  lo : ∀ k, a < k → k < i → at_ xs k < at_ xs a
  hi : ∀ k, j < k → k < b → at_ xs a ≤ at_ xs k
theorem PartAt.start (a b : Nat) (xs : List Int) : PartAt a b (a + 1) (b - 1) xs := ⟨fun k h1 h2 => by omega, fun k h1 h2 => by omega⟩
theorem PartAt.lo1 {a b i j : Nat} {xs : List Int} (h : PartAt a b i j xs) (hl : at_ xs i < at_ xs a) : PartAt a b (i + 1) j xs :=
  ⟨fun k h1 h2 => by
    by_cases e : k = i
    · subst e; exact hl
    · exact h.lo k h1 (by omega), h.hi⟩
theorem PartAt.hi1 {a b i j : Nat} {xs : List Int} (h : PartAt a b i (j + 1) xs) (hl : at_ xs a ≤ at_ xs (j + 1)) : PartAt a b i j xs :=
  ⟨h.lo, fun k h1 h2 => by
    by_cases e : k = j + 1
    · subst e; exact hl
    · exact h.hi k (by omega) h2⟩
theorem PartAt.swap {a b i j : Nat} {xs : List Int} (h : PartAt a b i (j + 1) xs) (hai : a < i) (hij : i ≤ j + 1) (hj : j + 1 < b) (hb : b ≤ xs.length) (h1 : at_ xs a ≤ at_ xs i) (h2 : at_ xs (j + 1) < at_ xs a) : PartAt a b (i + 1) j (swp xs i (j + 1)) := by
  have e := at_swp (xs := xs) (i := i) (j := j + 1) (by omega) (by omega)
  have ea : at_ (swp xs i (j + 1)) a = at_ xs a := by rw [e, if_neg (by omega), if_neg (by omega)]
  have hne : i ≠ j + 1 := fun e => by subst e; omega
  refine ⟨fun k k1 k2 => ?_, fun k k1 k2 => ?_⟩
  · rw [ea, e]
    by_cases hki : k = i
    · subst hki; rw [if_neg hne, if_pos rfl]; exact h2
    · rw [if_neg (by omega), if_neg hki]; exact h.lo k k1 (by omega)
  · rw [ea, e]
    by_cases hkj : k = j + 1
    · subst hkj; rw [if_pos rfl]; exact h1
    · rw [if_neg hkj, if_neg (by omega)]; exact h.hi k (by omega) k2
theorem PartAt.done {a b i j : Nat} {xs : List Int} (h : PartAt a b i j xs) (hij : i = j + 1) (haj : a ≤ j) (hjb : j < b) (hb : b ≤ xs.length) : Parted a b j (swp xs j a) := by
  have e := at_swp (xs := xs) (i := j) (j := a) (by omega) (by omega)
  have ej : at_ (swp xs j a) j = at_ xs a := by
    rw [e]
    by_cases hja : j = a
    · rw [if_pos hja, hja]
    · rw [if_neg hja, if_pos rfl]
  refine ⟨fun k k1 k2 => ?_, fun k k1 k2 => ?_⟩
  · rw [ej, e]
    by_cases hka : k = a
    · subst hka
      rw [if_pos rfl]
      exact Int.le_of_lt (h.lo j (by omega) (by omega))
    · rw [if_neg hka, if_neg (by omega)]
      exact Int.le_of_lt (h.lo k (by omega) (by omega))
  · rw [ej, e, if_neg (by omega), if_neg (by omega)]
    exact h.hi k k1 k2
/-- As PartAt, for equals: [a, i) no greater than the one at a, (j, b) greater. -/
structure PartEq (a b i j : Nat) (xs : List Int) : Prop where
  lo : ∀ k, a ≤ k → k < i → at_ xs k ≤ at_ xs a
  hi : ∀ k, j < k → k < b → at_ xs a < at_ xs k
theorem PartEq.start (a b : Nat) (xs : List Int) : PartEq a b (a + 1) (b - 1) xs := by
  refine ⟨fun k h1 h2 => ?_, fun k h1 h2 => by omega⟩
  obtain rfl : k = a := by omega
  exact Int.le_refl _
theorem PartEq.lo1 {a b i j : Nat} {xs : List Int} (h : PartEq a b i j xs) (hl : at_ xs i ≤ at_ xs a) : PartEq a b (i + 1) j xs :=
  ⟨fun k h1 h2 => by
    by_cases e : k = i
    · subst e; exact hl
    · exact h.lo k h1 (by omega), h.hi⟩
theorem PartEq.hi1 {a b i j : Nat} {xs : List Int} (h : PartEq a b i (j + 1) xs) (hl : at_ xs a < at_ xs (j + 1)) : PartEq a b i j xs :=
  ⟨h.lo, fun k h1 h2 => by
    by_cases e : k = j + 1
    · subst e; exact hl
    · exact h.hi k (by omega) h2⟩
theorem PartEq.swap {a b i j : Nat} {xs : List Int} (h : PartEq a b i (j + 1) xs) (hai : a < i) (hij : i ≤ j + 1) (hj : j + 1 < b) (hb : b ≤ xs.length) (h1 : at_ xs a < at_ xs i) (h2 : at_ xs (j + 1) ≤ at_ xs a) : PartEq a b (i + 1) j (swp xs i (j + 1)) := by
  have e := at_swp (xs := xs) (i := i) (j := j + 1) (by omega) (by omega)
  have ea : at_ (swp xs i (j + 1)) a = at_ xs a := by rw [e, if_neg (by omega), if_neg (by omega)]
  have hne : i ≠ j + 1 := fun e => by subst e; omega
  refine ⟨fun k k1 k2 => ?_, fun k k1 k2 => ?_⟩
  · rw [ea, e]
    by_cases hki : k = i
    · subst hki; rw [if_neg hne, if_pos rfl]; exact h2
    · rw [if_neg (by omega), if_neg hki]; exact h.lo k k1 (by omega)
  · rw [ea, e]
    by_cases hkj : k = j + 1
    · subst hkj; rw [if_pos rfl]; exact h1
    · rw [if_neg hkj, if_neg (by omega)]; exact h.hi k (by omega) k2
/-- Behind a parting of equals: where none of [a, b) is less than the one at a, what lies below i is done. -/
theorem PartEq.done {a b i j : Nat} {xs : List Int} (h : PartEq a b i j xs) (hai : a < i) (hij : i = j + 1) (hmin : ∀ k, a ≤ k → k < b → at_ xs a ≤ at_ xs k) : (∀ p q, a ≤ p → p < q → q < b → p < i → at_ xs p ≤ at_ xs q) ∧ ∀ k, i ≤ k → k < b → at_ xs (i - 1) ≤ at_ xs k := by
  refine ⟨fun p q h1 h2 h3 h4 => Int.le_trans (h.lo p h1 h4) (hmin q (by omega) h3), fun k h1 h2 => ?_⟩
  have h3 := h.hi k (by omega) h2
  exact Int.le_of_lt (Int.lt_of_le_of_lt (h.lo (i - 1) (by omega) (by omega)) h3)
end Go.Proofs.YtmalclclopnlnaaGreat
/-
  The library's sort of numbers: rows as they are sorted; insertion.
-/
namespace Go.Proofs.YtmalclclopnlnaaGreat
open Go.RowKit Go.Shelf
attribute [local go_sem] Oper.semAt_some

def csK (n : Int) : List Value := [.int .u64 n]
theorem csK_len (n : Int) : (csK n).length = 1 := rfl
theorem csK_one (n : Int) : ∀ u ∈ csK n, u.oneCell' = true := by simp [csK, Value.oneCell']
/-- A row that is being sorted: an owned slice at its block's beginning. -/
structure DS (base g n c : Nat) (w : World) (xs : List Int) : Prop where
  own : OwnS base 30 1 csK w (.slice (some ⟨g, 0, none⟩) n c) xs
  len : n = xs.length
section
variable {base g n c : Nat} {w w' : World} {xs : List Int}
theorem DS.cell (h : DS base g n c w xs) {k : Nat} (hk : k < n) : w.cell? ⟨g, k, none⟩ = some (.int .u64 (at_ xs k)) := by
  have hk' : k < xs.length := by rw [← h.len]; exact hk
  have := h.own.cell csK_len (by rw [← h.len]) (k := k) hk' (j := 0) (u := .int .u64 (at_ xs k)) (by rw [at_lt hk']; rfl)
  simpa using this
theorem DS.blk (h : DS base g n c w xs) (hn : 0 < n) : base ≤ g ∧ g < w.heap.size ∧ ∀ i, w.frozen? ⟨g, i, none⟩ = false := by
  obtain ⟨g', c', hv, h1, h2, h3⟩ := h.own.at_ (by rw [← h.len]; exact hn)
  injection hv with e1 _ _
  injection e1 with e1
  injection e1 with e1
  subst e1
  exact ⟨h1, h2, h3⟩
theorem DS.mod (h : DS base g n c w xs) {C : Nat → Prop} (hm : Mod C w w') (hn : ¬ C g) : DS base g n c w' xs :=
  ⟨h.own.mod hm (fun b hb => by simp [Value.ownBlock] at hb; subst hb; exact hn), h.len⟩
theorem DS.set (h : DS base g n c w xs) {k : Nat} (hk : k < n) (v : Int) : DS base g n c (w.setCell ⟨g, k, none⟩ (.int .u64 v)) (xs.set k v) := by
  have := h.own.set1 csK_len (k := k) (j := 0) h.len hk (by decide) (u := .int .u64 v) (y := v) rfl
  refine ⟨by simpa using this, by rw [List.length_set]; exact h.len⟩
/-- Two places exchanged. -/
theorem DS.exch (h : DS base g n c w xs) {i j : Nat} (hi : i < n) (hj : j < n) : DS base g n c ((w.setCell ⟨g, i, none⟩ (.int .u64 (at_ xs j))).setCell ⟨g, j, none⟩ (.int .u64 (at_ xs i))) (swp xs i j) :=
  (h.set hi _).set hj _
theorem DS.drew (h : DS base g n c w xs) : DS base g n c w.drew xs := h.mod (C := fun _ => False) ((Mod.refl _ w).drew) id
theorem DS.exchd (h : DS base g n c w xs) {i j : Nat} (hi : i < n) (hj : j < n) {x y : Int} (hx : x = at_ xs i) (hy : y = at_ xs j) : DS base g n c ((w.setCell ⟨g, i, none⟩ (.int .u64 y)).setCell ⟨g, j, none⟩ (.int .u64 x)).drew (swp xs i j) := by
  subst hx hy
  exact (h.exch hi hj).drew
theorem Sws.exch {a b n i j : Nat} {xs ys : List Int} (h : Sws a b xs ys) (hl : n = ys.length) (h1 : a ≤ i) (h2 : i < b) (h3 : a ≤ j) (h4 : j < b) (hb : b ≤ n) : Sws a b xs (swp ys i j) :=
  .step h h1 h2 h3 h4 (by omega) (by omega)
theorem mod_swp (w : World) (g i j : Nat) (u v : Value) : Mod (fun x => x = g) w ((w.setCell ⟨g, i, none⟩ u).setCell ⟨g, j, none⟩ v) :=
  ((Mod.refl (fun x => x = g) w).setCell (p := ⟨g, i, none⟩) (.inl rfl) u).setCell (p := ⟨g, j, none⟩) (.inl rfl) v
end
theorem snan_any (x : Int) (w : World) : Calls Tryz.prog 124 #[.int .u64 x] w fun e w' => e = .returned (.bool false) ∧ w = w' := by
  have h1 : (x != x) = false := by simp
  go_enter Tryz.func124, Tryz.ntmps124
  go_wp2
  go_ret
  exact ⟨rfl, rfl⟩
set_option maxHeartbeats 1000000 in
theorem sless_any (x y : Int) (w : World) : Calls Tryz.prog 106 #[.int .u64 x, .int .u64 y] w fun e w' => e = .returned (.bool (decide (x < y))) ∧ w = w' := by
  obtain ⟨r, hr⟩ : ∃ r, decide (x < y) = r := ⟨_, rfl⟩
  rw [hr]
  go_enter Tryz.func106, Tryz.ntmps106
  go_wp2_with (go_at_call 124; refine (snan_any _ _).mono ?_; rintro e w' ⟨rfl, rfl⟩)
  go_ret
  exact ⟨rfl, rfl⟩
set_option maxRecDepth 100000 in
set_option maxHeartbeats 4000000 in
theorem sins_any (base g n c a b : Nat) (xs : List Int) (w : World) (h : DS base g n c w xs) (hab : a ≤ b) (hbn : b ≤ n) (hn : n ≤ 1099511627776) :
    Calls Tryz.prog 100 #[.slice (some ⟨g, 0, none⟩) n c, .int .i64 a, .int .i64 b] w fun e w' => e = .returned (.tuple #[]) ∧ ∃ ys, DS base g n c w' ys ∧ Sws a b xs ys ∧ SrtOn a b ys ∧ Mod (fun x => x = g) w w' := by
  have hw0 : IntKind.i64.wrap ((a : Int) + 1) = ((a + 1 : Nat) : Int) := by rw [show (a : Int) + 1 = ((a + 1 : Nat) : Int) by omega]; exact IntWalk.i64_in _ (by omega)
  have H := Lib.hid h
  clear h
  go_enter Tryz.func100, Tryz.ntmps100
  go_wp2
  go_loopw [6] (fun i wr => ∃ (k : Nat) (ys : List Int), a < k ∧ k ≤ n + 1 ∧ i = .int .i64 k ∧ DS base g n c wr ys ∧ Sws a b xs ys ∧ SrtOn a k ys ∧ Mod (fun x => x = g) w wr) (fun i _ => n + 1 - (intOf i).toNat)
  case atStart => exact ⟨a + 1, xs, by omega, by omega, rfl, H.out, .refl, .small _ (by omega), Mod.refl _ _⟩
  case round =>
    obtain ⟨k, ys, hak, hkn, rfl, hd, hs, hso, hm⟩ := hrel
    have HD := Lib.hid hd
    have HS := Lib.hid hs
    have HSo := Lib.hid hso
    have HM := Lib.hid hm
    clear hd hs hso hm
    by_cases hkb : k < b
    · have hw1 : IntKind.i64.wrap ((k : Int) + 1) = ((k + 1 : Nat) : Int) := by rw [show (k : Int) + 1 = ((k + 1 : Nat) : Int) by omega]; exact IntWalk.i64_in _ (by omega)
      go_wp2
      go_loopw [7] (fun j ws => ∃ (q : Nat) (zs : List Int), j = .int .i64 q ∧ InsAt a k q zs ∧ DS base g n c ws zs ∧ Sws a b xs zs ∧ Mod (fun x => x = g) w ws) (fun j _ => (intOf j).toNat)
      case atStart => exact ⟨k, ys, rfl, .start HSo.out (by omega), HD.out, HS.out, HM.out⟩
      case round =>
        obtain ⟨q, zs, rfl, hin, hd, hs, hm⟩ := hrel
        have hqk := hin.hi
        by_cases haq : a < q
        · obtain ⟨p, hp⟩ : ∃ p, q = p + 1 := ⟨q - 1, by omega⟩
          have c1 := cell_regrown (hd.cell (k := q) (by omega))
          have c0 := cell_regrown (hd.cell (k := p) (by omega))
          obtain ⟨x, hx⟩ : ∃ x, x = at_ zs q := ⟨_, rfl⟩
          obtain ⟨y, hy⟩ : ∃ y, y = at_ zs p := ⟨_, rfl⟩
          rw [← hx] at c1
          rw [← hy] at c0
          have HX := Lib.hid (And.intro hx hy)
          have HI := Lib.hid hin
          have HD1 := Lib.hid hd
          have HS1 := Lib.hid hs
          have HM1 := Lib.hid hm
          clear hx hy hin hd hs hm
          have hg : decide (a < q) = true := by simpa using haq
          have hpn : p < n := by omega
          have hqn : q < n := by omega
          have hw2 : IntKind.i64.wrap ((q : Int) - 1) = (p : Int) := by rw [show (q : Int) - 1 = (p : Int) by omega]; exact IntWalk.i64_in _ (by omega)
          have hne : ¬ p = q := by omega
          have hne' : ¬ q = p := by omega
          have HP := Lib.hid hp
          clear hp
          go_wp2
          have HLs := Lib.hid (fun X => sless_any x y X)
          obtain ⟨r, hr⟩ : ∃ r, decide (x < y) = r := ⟨_, rfl⟩
          rw [hr] at HLs
          have HR := Lib.hid hr
          clear hr
          refine wp_region_quiet_below (by kernel_rfl) (by kernel_rfl) ?_
          repeat (go_big_quiet_step ((first | (go_at_call 106; exact regE fun X _ => HLs.out X) | fail)))
          refine wpQuiet_nil ?_
          intro W1 hW1
          have HQ := mod_of_regrown hW1
          clear hW1
          clear c1 c0
          have hd2 := HD1.out.mod HQ id
          have HD2 := Lib.hid hd2
          have HM2 := Lib.hid (HM1.out.trans HQ (fun _ h => h.elim))
          have c1 := hd2.cell (k := q) hqn
          have c0 := hd2.cell (k := p) hpn
          rw [← HX.out.1] at c1
          rw [← HX.out.2] at c0
          have fz := (hd2.blk (by omega)).2.2
          have f1 := fz q
          have f0 := fz p
          clear hd2 HQ fz
          cases r
          · go_wp2
            refine ⟨⟨k + 1, zs, by omega, by omega, by go_num, HD2.out, HS1.out, HI.out.done (.inr ?_), HM2.out⟩, by simp only [intOf]; omega⟩
            have hpx := HP.out
            have := of_decide_eq_false HR.out
            rw [HX.out.1, HX.out.2] at this
            rw [show q - 1 = p by omega]
            omega
          · go_wp2
            go_region
            go_wp2
            have hlt : at_ zs q < at_ zs p := by rw [← HX.out.1, ← HX.out.2]; exact of_decide_eq_true HR.out
            have hpx := HP.out
            have hst := HI.out.step haq (by rw [show q - 1 = p by omega]; exact hlt) (by rw [← HD2.out.len]; omega)
            rw [show q - 1 = p by omega] at hst
            exact ⟨⟨p, swp zs q p, rfl, hst, HD2.out.exchd hqn hpn HX.out.1 HX.out.2, HS1.out.exch HD2.out.len (by omega) (by omega) (by omega) (by omega) hbn, (HM2.out.trans' (mod_swp _ _ _ _ _ _)).drew⟩, by simp only [intOf]; omega⟩
        · obtain rfl : q = a := by have := hin.lo; omega
          have HI := Lib.hid hin
          have HD1 := Lib.hid hd
          have HS1 := Lib.hid hs
          have HM1 := Lib.hid hm
          clear hin hd hs hm
          have hg : decide (q < q) = false := by simp
          go_wp2
          refine wp_region_quiet_below (by kernel_rfl) (by kernel_rfl) ?_
          repeat (go_big_quiet_step ((first | fail | fail)))
          refine wpQuiet_nil ?_
          intro W1 hW1
          have HQ := mod_of_regrown hW1
          clear hW1
          have HQ' := Lib.hid HQ
          clear HQ
          go_wp2
          exact ⟨⟨k + 1, zs, by omega, by omega, by go_num, HD1.out.mod HQ'.out id, HS1.out, HI.out.done (.inl rfl), HM1.out.trans HQ'.out (fun _ h => h.elim)⟩, by simp only [intOf]; omega⟩
    · go_wp2
      exact bodyPost_end (v := .tuple #[]) (by simp [results, Tryz.results100, go_sem]) rfl ⟨rfl, ys, HD.out, HS.out, fun i j h1 h2 h3 => HSo.out i j h1 h2 (by omega), HM.out⟩
end Go.Proofs.YtmalclclopnlnaaGreat
