/-
  Plain theory of foldings: lines that may stand, what they fold, which change something.
-/
import Derived.Test.YtidbgfmknhlmnaaGreatDoorFieldsR
namespace Go.Proofs.YtidbgfmknhlmnaaGreatDoor

structure FL where
  R : Nat
  S : Bs
  row : List Nat
def surN (r : Nat) : Bool := decide (55296 ≤ r) && decide (r ≤ 57343)
def stC : Bs := [67]
def stF : Bs := [70]
def stS : Bs := [83]
def stT : Bs := [84]
def stIs (s : Bs) : Bool := s == stC || s == stF || s == stS || s == stT
def lenOk (s : Bs) (n : Nat) : Bool := if s == stF then decide (n = 2) || decide (n = 3) else decide (n = 1)
def clashS (a b : Bs) : Bool := a == b || (a == stC && (b == stF || b == stS)) || (b == stC && (a == stF || a == stS))
def isCF (x : FL) : Bool := x.S == stC || x.S == stF
def isCS (x : FL) : Bool := x.S == stC || x.S == stS
def aloneL (x : FL) : Bool := !surN x.R && stIs x.S && lenOk x.S x.row.length && x.row.all fun r => !surN r
def clashL (l : List FL) (x : FL) : Bool := l.any fun y => y.R == x.R && clashS y.S x.S
def mayL (l : List FL) (x : FL) : Bool := aloneL x && !clashL l x
/-- What a line says. -/
def lineFL : List Bs → Option FL
  | a :: s :: b :: _ => match codeOf a, rowOf b with
    | some r, some row => some ⟨r, s, row⟩
    | _, _ => none
  | _ => none
/-- A line behind others: the lines with it, or none. -/
def putL (l : List FL) (f : List Bs) : Option (List FL) := match lineFL f with
  | some x => if mayL l x then some (l ++ [x]) else none
  | none => none
def readL (l : List FL) : List (Nat × List Bs) → (List FL) ⊕ Nat
  | [] => .inl l
  | x :: r => match putL l x.2 with
    | some l' => readL l' r
    | none => .inr x.1
theorem readL_step (l l' : List FL) (x : Nat × List Bs) (r : List (Nat × List Bs)) (h : putL l x.2 = some l') : readL l (x :: r) = readL l' r := by rw [readL, h]
theorem readL_stop (l : List FL) (x : Nat × List Bs) (r : List (Nat × List Bs)) (h : putL l x.2 = none) : readL l (x :: r) = .inr x.1 := by rw [readL, h]
def foldT (t : Bs) : (List FL) ⊕ Nat := readL [] (linesT t)

/-! ### What good lines are -/
structure GoodL (l : List FL) : Prop where
  alone : ∀ x ∈ l, aloneL x = true
  apart : l.Pairwise fun y x => ¬ (y.R = x.R ∧ clashS y.S x.S = true)
theorem GoodL.nil : GoodL [] := ⟨by simp, .nil⟩
theorem GoodL.put {l : List FL} {x : FL} (h : GoodL l) (hx : mayL l x = true) : GoodL (l ++ [x]) := by
  rw [mayL, Bool.and_eq_true, Bool.not_eq_true'] at hx
  refine ⟨fun y hy => ?_, List.pairwise_append.2 ⟨h.apart, by simp, fun y hy z hz => ?_⟩⟩
  · rcases List.mem_append.1 hy with hy | hy
    · exact h.alone y hy
    · simp at hy; subst hy; exact hx.1
  · simp at hz; subst hz
    intro hc
    have := List.any_eq_false.1 hx.2 y hy
    simp [hc.1, hc.2] at this
theorem GoodL.read {l l' : List FL} (h : GoodL l) : ∀ {ls : List (Nat × List Bs)}, readL l ls = .inl l' → GoodL l'
  | [], e => by simp [readL] at e; subst e; exact h
  | x :: r, e => by
    rw [readL] at e
    split at e
    · rename_i l2 hl2
      refine GoodL.read ?_ e
      unfold putL at hl2
      split at hl2
      · split at hl2
        · rename_i hm
          injection hl2 with hl2; subst hl2
          exact h.put hm
        · cases hl2
      · cases hl2
    · cases e
/-- All statuses of a code point so far, one behind the other. -/
def hadL (l : List FL) (r : Nat) : Bs := (l.filter fun y => y.R == r).flatMap fun y => y.S
theorem hadL_snoc (l : List FL) (x : FL) (r : Nat) : hadL (l ++ [x]) r = hadL l r ++ (if x.R = r then x.S else []) := by
  unfold hadL
  rw [List.filter_append, List.flatMap_append]
  by_cases h : x.R = r
  · simp [h]
  · simp [h, List.filter_cons]
/-- The program's test of a byte that stood. -/
def clashB (h : UInt8) (s : Bs) : Bool := [h] == s || (s == stC && [h] != stT) || ([h] == stC && s != stT)
theorem st_one {s : Bs} (h : stIs s = true) : s = [67] ∨ s = [70] ∨ s = [83] ∨ s = [84] := by
  simp only [stIs, Bool.or_eq_true, beq_iff_eq] at h
  rcases h with ((h | h) | h) | h
  · exact .inl h
  · exact .inr (.inl h)
  · exact .inr (.inr (.inl h))
  · exact .inr (.inr (.inr h))
theorem aloneL_st {x : FL} (h : aloneL x = true) : stIs x.S = true := by
  simp only [aloneL, Bool.and_eq_true] at h
  exact h.1.1.2
theorem clash_had {l : List FL} (h : ∀ x ∈ l, aloneL x = true) {x : FL} (hx : stIs x.S = true) : (hadL l x.R).any (fun b => clashB b x.S) = clashL l x := by
  unfold hadL clashL
  induction l with
  | nil => rfl
  | cons y r ih =>
    rw [List.any_cons, ← ih (fun z hz => h z (by simp [hz])), List.filter_cons]
    by_cases hr : y.R = x.R
    · have hy := st_one (aloneL_st (h y (by simp)))
      have hs := st_one hx
      have e : (y.R == x.R) = true := by simp [hr]
      rw [if_pos e, List.flatMap_cons, List.any_append, e, Bool.true_and]
      congr 1
      rcases hy with e1 | e1 | e1 | e1 <;> rcases hs with e2 | e2 | e2 | e2 <;> rw [e1, e2] <;> decide
    · have e : (y.R == x.R) = false := by simp [hr]
      rw [if_neg (by simp [hr]), e, Bool.false_and, Bool.false_or]
theorem hadL_all {l : List FL} (h : ∀ x ∈ l, aloneL x = true) (r : Nat) : ∀ b ∈ hadL l r, b.toNat < 128 := by
  intro b hb
  obtain ⟨y, hy, hb⟩ := List.mem_flatMap.1 hb
  rcases st_one (aloneL_st (h y (List.mem_filter.1 hy).1)) with e | e | e | e <;> rw [e] at hb <;> simp at hb <;> subst hb <;> decide
theorem hadL_len (l : List FL) (h : ∀ x ∈ l, aloneL x = true) (r : Nat) : (hadL l r).length ≤ l.length := by
  unfold hadL
  induction l with
  | nil => simp
  | cons y t ih =>
    have ih := ih (fun z hz => h z (by simp [hz]))
    have hy : y.S.length = 1 := by rcases st_one (aloneL_st (h y (by simp))) with e | e | e | e <;> rw [e] <;> rfl
    rw [List.filter_cons]
    split
    · rw [List.flatMap_cons, List.length_append, hy, List.length_cons]; omega
    · rw [List.length_cons]; omega

/-! ### What lines fold -/
def fullL (l : List FL) (r : Int) : List Int := match l.find? fun x => decide ((x.R : Int) = r) && isCF x with
  | some x => natI x.row
  | none => [r]
def simpL (l : List FL) (r : Int) : Int := match l.find? fun x => decide ((x.R : Int) = r) && isCS x with
  | some x => (natI x.row).headD 0
  | none => r
def textL (l : List FL) (xs : List Int) : List Int := xs.flatMap (fullL l)
def moves (x : FL) : Bool := isCF x && !(x.row == [x.R])
/-- A number put in ahead of the first that is no less. -/
def insI (l : List Int) (r : Int) : List Int := l.takeWhile (fun y => decide (y < r)) ++ r :: l.dropWhile (fun y => decide (y < r))
def chgL (l : List FL) : List Int := l.foldl (fun a x => if moves x then insI a x.R else a) []
def stillL (l : List FL) : Bool := (chgL l).all fun r => textL l (fullL l r) == fullL l r
theorem insI_perm (l : List Int) (r : Int) : (insI l r).Perm (r :: l) := by
  unfold insI
  have h := List.takeWhile_append_dropWhile (p := fun y => decide (y < r)) (l := l)
  exact (List.perm_middle).trans (by rw [h])
theorem insI_sorted {l : List Int} (h : l.Pairwise (· ≤ ·)) (r : Int) : (insI l r).Pairwise (· ≤ ·) := by
  unfold insI
  have e := List.takeWhile_append_dropWhile (p := fun y => decide (y < r)) (l := l)
  rw [← e] at h
  obtain ⟨h1, h2, h3⟩ := List.pairwise_append.1 h
  have hd : ∀ y ∈ l.dropWhile (fun y => decide (y < r)), r ≤ y := by
    intro y hy
    cases hl : l.dropWhile (fun y => decide (y < r)) with
    | nil => rw [hl] at hy; simp at hy
    | cons z t =>
      have hz : ¬ z < r := by
        have := List.head?_dropWhile_not (fun y => decide (y < r)) l
        rw [hl] at this
        simpa using this
      rw [hl] at hy h2
      rcases List.mem_cons.1 hy with rfl | hy
      · omega
      · have := (List.pairwise_cons.1 h2).1 y hy; omega
  refine List.pairwise_append.2 ⟨h1, List.pairwise_cons.2 ⟨hd, h2⟩, fun a ha b hb => ?_⟩
  have ha' : a < r := by
    have h4 := List.all_takeWhile (p := fun y => decide (y < r)) (l := l)
    simpa using List.all_eq_true.1 h4 a ha
  rcases List.mem_cons.1 hb with rfl | hb
  · omega
  · have := hd b hb; omega
theorem chg_fold (l : List FL) : ∀ a : List Int, a.Pairwise (· ≤ ·) → (l.foldl (fun a x => if moves x then insI a x.R else a) a).Pairwise (· ≤ ·) ∧ (l.foldl (fun a x => if moves x then insI a x.R else a) a).Perm (a ++ (l.filter moves).map fun x => (x.R : Int)) := by
  induction l with
  | nil => intro a ha; simpa using ha
  | cons x r ih =>
    intro a ha
    rw [List.foldl_cons, List.filter_cons]
    by_cases h : moves x = true
    · rw [if_pos h, if_pos h]
      obtain ⟨h1, h2⟩ := ih _ (insI_sorted ha x.R)
      refine ⟨h1, h2.trans ?_⟩
      rw [List.map_cons]
      exact ((insI_perm a x.R).append_right _).trans (by simpa using (List.perm_middle (l₁ := a)).symm)
    · rw [if_neg h, if_neg h]; exact ih a ha
theorem chgL_sorted (l : List FL) : (chgL l).Pairwise (· ≤ ·) := (chg_fold l [] .nil).1
theorem chgL_perm (l : List FL) : (chgL l).Perm ((l.filter moves).map fun x => (x.R : Int)) := (chg_fold l [] .nil).2
theorem sorted_one {a b : List Int} (h : a.Perm b) (ha : a.Pairwise (· ≤ ·)) (hb : b.Pairwise (· ≤ ·)) : a = b :=
  List.Perm.eq_of_pairwise (le := (· ≤ ·)) (fun x y _ _ h1 h2 => Int.le_antisymm h1 h2) ha hb h
/-- The numbers of the full lines, sorted, without those that stay: what changes. -/
theorem chg_of_sorted {l : List FL} {ks : List Int} (hp : ks.Perm ((l.filter isCF).map fun x => (x.R : Int))) (hs : ks.Pairwise (· ≤ ·)) (hg : GoodL l) : ks.filter (fun r => !(fullL l r == [r])) = chgL l := by
  refine sorted_one ?_ (hs.filter _) (chgL_sorted l)
  refine ((hp.filter _).trans ?_).trans (chgL_perm l).symm
  rw [List.filter_map, List.filter_filter]
  refine List.Perm.of_eq ?_
  congr 1
  apply List.filter_congr
  intro x hx
  unfold moves
  by_cases hc : isCF x = true
  · have hf : l.find? (fun y => decide ((y.R : Int) = (x.R : Int)) && isCF y) = some x := by
      obtain ⟨A, B, rfl⟩ := List.append_of_mem hx
      rw [List.find?_append, List.find?_cons]
      have hA : A.find? (fun y => decide ((y.R : Int) = (x.R : Int)) && isCF y) = none := by
        rw [List.find?_eq_none]
        intro y hy hyc
        rw [Bool.and_eq_true, decide_eq_true_eq] at hyc
        have := (List.pairwise_append.1 hg.apart).2.2 y hy x (by simp)
        refine this ⟨by omega, ?_⟩
        unfold isCF at hyc hc
        simp only [Bool.or_eq_true, beq_iff_eq] at hyc hc
        rcases hyc.2 with e | e <;> rcases hc with e2 | e2 <;> rw [e, e2] <;> decide
      rw [hA]
      simp [hc]
    simp only [hc, Bool.and_true, Bool.true_and, Function.comp]
    unfold fullL
    rw [hf]
    simp only [natI]
    congr 1
    rw [Bool.eq_iff_iff, beq_iff_eq, beq_iff_eq]
    constructor
    · intro h
      have := congrArg (List.map Int.toNat) h
      simpa [Function.comp_def] using this
    · intro h; rw [h]; rfl
  · simp [hc]
end Go.Proofs.YtidbgfmknhlmnaaGreatDoor
