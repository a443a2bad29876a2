/-
  Plain theory of the lines of tables: trimmed, split, told.
-/
import Derived.Lib.Split
import Derived.Lib.SplitLaws
import Derived.Lib.CountLaws
import Derived.Lib.IndexMore
import Derived.Lib.SlTrimSet
import Derived.Test.YtidbgfmknhlmnaaGreatDoorBs
namespace Go.Proofs.YtidbgfmknhlmnaaGreatDoor

def blankB (b : UInt8) : Bool := b == 9 || b == 13 || b == 32
def trimL (l : Bs) : Bs := l.dropWhile blankB
def trimR (l : Bs) : Bs := (l.reverse.dropWhile blankB).reverse
def trimB (l : Bs) : Bs := trimR (trimL l)

theorem trimR_cons (x : UInt8) (l : Bs) : trimR (x :: l) = if trimR l = [] then (if blankB x then [] else [x]) else x :: trimR l := by
  unfold trimR
  rw [List.reverse_cons, List.dropWhile_append]
  by_cases h : List.dropWhile blankB l.reverse = []
  · simp [h, List.dropWhile_cons]
    split <;> simp
  · simp [h]
theorem trim_comm (l : Bs) : trimL (trimR l) = trimR (trimL l) := by
  induction l with
  | nil => rfl
  | cons x l ih =>
    rw [trimR_cons]
    by_cases hx : blankB x = true
    · have hl : trimL (x :: l) = trimL l := by simp [trimL, List.dropWhile_cons, hx]
      rw [hl]
      by_cases h : trimR l = []
      · rw [if_pos h, if_pos hx]
        rw [h] at ih
        exact ih
      · rw [if_neg h]
        have : trimL (x :: trimR l) = trimL (trimR l) := by simp [trimL, List.dropWhile_cons, hx]
        rw [this, ih]
    · have hl : ∀ l, trimL (x :: l) = x :: l := fun l => by simp [trimL, List.dropWhile_cons, hx]
      rw [hl, trimR_cons]
      by_cases h : trimR l = []
      · rw [if_pos h, if_neg hx, hl]
      · rw [if_neg h, hl]
theorem trimS_eq (l : Bs) : Lib.trimS l [32, 9, 13] = trimB l := by
  have hp : (fun b : UInt8 => [32, 9, 13].contains b) = blankB := by
    funext b
    unfold blankB
    rw [Bool.eq_iff_iff]
    simp only [List.contains_cons, List.contains_nil, Bool.or_false, Bool.or_eq_true]
    constructor
    · rintro (h | h | h)
      · exact .inr h
      · exact .inl (.inl h)
      · exact .inl (.inr h)
    · rintro ((h | h) | h)
      · exact .inr (.inl h)
      · exact .inr (.inr h)
      · exact .inl h
  unfold Lib.trimS Lib.trimLeftS Lib.trimRightS
  rw [hp]
  exact trim_comm l
theorem trimL_le (l : Bs) : (trimL l).length ≤ l.length := (List.dropWhile_sublist _).length_le
theorem trimR_le (l : Bs) : (trimR l).length ≤ l.length := by unfold trimR; rw [List.length_reverse]; exact Nat.le_trans (List.dropWhile_sublist _).length_le (by simp)
theorem trimB_le (l : Bs) : (trimB l).length ≤ l.length := Nat.le_trans (trimR_le _) (trimL_le _)
/-- Where the first loop stands. -/
theorem trimL_hit {b : UInt8} (r : Bs) (h : blankB b = true) : trimL (b :: r) = trimL r := by simp [trimL, List.dropWhile_cons, h]
theorem trimL_miss {b : UInt8} (r : Bs) (h : blankB b = false) : trimL (b :: r) = b :: r := by simp [trimL, List.dropWhile_cons, h]
theorem trimR_hit {b : UInt8} (r : Bs) (h : blankB b = true) : trimR (r ++ [b]) = trimR r := by simp [trimR, List.dropWhile_cons, h]
theorem trimR_miss {b : UInt8} (r : Bs) (h : blankB b = false) : trimR (r ++ [b]) = r ++ [b] := by simp [trimR, List.dropWhile_cons, h]

/-! ### Split -/
def splitC (c : UInt8) : Bs → List Bs
  | [] => [[]]
  | b :: r => if b = c then [] :: splitC c r else (match splitC c r with | [] => [[b]] | x :: xs => (b :: x) :: xs)
def hdApp (cur : Bs) : List Bs → List Bs | [] => [cur] | x :: xs => (cur ++ x) :: xs
theorem splitC_ne (c : UInt8) (l : Bs) : splitC c l ≠ [] := by
  cases l with
  | nil => simp [splitC]
  | cons b r =>
    unfold splitC
    split
    · simp
    · split <;> simp
theorem hdApp_nil {xs : List Bs} (h : xs ≠ []) : hdApp [] xs = xs := by cases xs <;> simp_all [hdApp]
theorem split_hit (c : UInt8) (cur r : Bs) : hdApp cur (splitC c (c :: r)) = cur :: splitC c r := by simp [splitC, hdApp]
theorem split_miss {b c : UInt8} (h : b ≠ c) (cur r : Bs) : hdApp cur (splitC c (b :: r)) = hdApp (cur ++ [b]) (splitC c r) := by
  rw [splitC, if_neg h]
  cases hs : splitC c r with
  | nil => exact absurd hs (splitC_ne c r)
  | cons x xs => simp [hdApp]
theorem split_end (c : UInt8) (cur : Bs) : hdApp cur (splitC c []) = [cur] := by simp [splitC, hdApp]
theorem splitC_miss {c : UInt8} : ∀ {l : Bs}, c ∉ l → splitC c l = [l]
  | [], _ => rfl
  | b :: r, h => by
    have h1 : b ≠ c := fun e => h (by simp [e])
    have h2 : c ∉ r := fun e => h (by simp [e])
    rw [splitC, if_neg h1, splitC_miss h2]
def upC (c : UInt8) (l : Bs) : Bs := l.takeWhile (· != c)
def offC (c : UInt8) (l : Bs) : Bs := (l.dropWhile (· != c)).drop 1
theorem splitC_step {c : UInt8} : ∀ {l : Bs}, c ∈ l → splitC c l = upC c l :: splitC c (offC c l)
  | [], h => by simp at h
  | b :: r, h => by
    by_cases hb : b = c
    · subst hb; simp [splitC, upC, offC, List.takeWhile_cons, List.dropWhile_cons]
    · have hr : c ∈ r := by rcases List.mem_cons.1 h with h | h; exact absurd h.symm hb; exact h
      rw [splitC, if_neg hb, splitC_step hr]
      simp [upC, offC, List.takeWhile_cons, List.dropWhile_cons, hb]
theorem upC_miss {c : UInt8} : ∀ {l : Bs}, c ∉ l → upC c l = l ∧ offC c l = []
  | [], _ => ⟨rfl, rfl⟩
  | b :: r, h => by
    have hb : b ≠ c := fun e => h (by simp [e])
    obtain ⟨h1, h2⟩ := upC_miss (c := c) (l := r) (fun e => h (by simp [e]))
    simp only [upC, offC] at h1 h2
    simp [upC, offC, List.takeWhile_cons, List.dropWhile_cons, hb, h1]
    simpa using h2
theorem upC_not_mem (c : UInt8) : ∀ l : Bs, c ∉ upC c l
  | [] => by simp [upC]
  | b :: r => by
    have := upC_not_mem c r
    unfold upC at this ⊢
    by_cases hb : b = c
    · simp [List.takeWhile_cons, hb]
    · simp only [List.takeWhile_cons, bne_iff_ne, ne_eq, hb, not_false_eq_true, if_true, List.mem_cons, not_or]
      exact ⟨fun e => hb e.symm, this⟩
theorem splitC_head (c : UInt8) (l : Bs) : (splitC c l)[0]? = some (upC c l) := by
  by_cases h : c ∈ l
  · rw [splitC_step h]; rfl
  · rw [splitC_miss h]
    rw [(upC_miss h).1]; rfl
theorem index_c {c : UInt8} : ∀ (l : Bs), Lib.index l [c] = if c ∈ l then ((upC c l).length : Int) else -1
  | [] => by simp [Lib.index]
  | b :: r => by
    unfold Lib.index
    by_cases hb : b = c
    · subst hb
      simp [upC, List.takeWhile_cons]
    · have h1 : (c == b) = false := by simp; exact fun e => hb e.symm
      have h2 : ([c].isPrefixOf (b :: r)) = false := by simp [List.isPrefixOf, h1]
      rw [h2, index_c r]
      by_cases hr : c ∈ r
      · have h3 : ((((upC c r).length : Nat) : Int) == -1) = false := by rw [beq_eq_false_iff_ne]; omega
        simp [hr, h3, upC, List.takeWhile_cons, hb]
      · simp [hr, Ne.symm hb]
theorem upC_take (c : UInt8) (l : Bs) : l.take (upC c l).length = upC c l := by
  unfold upC
  induction l with
  | nil => rfl
  | cons b r ih => by_cases h : (b != c) = true <;> simp [List.takeWhile_cons, h, ih]
theorem offC_drop (c : UInt8) (l : Bs) : l.drop ((upC c l).length + 1) = offC c l := by
  unfold upC offC
  induction l with
  | nil => rfl
  | cons b r ih => by_cases h : (b != c) = true <;> simp [List.takeWhile_cons, List.dropWhile_cons, h, ih]
theorem upC_len (c : UInt8) (l : Bs) : (upC c l).length ≤ l.length := (List.takeWhile_sublist _).length_le
theorem offC_len (c : UInt8) (l : Bs) : (offC c l).length ≤ l.length := by unfold offC; rw [List.length_drop]; exact Nat.le_trans (Nat.sub_le _ _) (List.dropWhile_sublist _).length_le
theorem cut_c (c : UInt8) (l : Bs) : Lib.cut l [c] = (upC c l, offC c l, decide (c ∈ l)) := by
  unfold Lib.cut
  rw [index_c]
  by_cases h : c ∈ l
  · have h0 : (0 : Int) ≤ (if c ∈ l then ((upC c l).length : Int) else -1) := by rw [if_pos h]; omega
    rw [if_pos h0, if_pos h]
    simp only [Int.toNat_natCast, List.length_cons, List.length_nil, Nat.zero_add, upC_take, offC_drop, h, decide_true]
  · have h0 : ¬ (0 : Int) ≤ (if c ∈ l then ((upC c l).length : Int) else -1) := by rw [if_neg h]; omega
    rw [if_neg h0]
    rw [(upC_miss h).1, (upC_miss h).2]; simp [h]
theorem splitK_c (c : UInt8) : ∀ (k : Nat) (l : Bs), l.count c = k → Lib.splitK [c] 0 k l = splitC c l
  | 0, l, h => by
    have : c ∉ l := List.count_eq_zero.1 h
    rw [splitC_miss this]; rfl
  | k + 1, l, h => by
    have hc : c ∈ l := List.count_pos_iff.1 (by omega)
    have hi := index_c (c := c) l
    rw [if_pos hc] at hi
    have h3 : ((((upC c l).length : Nat) : Int) == -1) = false := by rw [beq_eq_false_iff_ne]; omega
    unfold Lib.splitK
    rw [hi, h3, splitC_step hc]
    simp only [Bool.false_eq_true, if_false, Int.toNat_natCast, Nat.add_zero, List.length_cons, List.length_nil, Nat.zero_add, upC_take, offC_drop]
    rw [splitK_c c k (offC c l)]
    have : l = upC c l ++ c :: offC c l := by
      unfold upC offC
      clear hi h3 h
      induction l with
      | nil => simp at hc
      | cons b r ih =>
        by_cases hb : b = c
        · subst hb; simp [List.takeWhile_cons, List.dropWhile_cons]
        · have hr : c ∈ r := by rcases List.mem_cons.1 hc with h | h; exact absurd h.symm hb; exact h
          simp only [List.takeWhile_cons, List.dropWhile_cons, bne_iff_ne, ne_eq, hb, not_false_eq_true, if_true, List.cons_append]
          congr 1
          exact ih hr
    have hu : (upC c l).count c = 0 := by
      exact List.count_eq_zero.2 (upC_not_mem c l)
    have h4 : l.count c = (upC c l ++ c :: offC c l).count c := congrArg (List.count c) this
    rw [List.count_append, List.count_cons_self, hu] at h4
    omega

/-! ### Lines -/
/-- The raw lines: as a text is cut, again and again. -/
def rawL : Bs → List Bs
  | [] => []
  | b :: r => if b = 10 then [] :: rawL r else (match rawL r with | [] => [[b]] | x :: xs => (b :: x) :: xs)
theorem rawL_ne : ∀ {l : Bs}, l ≠ [] → rawL l ≠ []
  | [], h => absurd rfl h
  | b :: r, _ => by
    unfold rawL
    split
    · simp
    · split <;> simp
theorem rawL_step : ∀ {l : Bs}, l ≠ [] → rawL l = upC 10 l :: rawL (offC 10 l)
  | [], h => absurd rfl h
  | b :: r, _ => by
    by_cases hb : b = 10
    · subst hb; simp [rawL, upC, offC, List.takeWhile_cons, List.dropWhile_cons]
    · rw [rawL, if_neg hb]
      by_cases hr : r = []
      · subst hr; simp [rawL, upC, offC, List.takeWhile_cons, List.dropWhile_cons, hb]
      · rw [rawL_step hr]
        simp [upC, offC, List.takeWhile_cons, List.dropWhile_cons, hb]
theorem rawL_split (l : Bs) : splitC 10 l = rawL l ∨ splitC 10 l = rawL l ++ [[]] := by
  induction l with
  | nil => right; rfl
  | cons b r ih =>
    unfold splitC rawL
    by_cases hb : b = 10
    · rw [if_pos hb, if_pos hb]
      rcases ih with h | h
      · left; rw [h]
      · right; rw [h]; rfl
    · rw [if_neg hb, if_neg hb]
      by_cases hr : r = []
      · subst hr; left; rfl
      · cases hw : rawL r with
        | nil => exact absurd hw (rawL_ne hr)
        | cons x xs =>
          rw [hw] at ih
          rcases ih with h | h
          · left; rw [h]
          · right; rw [h]; rfl
def lineOf (x : Bs) : Option (List Bs) := if trimB (upC 35 x) = [] then none else some ((splitC 59 (trimB (upC 35 x))).map trimB)
def linesL : Nat → List Bs → List (Nat × List Bs)
  | _, [] => []
  | n, x :: r => match lineOf x with | none => linesL (n + 1) r | some f => (n + 1, f) :: linesL (n + 1) r
def linesT (t : Bs) : List (Nat × List Bs) := linesL 0 (splitC 10 t)
theorem linesL_append : ∀ (n : Nat) (xs ys : List Bs), linesL n (xs ++ ys) = linesL n xs ++ linesL (n + xs.length) ys
  | n, [], ys => by simp [linesL]
  | n, x :: xs, ys => by
    have ih := linesL_append (n + 1) xs ys
    simp only [List.cons_append, linesL]
    rw [ih, List.length_cons, show n + 1 + xs.length = n + (xs.length + 1) by omega]
    cases lineOf x <;> simp
theorem linesT_raw (t : Bs) : linesT t = linesL 0 (rawL t) := by
  unfold linesT
  rcases rawL_split t with h | h
  · rw [h]
  · rw [h, linesL_append]
    have : linesL (0 + (rawL t).length) [[]] = [] := by
      have : lineOf [] = none := if_pos rfl
      simp [linesL, this]
    rw [this, List.append_nil]
theorem linesL_take (xs : List Bs) (k : Nat) (h : k < xs.length) : linesL 0 (xs.take (k + 1)) = linesL 0 (xs.take k) ++ linesL k [xs[k]] := by
  have : xs.take (k + 1) = xs.take k ++ [xs[k]] := List.take_succ_eq_append_getElem h
  rw [this, linesL_append, List.length_take, Nat.zero_add, Nat.min_eq_left (by omega)]
theorem linesL_one_none {x : Bs} (n : Nat) (h : trimB (upC 35 x) = []) : linesL n [x] = [] := by simp [linesL, lineOf, h]
theorem linesL_one_some {x : Bs} (n : Nat) (h : trimB (upC 35 x) ≠ []) : linesL n [x] = [(n + 1, (splitC 59 (trimB (upC 35 x))).map trimB)] := by simp [linesL, lineOf, h]
theorem linesL_len : ∀ (n : Nat) (xs : List Bs), (linesL n xs).length ≤ xs.length
  | _, [] => by simp [linesL]
  | n, x :: r => by
    have := linesL_len (n + 1) r
    simp only [linesL]
    cases lineOf x <;> simp <;> omega
theorem splitC_len (c : UInt8) : ∀ (l : Bs), (splitC c l).length ≤ l.length + 1
  | [] => by simp [splitC]
  | b :: r => by
    have := splitC_len c r
    unfold splitC
    split
    · simp; omega
    · split
      · simp
      · rename_i x xs h; rw [h] at this; simp at this ⊢; omega
theorem rawL_len : ∀ (l : Bs), (rawL l).length ≤ l.length
  | [] => by simp [rawL]
  | b :: r => by
    have := rawL_len r
    unfold rawL
    split
    · simp; omega
    · split
      · simp
      · rename_i x xs h; rw [h] at this; simp at this ⊢; omega
theorem rawL_mem : ∀ (l : Bs), ∀ x ∈ rawL l, x.length ≤ l.length
  | [], x, h => by simp [rawL] at h
  | b :: r, x, hx => by
    have ih := rawL_mem r
    unfold rawL at hx
    split at hx
    · rcases List.mem_cons.1 hx with rfl | hx
      · simp
      · have := ih x hx; simp; omega
    · split at hx
      · simp at hx; subst hx; simp
      · rename_i z zs hz
        rw [hz] at ih
        rcases List.mem_cons.1 hx with rfl | hx
        · have := ih z (by simp); simp; omega
        · have := ih x (by simp [hx]); simp; omega
theorem splitC_mem (c : UInt8) : ∀ (l : Bs), ∀ x ∈ splitC c l, x.length ≤ l.length
  | [], x, h => by simp [splitC] at h; simp [h]
  | b :: r, x, hx => by
    have ih := splitC_mem c r
    unfold splitC at hx
    split at hx
    · rcases List.mem_cons.1 hx with rfl | hx
      · simp
      · have := ih x hx; simp; omega
    · split at hx
      · simp at hx; subst hx; simp
      · rename_i z zs hz
        rw [hz] at ih
        rcases List.mem_cons.1 hx with rfl | hx
        · have := ih z (by simp); simp; omega
        · have := ih x (by simp [hx]); simp; omega
theorem linesL_flen {M : Nat} : ∀ (n : Nat) (xs : List Bs), (∀ x ∈ xs, x.length ≤ M) → ∀ z ∈ linesL n xs, z.2.length ≤ M + 1
  | _, [], _, z, hz => by simp [linesL] at hz
  | n, x :: r, h, z, hz => by
    have ih := linesL_flen (n + 1) r (fun x hx => h x (by simp [hx]))
    simp only [linesL] at hz
    cases ho : lineOf x with
    | none => rw [ho] at hz; exact ih z hz
    | some f =>
      rw [ho] at hz
      rcases List.mem_cons.1 hz with rfl | hz
      · unfold lineOf at ho
        split at ho
        · cases ho
        · injection ho with ho
          subst ho
          have h1 := splitC_len 59 (trimB (upC 35 x))
          have h2 := trimB_le (upC 35 x)
          have h3 := upC_len 35 x
          have h4 := h x (by simp)
          simp only [List.length_map]; omega
      · exact ih z hz
theorem linesT_flen (l : Bs) : ∀ z ∈ linesT l, z.2.length ≤ l.length + 1 := linesL_flen 0 _ (splitC_mem 10 l)
end Go.Proofs.YtidbgfmknhlmnaaGreatDoor
