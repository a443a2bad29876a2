/-
  Plain theory of code points' texts.
-/
import Derived.Test.YtidbgfmknhlmnaaGreatDoorFieldsP
import Derived.Lib.IndexLaws
import Derived.Lib.Join
namespace Go.Proofs.YtidbgfmknhlmnaaGreatDoor

/-- A hexadecimal digit's value. -/
def hexV (b : UInt8) : Option Nat := if 48 ≤ b.toNat ∧ b.toNat ≤ 57 then some (b.toNat - 48) else if 65 ≤ b.toNat ∧ b.toNat ≤ 70 then some (b.toNat - 55) else if 97 ≤ b.toNat ∧ b.toNat ≤ 102 then some (b.toNat - 87) else none
def codeF : Nat → Bs → Option Nat
  | n, [] => some n
  | n, b :: r => match hexV b with | none => none | some d => codeF (16 * n + d) r
/-- What a text tells: a code point, or none. -/
def codeOf (l : Bs) : Option Nat := if l.length < 4 ∨ 6 < l.length then none else match codeF 0 l with | none => none | some n => if n ≤ 1114111 then some n else none
theorem hexV_lt {b : UInt8} {d : Nat} (h : hexV b = some d) : d < 16 := by
  unfold hexV at h
  split at h
  · injection h with h; omega
  · split at h
    · injection h with h; omega
    · split at h
      · injection h with h; omega
      · cases h
theorem hexV_none {b : UInt8} (h : b.toNat < 48 ∨ (58 ≤ b.toNat ∧ b.toNat ≤ 64) ∨ (71 ≤ b.toNat ∧ b.toNat ≤ 96) ∨ 103 ≤ b.toNat) : hexV b = none := by
  unfold hexV
  rw [if_neg (by omega), if_neg (by omega), if_neg (by omega)]
theorem hexV_1 {b : UInt8} (h : 48 ≤ b.toNat ∧ b.toNat ≤ 57) : hexV b = some (b.toNat - 48) := if_pos h
theorem hexV_2 {b : UInt8} (h : 65 ≤ b.toNat ∧ b.toNat ≤ 70) : hexV b = some (b.toNat - 55) := by
  unfold hexV
  rw [if_neg (by omega), if_pos h]
theorem hexV_3 {b : UInt8} (h : 97 ≤ b.toNat ∧ b.toNat ≤ 102) : hexV b = some (b.toNat - 87) := by
  unfold hexV
  rw [if_neg (by omega), if_neg (by omega), if_pos h]
theorem hex_ways (n : Nat) : (48 ≤ n ∧ n ≤ 57) ∨ (65 ≤ n ∧ n ≤ 70) ∨ (97 ≤ n ∧ n ≤ 102) ∨ n < 48 ∨ (58 ≤ n ∧ n ≤ 64) ∨ (71 ≤ n ∧ n ≤ 96) ∨ 103 ≤ n := by omega
theorem codeOf_bad {l : Bs} (h : l.length < 4 ∨ 6 < l.length) : codeOf l = none := if_pos h
theorem codeOf_none {l : Bs} (h : codeF 0 l = none) : codeOf l = none := by
  unfold codeOf
  split
  · rfl
  · rw [h]
theorem codeOf_great {l : Bs} {n : Nat} (h : codeF 0 l = some n) (hn : 1114111 < n) : codeOf l = none := by
  unfold codeOf
  split
  · rfl
  · rw [h]; exact if_neg (by omega)
theorem codeOf_some {l : Bs} {n : Nat} (hl : ¬ (l.length < 4 ∨ 6 < l.length)) (h : codeF 0 l = some n) (hn : n ≤ 1114111) : codeOf l = some n := by
  unfold codeOf
  rw [if_neg hl, h]; exact if_pos hn
theorem codeOf_le {l : Bs} {n : Nat} (h : codeOf l = some n) : n ≤ 1114111 := by
  unfold codeOf at h
  split at h
  · cases h
  · split at h
    · cases h
    · split at h
      · injection h with h; omega
      · cases h
/-- Two code points as a range. -/
def rng : Option Nat → Option Nat → Option (Nat × Nat)
  | some a, some b => if a ≤ b then some (a, b) else none
  | _, _ => none
/-- What a text tells: a range, or none. -/
def rangeOf (l : Bs) : Option (Nat × Nat) := if (Lib.cut l [46, 46]).2.2 = true then rng (codeOf (Lib.cut l [46, 46]).1) (codeOf (Lib.cut l [46, 46]).2.1) else rng (codeOf l) (codeOf l)
theorem cut_len (l sep : Bs) : (Lib.cut l sep).1.length ≤ l.length ∧ (Lib.cut l sep).2.1.length ≤ l.length := by
  unfold Lib.cut
  split <;> simp
  omega
theorem cut_false {l sep : Bs} (h : (Lib.cut l sep).2.2 = false) : (Lib.cut l sep).1 = l := by
  unfold Lib.cut at h ⊢
  split <;> simp_all
theorem cut_at {l : Bs} {i : Nat} (h : Lib.index l [46, 46] = i) : Lib.cut l [46, 46] = (l.take i, l.drop (i + 2), true) := by
  unfold Lib.cut
  rw [if_pos (by omega), h]; simp
theorem cut_not {l : Bs} (h : Lib.index l [46, 46] = -1) : Lib.cut l [46, 46] = (l, [], false) := by
  unfold Lib.cut
  rw [if_neg (by omega)]
theorem occ_dots {l : Bs} {i : Nat} (h : i + 1 < l.length) : Lib.occAt l [46, 46] i = (l[i] == 46 && l[i + 1] == 46) := by
  unfold Lib.occAt
  rw [List.drop_eq_getElem_cons (by omega : i < l.length), List.drop_eq_getElem_cons h]
  simp [List.isPrefixOf, Bool.beq_comm (a := (46 : UInt8))]

/-! ### Texts of code points -/
def hexB (d : Nat) : UInt8 := if d < 10 then UInt8.ofNat (48 + d) else UInt8.ofNat (55 + d)
def pieceT (n i : Nat) : Bs := if 0 < n / 16 ^ i ∨ i < 4 then [hexB (n / 16 ^ i % 16)] else []
/-- From the front, k places of six. -/
def ctV (n : Nat) : Nat → Bs
  | 0 => []
  | k + 1 => ctV n k ++ pieceT n (5 - k)
/-- From the back, k places. -/
def ctW (n : Nat) : Nat → Bs
  | 0 => []
  | k + 1 => hexB (n / 16 ^ k % 16) :: ctW n k
def ctK (n : Nat) : Nat := if n < 65536 then 4 else if n < 1048576 then 5 else 6
def ctN (n : Nat) : Bs := ctV n 6
def ctext (r : Int) : Bs := if r < 0 ∨ 1114111 < r then [] else ctN r.toNat
theorem ctW_len (n k : Nat) : (ctW n k).length = k := by
  induction k with
  | zero => rfl
  | succ k ih => simp [ctW, ih]
theorem ctV_len (n k : Nat) : (ctV n k).length ≤ k := by
  induction k with
  | zero => simp [ctV]
  | succ k ih =>
    have : (pieceT n (5 - k)).length ≤ 1 := by unfold pieceT; split <;> simp
    simp [ctV]; omega
theorem ctN_eq (n : Nat) (h : n ≤ 1114111) : ctN n = ctW n (ctK n) := by
  have p0 : pieceT n 0 = [hexB (n / 16 ^ 0 % 16)] := if_pos (.inr (by decide))
  have p1 : pieceT n 1 = [hexB (n / 16 ^ 1 % 16)] := if_pos (.inr (by decide))
  have p2 : pieceT n 2 = [hexB (n / 16 ^ 2 % 16)] := if_pos (.inr (by decide))
  have p3 : pieceT n 3 = [hexB (n / 16 ^ 3 % 16)] := if_pos (.inr (by decide))
  have p4 : pieceT n 4 = if 65536 ≤ n then [hexB (n / 16 ^ 4 % 16)] else [] := by
    unfold pieceT
    by_cases h4 : 65536 ≤ n
    · rw [if_pos h4, if_pos (.inl (by have : (16 : Nat) ^ 4 = 65536 := by decide
                                      rw [this]; omega))]
    · rw [if_neg h4, if_neg (by have : (16 : Nat) ^ 4 = 65536 := by decide
                                rw [this]; omega)]
  have p5 : pieceT n 5 = if 1048576 ≤ n then [hexB (n / 16 ^ 5 % 16)] else [] := by
    unfold pieceT
    by_cases h5 : 1048576 ≤ n
    · rw [if_pos h5, if_pos (.inl (by have : (16 : Nat) ^ 5 = 1048576 := by decide
                                      rw [this]; omega))]
    · rw [if_neg h5, if_neg (by have : (16 : Nat) ^ 5 = 1048576 := by decide
                                rw [this]; omega)]
  unfold ctN ctK
  simp only [ctV, Nat.sub_zero, Nat.reduceSub, List.nil_append, p0, p1, p2, p3, p4, p5]
  by_cases h4 : n < 65536
  · rw [if_neg (by omega), if_neg (by omega), if_pos h4]; rfl
  · by_cases h5 : n < 1048576
    · rw [if_neg (by omega), if_pos (by omega), if_neg h4, if_pos h5]; rfl
    · rw [if_pos (by omega), if_pos (by omega), if_neg h4, if_neg h5]; rfl
/-- The reference's loop goes on just so long. -/
theorem ctK_go {n k : Nat} (h : n ≤ 1114111) (hk : k ≤ ctK n) : (0 < n / 16 ^ k ∨ k < 4) ↔ k < ctK n := by
  have e4 : (16 : Nat) ^ 4 = 65536 := by decide
  have e5 : (16 : Nat) ^ 5 = 1048576 := by decide
  have e6 : (16 : Nat) ^ 6 = 16777216 := by decide
  unfold ctK at hk ⊢
  by_cases h3 : k < 4
  · constructor
    · intro _; split <;> (try split) <;> omega
    · intro _; exact .inr h3
  · by_cases h4 : n < 65536
    · rw [if_pos h4] at hk ⊢
      obtain rfl : k = 4 := by omega
      rw [e4]; omega
    · rw [if_neg h4] at hk ⊢
      by_cases h5 : n < 1048576
      · rw [if_pos h5] at hk ⊢
        obtain rfl | rfl : k = 4 ∨ k = 5 := by omega
        · rw [e4]; omega
        · rw [e5]; omega
      · rw [if_neg h5] at hk ⊢
        obtain rfl | rfl | rfl : k = 4 ∨ k = 5 ∨ k = 6 := by omega
        · rw [e4]; omega
        · rw [e5]; omega
        · rw [e6]; omega
theorem ctK_le (n : Nat) : ctK n ≤ 6 := by unfold ctK; split <;> (try split) <;> omega
theorem ctext_bad {r : Int} (h : r < 0 ∨ 1114111 < r) : ctext r = [] := if_pos h
theorem ctext_nat {n : Nat} (h : n ≤ 1114111) : ctext n = ctN n := by unfold ctext; rw [if_neg (by omega)]; rfl
theorem ctext_len (r : Int) : (ctext r).length ≤ 6 := by
  unfold ctext
  split
  · simp
  · exact ctV_len _ 6

/-! ### Rows -/
def rtext (xs : List Int) : Bs := Lib.join (xs.map ctext) [32]
theorem join_snoc (sep : Bs) : ∀ (xs : List Bs) (x : Bs), xs ≠ [] → Lib.join (xs ++ [x]) sep = Lib.join xs sep ++ sep ++ x
  | [], _, h => absurd rfl h
  | y :: r, x, _ => by
    rw [List.cons_append, Lib.join_cons, Lib.join_cons]
    simp [Lib.joinTail, List.append_assoc]
theorem rtext_zero : rtext [] = [] := rfl
theorem rtext_one (x : Int) : rtext [x] = ctext x := Lib.join_one _ _
theorem rtext_snoc (xs : List Int) (x : Int) (h : xs ≠ []) : rtext (xs ++ [x]) = rtext xs ++ [32] ++ ctext x := by
  unfold rtext
  rw [List.map_append]
  exact join_snoc _ _ _ (by simpa using h)
theorem rtext_len : ∀ xs : List Int, (rtext xs).length ≤ 7 * xs.length
  | [] => by simp [rtext_zero]
  | x :: r => by
    unfold rtext
    rw [List.map_cons, Lib.join_cons, List.length_append, Lib.joinTail_length]
    have h1 := ctext_len x
    have h2 : Lib.lens (r.map ctext) ≤ 6 * r.length := by
      clear h1
      induction r with
      | nil => simp [Lib.lens]
      | cons y t ih =>
        have := ctext_len y
        simp only [Lib.lens, List.map_cons, List.sum_cons, List.length_cons] at ih ⊢
        omega
    simp only [List.length_map, List.length_cons, List.length_nil]
    omega
end Go.Proofs.YtidbgfmknhlmnaaGreatDoor
