/-
  Texts of this claim, one behind the other: UtfP, UtfA, Bits.
-/
import Derived.Test.YtmalclclopnlnaaGreatPk00
import Derived.Test.YtmalclclopnlnaaGreatPk01
import Derived.Test.YtmalclclopnlnaaGreatProg
import Derived.IntWalk
import Derived.Laws.Entries
/-
  Plain theory of runes as bytes: the first rune, told by ranges; the program's way and the document's way to it.
-/
namespace Go.Proofs.YtmalclclopnlnaaGreat

def ct (b : UInt8) : Bool := decide (128 ≤ b.toNat) && decide (b.toNat < 192)
def mayN (r : Nat) : Bool := decide (r ≤ 1114111) && !(decide (55296 ≤ r) && decide (r ≤ 57343))
/-- How many bytes a rune has; 0: it is none. -/
def sizeN (r : Nat) : Nat := if mayN r then (if r < 128 then 1 else if r < 2048 then 2 else if r < 65536 then 3 else 4) else 0
/-- What a first byte has of a rune, and how many bytes are behind it. -/
def headN (c : Nat) : Option (Nat × Nat) := if c < 128 then some (c, 0) else if 194 ≤ c ∧ c < 224 then some (c % 32, 1) else if 224 ≤ c ∧ c < 240 then some (c % 16, 2) else if 240 ≤ c ∧ c < 245 then some (c % 8, 3) else none
def tailN (r : Nat) : Bs → Nat := fun l => l.foldl (fun a b => 64 * a + b.toNat % 64) r
/-- The first rune, and how many bytes it has; none: there is none. -/
def nextU : Bs → Option (Nat × Nat)
  | [] => none
  | a :: s => match headN a.toNat with
    | none => none
    | some (r, n) => if s.length < n then none else if (s.take n).all ct then (if sizeN (tailN r (s.take n)) = n + 1 then some (tailN r (s.take n), n + 1) else none) else none

theorem headN_le {c r n : Nat} (h : headN c = some (r, n)) : n ≤ 3 ∧ r ≤ c ∧ r < 128 := by
  unfold headN at h
  split at h
  · cases h; omega
  · split at h
    · cases h; omega
    · split at h
      · cases h; omega
      · split at h
        · cases h; omega
        · cases h
theorem nextU_pos {s : Bs} {r n : Nat} (h : nextU s = some (r, n)) : 0 < n ∧ n ≤ 4 ∧ n ≤ s.length ∧ mayN r = true ∧ sizeN r = n := by
  cases s with
  | nil => cases h
  | cons a s =>
    simp only [nextU] at h
    cases hh : headN a.toNat with
    | none => rw [hh] at h; cases h
    | some p =>
      obtain ⟨q, k⟩ := p
      have := headN_le hh
      rw [hh] at h
      simp only at h
      split at h
      · cases h
      · split at h
        · split at h
          · rename_i h1 h2 h3
            cases h
            refine ⟨by omega, by omega, by simp; omega, ?_, h3⟩
            unfold sizeN at h3
            split at h3
            · assumption
            · omega
          · cases h
        · cases h
theorem mayN_le {r : Nat} (h : mayN r = true) : r ≤ 1114111 := by
  unfold mayN at h
  simp at h
  exact h.1

/-- The runes up to where none stands, and that place. -/
def decU : Nat → Bs → List Nat × Nat
  | 0, _ => ([], 0)
  | f + 1, s => match nextU s with
    | none => ([], 0)
    | some (r, n) => let p := decU f (s.drop n); (r :: p.1, n + p.2)
def runesU (s : Bs) : List Nat := (decU s.length s).1
def endU (s : Bs) : Nat := (decU s.length s).2
def validU (s : Bs) : Bool := decide (endU s = s.length)
theorem decU_more : ∀ (f g : Nat) (s : Bs), s.length ≤ f → s.length ≤ g → decU f s = decU g s
  | 0, 0, _, _, _ => rfl
  | 0, g + 1, s, h, _ => by
    have : s = [] := List.eq_nil_of_length_eq_zero (by omega)
    subst this; rfl
  | f + 1, 0, s, _, h => by
    have : s = [] := List.eq_nil_of_length_eq_zero (by omega)
    subst this; rfl
  | f + 1, g + 1, s, h1, h2 => by
    simp only [decU]
    cases hn : nextU s with
    | none => rfl
    | some p =>
      obtain ⟨r, n⟩ := p
      have := nextU_pos hn
      simp only
      rw [decU_more f g (s.drop n) (by simp; omega) (by simp; omega)]
theorem decU_none {f : Nat} {s : Bs} (h : nextU s = none) : decU f s = ([], 0) := by
  cases f with
  | zero => rfl
  | succ f => simp only [decU, h]
theorem runesU_some {s : Bs} {r n : Nat} (h : nextU s = some (r, n)) : runesU s = r :: runesU (s.drop n) ∧ endU s = n + endU (s.drop n) := by
  have hp := nextU_pos h
  unfold runesU endU
  obtain ⟨k, hk⟩ : ∃ k, s.length = k + 1 := ⟨s.length - 1, by omega⟩
  rw [hk]
  simp only [decU, h]
  rw [decU_more k (s.drop n).length (s.drop n) (by simp; omega) (Nat.le_refl _)]
  exact ⟨rfl, rfl⟩
theorem runesU_none {s : Bs} (h : nextU s = none) : runesU s = [] ∧ endU s = 0 := by
  unfold runesU endU
  rw [decU_none h]
  exact ⟨rfl, rfl⟩
theorem endU_le : ∀ (f : Nat) (s : Bs), (decU f s).2 ≤ s.length
  | 0, _ => Nat.zero_le _
  | f + 1, s => by
    simp only [decU]
    cases hn : nextU s with
    | none => exact Nat.zero_le _
    | some p =>
      obtain ⟨r, n⟩ := p
      have := nextU_pos hn
      have ih := endU_le f (s.drop n)
      simp at ih ⊢
      omega
theorem runesU_len (s : Bs) : (runesU s).length ≤ s.length := by
  have h : ∀ (f : Nat) (s : Bs), (decU f s).1.length ≤ s.length := by
    intro f
    induction f with
    | zero => intro s; exact Nat.zero_le _
    | succ f ih =>
      intro s
      simp only [decU]
      cases hn : nextU s with
      | none => exact Nat.zero_le _
      | some p =>
        obtain ⟨r, n⟩ := p
        have := nextU_pos hn
        have ih := ih (s.drop n)
        simp at ih ⊢
        omega
  exact h _ s

/-! ### The document's way -/
/-- The bytes of a rune. -/
def putN (r : Nat) : List Nat :=
  if r ≤ 127 then [r] else if r ≤ 2047 then [192 + r / 64, 128 + r % 64] else if r ≤ 65535 then [224 + r / 4096, 128 + r / 64 % 64, 128 + r % 64]
  else [240 + r / 262144, 128 + r / 4096 % 64, 128 + r / 64 % 64, 128 + r % 64]
def firstM : Nat → Nat → Nat
  | 1, c => c
  | 2, c => c % 32
  | 3, c => c % 16
  | _, c => c % 8
/-- The number of the first n bytes. -/
def numR (n : Nat) : List Nat → Nat
  | [] => 0
  | a :: s => (s.take (n - 1)).foldl (fun x b => 64 * x + b % 64) (firstM n a)
def hitR (n : Nat) (s : List Nat) : Bool := decide (n ≤ s.length) && mayN (numR n s) && decide (putN (numR n s) = s.take n)
/-- The first n from k on that fits. -/
def tryR (s : List Nat) : Nat → Nat → Option (Nat × Nat)
  | 0, _ => none
  | f + 1, n => if hitR n s then some (numR n s, n) else tryR s f (n + 1)
def natB (s : Bs) : List Nat := s.map UInt8.toNat
theorem natB_lt (s : Bs) : ∀ x ∈ natB s, x < 256 := fun x hx => by
  obtain ⟨b, _, rfl⟩ := List.mem_map.1 hx
  exact b.toNat_lt
def ctN (b : Nat) : Bool := decide (128 ≤ b) && decide (b < 192)
theorem hit_short {n : Nat} {s : List Nat} (h : s.length < n) : hitR n s = false := by
  unfold hitR
  simp only [Bool.and_eq_false_imp, decide_eq_true_eq, Bool.and_eq_true]
  omega
theorem hit1 (a : Nat) (s : List Nat) (ha : a < 256) : hitR 1 (a :: s) = decide (a < 128) := by
  have e : numR 1 (a :: s) = a := rfl
  have hm : mayN a = true := by unfold mayN; simp; omega
  unfold hitR
  rw [e, hm]
  simp only [List.length_cons, List.take_succ_cons, List.take_zero]
  rw [Bool.eq_iff_iff]
  simp only [Bool.and_true, Bool.and_eq_true, decide_eq_true_eq]
  unfold putN
  by_cases h1 : a ≤ 127
  · rw [if_pos h1]; simp; omega
  · rw [if_neg h1, if_pos (by omega)]
    simp; omega
theorem hit2 (a b : Nat) (s : List Nat) (ha : a < 256) (hb : b < 256) : hitR 2 (a :: b :: s) = (decide (194 ≤ a ∧ a < 224) && ctN b) := by
  obtain ⟨r, hr⟩ : ∃ r, r = 64 * (a % 32) + b % 64 := ⟨_, rfl⟩
  have e : numR 2 (a :: b :: s) = r := by rw [hr]; rfl
  have hm : mayN r = true := by unfold mayN; simp; omega
  unfold hitR
  rw [e, hm]
  simp only [List.length_cons, List.take_succ_cons, List.take_zero]
  rw [Bool.eq_iff_iff]
  unfold ctN putN
  simp only [Bool.and_true, Bool.and_eq_true, decide_eq_true_eq]
  by_cases h1 : r ≤ 127
  · rw [if_pos h1]; simp; omega
  · rw [if_neg h1, if_pos (by omega)]
    simp; omega
theorem hit3 (a b c : Nat) (s : List Nat) (ha : a < 256) (hb : b < 256) (hc : c < 256) :
    hitR 3 (a :: b :: c :: s) = (decide (224 ≤ a ∧ a < 240) && (ctN b && ctN c) && decide (sizeN (64 * (64 * (a % 16) + b % 64) + c % 64) = 3)) := by
  obtain ⟨r, hr⟩ : ∃ r, r = 64 * (64 * (a % 16) + b % 64) + c % 64 := ⟨_, rfl⟩
  have e : numR 3 (a :: b :: c :: s) = r := by rw [hr]; rfl
  rw [← hr]
  unfold hitR
  rw [e]
  simp only [List.length_cons, List.take_succ_cons, List.take_zero]
  rw [Bool.eq_iff_iff]
  unfold ctN putN sizeN
  simp only [Bool.and_eq_true, decide_eq_true_eq]
  by_cases hm : mayN r = true
  · rw [if_pos hm, hm]
    by_cases h1 : r ≤ 127
    · rw [if_pos h1, if_pos (by omega)]; simp
    · by_cases h2 : r ≤ 2047
      · rw [if_neg h1, if_pos h2, if_neg (by omega), if_pos (by omega)]; simp
      · rw [if_neg h1, if_neg h2, if_pos (by omega), if_neg (by omega), if_neg (by omega), if_pos (by omega)]
        simp; omega
  · rw [if_neg hm]; simp [hm]
theorem hit4 (a b c d : Nat) (s : List Nat) (ha : a < 256) (hb : b < 256) (hc : c < 256) (hd : d < 256) :
    hitR 4 (a :: b :: c :: d :: s) = (decide (240 ≤ a ∧ a < 245) && (ctN b && (ctN c && ctN d)) && decide (sizeN (64 * (64 * (64 * (a % 8) + b % 64) + c % 64) + d % 64) = 4)) := by
  obtain ⟨r, hr⟩ : ∃ r, r = 64 * (64 * (64 * (a % 8) + b % 64) + c % 64) + d % 64 := ⟨_, rfl⟩
  have e : numR 4 (a :: b :: c :: d :: s) = r := by rw [hr]; rfl
  rw [← hr]
  unfold hitR
  rw [e]
  simp only [List.length_cons, List.take_succ_cons, List.take_zero]
  rw [Bool.eq_iff_iff]
  unfold ctN putN sizeN
  simp only [Bool.and_eq_true, decide_eq_true_eq]
  by_cases hm : mayN r = true
  · have hle := mayN_le hm
    rw [if_pos hm, hm]
    by_cases h1 : r ≤ 127
    · rw [if_pos h1, if_pos (by omega)]; simp
    · by_cases h2 : r ≤ 2047
      · rw [if_neg h1, if_pos h2, if_neg (by omega), if_pos (by omega)]; simp
      · by_cases h3 : r ≤ 65535
        · rw [if_neg h1, if_neg h2, if_pos h3, if_neg (by omega), if_neg (by omega), if_pos (by omega)]; simp
        · rw [if_neg h1, if_neg h2, if_neg h3, if_neg (by omega), if_neg (by omega), if_neg (by omega)]
          simp; omega
  · rw [if_neg hm]; simp [hm]
theorem ct_eq (b : UInt8) : ct b = ctN b.toNat := rfl
theorem num3 (a b c : Nat) (s : List Nat) : numR 3 (a :: b :: c :: s) = 64 * (64 * (a % 16) + b % 64) + c % 64 := rfl
theorem num4 (a b c d : Nat) (s : List Nat) : numR 4 (a :: b :: c :: d :: s) = 64 * (64 * (64 * (a % 8) + b % 64) + c % 64) + d % 64 := rfl
theorem num2 (a b : Nat) (s : List Nat) : numR 2 (a :: b :: s) = 64 * (a % 32) + b % 64 := rfl
theorem size2 {r : Nat} (h1 : 128 ≤ r) (h2 : r < 2048) : sizeN r = 1 + 1 := by
  have hm : mayN r = true := by unfold mayN; simp; omega
  unfold sizeN; rw [if_pos hm, if_neg (by omega), if_pos h2]
theorem size1 {r : Nat} (h : r < 128) : sizeN r = 1 := by
  have hm : mayN r = true := by unfold mayN; simp; omega
  unfold sizeN; rw [if_pos hm, if_pos h]
theorem tryR_nil (s : List Nat) : tryR s 0 5 = none := rfl
theorem tryR_go (s : List Nat) (f n : Nat) : tryR s (f + 1) n = if hitR n s then some (numR n s, n) else tryR s f (n + 1) := rfl
theorem next_eq (s : Bs) : tryR (natB s) 4 1 = nextU s := by
  cases s with
  | nil => rfl
  | cons a s =>
    have ha := a.toNat_lt
    rw [tryR_go, tryR_go, tryR_go, tryR_go, tryR_nil]
    show (if hitR 1 (a.toNat :: natB s) then _ else _) = _
    rw [hit1 _ _ ha]
    simp only [nextU]
    by_cases h1 : a.toNat < 128
    · rw [if_pos (by simpa using h1)]
      have hh : headN a.toNat = some (a.toNat, 0) := by unfold headN; rw [if_pos h1]
      rw [hh]
      simp only
      rw [if_neg (by omega)]
      simp [tailN, size1 h1]
      rfl
    rw [if_neg (by simpa using h1)]
    by_cases h2 : 194 ≤ a.toNat ∧ a.toNat < 224
    · have hh : headN a.toNat = some (a.toNat % 32, 1) := by unfold headN; rw [if_neg h1, if_pos h2]
      rw [hh]
      simp only
      rcases s with _ | ⟨b, s⟩
      · rw [hit_short (by simp [natB]), hit_short (by simp [natB]), hit_short (by simp [natB])]; simp
      have hb := b.toNat_lt
      show (if hitR 2 (a.toNat :: b.toNat :: natB s) then _ else if hitR 3 (a.toNat :: b.toNat :: natB s) then _ else if hitR 4 (a.toNat :: b.toNat :: natB s) then _ else _) = _
      rw [hit2 _ _ _ ha hb]
      simp only [List.length_cons, List.take_succ_cons, List.take_zero, List.all_cons, List.all_nil, Bool.and_true, ct_eq, h2, and_self, decide_true, Bool.true_and]
      rw [if_neg (show ¬ (s.length + 1 < 1) by omega)]
      show _ = if ctN b.toNat = true then (if sizeN (64 * (a.toNat % 32) + b.toNat % 64) = 1 + 1 then _ else _) else _
      by_cases hc : ctN b.toNat = true
      · rw [if_pos hc, if_pos hc]
        have : sizeN (64 * (a.toNat % 32) + b.toNat % 64) = 1 + 1 := size2 (by omega) (by omega)
        rw [if_pos this]; rfl
      · rw [if_neg hc, if_neg hc]
        have n3 : hitR 3 (a.toNat :: b.toNat :: natB s) = false := by
          rcases s with _ | ⟨c, s⟩
          · exact hit_short (by simp [natB])
          · show hitR 3 (a.toNat :: b.toNat :: c.toNat :: natB s) = false
            rw [hit3 _ _ _ _ ha hb c.toNat_lt]
            simp; omega
        have n4 : hitR 4 (a.toNat :: b.toNat :: natB s) = false := by
          rcases s with _ | ⟨c, _ | ⟨d, s⟩⟩
          · exact hit_short (by simp [natB])
          · exact hit_short (by simp [natB])
          · show hitR 4 (a.toNat :: b.toNat :: c.toNat :: d.toNat :: natB s) = false
            rw [hit4 _ _ _ _ _ ha hb c.toNat_lt d.toNat_lt]
            simp; omega
        rw [n3, n4]; rfl
    have n2 : hitR 2 (a.toNat :: natB s) = false := by
      rcases s with _ | ⟨b, s⟩
      · exact hit_short (by simp [natB])
      · show hitR 2 (a.toNat :: b.toNat :: natB s) = false
        rw [hit2 _ _ _ ha b.toNat_lt]
        simp; omega
    show (if hitR 2 (a.toNat :: natB s) then _ else if hitR 3 (a.toNat :: natB s) then _ else if hitR 4 (a.toNat :: natB s) then _ else _) = _
    rw [n2]
    simp only [Bool.false_eq_true, if_false]
    by_cases h3 : 224 ≤ a.toNat ∧ a.toNat < 240
    · have hh : headN a.toNat = some (a.toNat % 16, 2) := by unfold headN; rw [if_neg h1, if_neg h2, if_pos h3]
      rw [hh]
      simp only
      have n4 : hitR 4 (a.toNat :: natB s) = false := by
        rcases s with _ | ⟨b, _ | ⟨c, _ | ⟨d, s⟩⟩⟩
        · exact hit_short (by simp [natB])
        · exact hit_short (by simp [natB])
        · exact hit_short (by simp [natB])
        · show hitR 4 (a.toNat :: b.toNat :: c.toNat :: d.toNat :: natB s) = false
          rw [hit4 _ _ _ _ _ ha b.toNat_lt c.toNat_lt d.toNat_lt]
          simp; omega
      rw [n4]
      rcases s with _ | ⟨b, _ | ⟨c, s⟩⟩
      · rw [hit_short (by simp [natB])]; simp
      · rw [hit_short (by simp [natB])]; simp
      · show (if hitR 3 (a.toNat :: b.toNat :: c.toNat :: natB s) then some (numR 3 (a.toNat :: b.toNat :: c.toNat :: natB s), 3) else _) = _
        rw [hit3 _ _ _ _ ha b.toNat_lt c.toNat_lt, num3]
        simp only [List.length_cons, List.take_succ_cons, List.take_zero, List.all_cons, List.all_nil, Bool.and_true, ct_eq, h3, and_self, decide_true, Bool.true_and, Bool.false_eq_true, if_false]
        rw [if_neg (show ¬ (s.length + 1 + 1 < 2) by omega)]
        show _ = if (ctN b.toNat && ctN c.toNat) = true then (if sizeN (64 * (64 * (a.toNat % 16) + b.toNat % 64) + c.toNat % 64) = 3 then _ else _) else _
        by_cases hc : (ctN b.toNat && ctN c.toNat) = true
        · rw [if_pos hc, hc, Bool.true_and]
          by_cases hz : sizeN (64 * (64 * (a.toNat % 16) + b.toNat % 64) + c.toNat % 64) = 3
          · rw [if_pos hz, if_pos (by simpa using hz)]; rfl
          · rw [if_neg hz, if_neg (by simpa using hz)]
        · rw [if_neg hc]
          have : (ctN b.toNat && ctN c.toNat) = false := by simpa using hc
          rw [this]; simp
    have n3 : hitR 3 (a.toNat :: natB s) = false := by
      rcases s with _ | ⟨b, _ | ⟨c, s⟩⟩
      · exact hit_short (by simp [natB])
      · exact hit_short (by simp [natB])
      · show hitR 3 (a.toNat :: b.toNat :: c.toNat :: natB s) = false
        rw [hit3 _ _ _ _ ha b.toNat_lt c.toNat_lt]
        simp; omega
    rw [n3]
    simp only [Bool.false_eq_true, if_false]
    by_cases h4 : 240 ≤ a.toNat ∧ a.toNat < 245
    · have hh : headN a.toNat = some (a.toNat % 8, 3) := by unfold headN; rw [if_neg h1, if_neg h2, if_neg h3, if_pos h4]
      rw [hh]
      simp only
      rcases s with _ | ⟨b, _ | ⟨c, _ | ⟨d, s⟩⟩⟩
      · rw [hit_short (by simp [natB])]; simp
      · rw [hit_short (by simp [natB])]; simp
      · rw [hit_short (by simp [natB])]; simp
      · show (if hitR 4 (a.toNat :: b.toNat :: c.toNat :: d.toNat :: natB s) then some (numR 4 (a.toNat :: b.toNat :: c.toNat :: d.toNat :: natB s), 4) else _) = _
        rw [hit4 _ _ _ _ _ ha b.toNat_lt c.toNat_lt d.toNat_lt, num4]
        simp only [List.length_cons, List.take_succ_cons, List.take_zero, List.all_cons, List.all_nil, Bool.and_true, ct_eq, h4, and_self, decide_true, Bool.true_and]
        rw [if_neg (show ¬ (s.length + 1 + 1 + 1 < 3) by omega)]
        show _ = if (ctN b.toNat && (ctN c.toNat && ctN d.toNat)) = true then (if sizeN (64 * (64 * (64 * (a.toNat % 8) + b.toNat % 64) + c.toNat % 64) + d.toNat % 64) = 4 then _ else _) else _
        by_cases hc : (ctN b.toNat && (ctN c.toNat && ctN d.toNat)) = true
        · rw [if_pos hc, hc, Bool.true_and]
          by_cases hz : sizeN (64 * (64 * (64 * (a.toNat % 8) + b.toNat % 64) + c.toNat % 64) + d.toNat % 64) = 4
          · rw [if_pos hz, if_pos (by simpa using hz)]; rfl
          · rw [if_neg hz, if_neg (by simpa using hz)]
        · rw [if_neg hc]
          have : (ctN b.toNat && (ctN c.toNat && ctN d.toNat)) = false := by simpa using hc
          rw [this]; simp
    · have hh : headN a.toNat = none := by unfold headN; rw [if_neg h1, if_neg h2, if_neg h3, if_neg h4]
      rw [hh]
      have n4 : hitR 4 (a.toNat :: natB s) = false := by
        rcases s with _ | ⟨b, _ | ⟨c, _ | ⟨d, s⟩⟩⟩
        · exact hit_short (by simp [natB])
        · exact hit_short (by simp [natB])
        · exact hit_short (by simp [natB])
        · show hitR 4 (a.toNat :: b.toNat :: c.toNat :: d.toNat :: natB s) = false
          rw [hit4 _ _ _ _ _ ha b.toNat_lt c.toNat_lt d.toNat_lt]
          simp; omega
      rw [n4]; rfl
end Go.Proofs.YtmalclclopnlnaaGreat
/-
  The package utf: the first rune.
-/
namespace Go.Proofs.YtmalclclopnlnaaGreat
open Go.RowKit Go.Shelf
attribute [local go_sem] Oper.semAt_some

def mayI (r : Int) : Bool := decide (0 ≤ r) && decide (r ≤ 1114111) && (decide (r < 55296) || decide (57343 < r))
theorem mayI_nat (n : Nat) : mayI n = mayN n := by
  unfold mayI mayN
  rw [Bool.eq_iff_iff]
  simp
  omega
/-- Where a number stands among a rune's bounds. -/
structure MT (r : Int) (a b c d : Bool) : Prop where
  h1 : decide (0 ≤ r) = a
  h2 : decide (r ≤ 1114111) = b
  h3 : decide (r < 55296) = c
  h4 : decide (57343 < r) = d
theorem mts (r : Int) : ∃ a b c d, MT r a b c d := ⟨_, _, _, _, rfl, rfl, rfl, rfl⟩
set_option maxRecDepth 100000 in
set_option maxHeartbeats 1000000 in
theorem umay_any (r : Int) (w : World) : Calls Tryz.prog 140 #[.int .i32 r] w fun e w' => e = .returned (.bool (mayI r)) ∧ w = w' := by
  obtain ⟨a, b, c, d, h1, h2, h3, h4⟩ := mts r
  have hm : mayI r = (a && b && (c || d)) := by unfold mayI; rw [h1, h2, h3, h4]
  rw [hm]
  clear hm
  cases a <;> cases b <;> cases c <;> cases d
  all_goals
    go_enter Tryz.func140, Tryz.ntmps140
    go_wp2
    go_ret
    exact ⟨rfl, rfl⟩
set_option maxRecDepth 100000 in
set_option maxHeartbeats 1000000 in
theorem rmay_any (r : Int) (w : World) : Calls Tryz.prog 132 #[.int .i32 r] w fun e w' => e = .returned (.bool (mayI r)) ∧ w = w' := by
  obtain ⟨a, b, c, d, h1, h2, h3, h4⟩ := mts r
  have hm : mayI r = (a && b && (c || d)) := by unfold mayI; rw [h1, h2, h3, h4]
  rw [hm]
  clear hm
  cases a <;> cases b <;> cases c <;> cases d
  all_goals
    go_enter Tryz.func132, Tryz.ntmps132
    go_wp2
    go_ret
    exact ⟨rfl, rfl⟩
set_option maxRecDepth 100000 in
set_option maxHeartbeats 1000000 in
theorem usize_any (r : Nat) (w : World) : Calls Tryz.prog 135 #[.int .i32 r] w fun e w' => e = .returned (.int .i64 (sizeN r : Nat)) ∧ w = w' := by
  have HM := Lib.hid (fun X => umay_any r X)
  rw [mayI_nat] at HM
  obtain ⟨z, hz⟩ : ∃ z, z = sizeN r := ⟨_, rfl⟩
  rw [← hz]
  have HZ := Lib.hid hz
  clear hz
  cases hm : mayN r
  · rw [hm] at HM
    obtain rfl : z = 0 := by rw [HZ.out]; unfold sizeN; rw [hm]; rfl
    clear hm
    go_enter Tryz.func135, Tryz.ntmps135
    go_wp2_with (go_at_call 140; refine (HM.out _).mono ?_; rintro e w' ⟨rfl, rfl⟩)
    go_ret
    exact ⟨rfl, rfl⟩
  · rw [hm] at HM
    have hz2 : z = if r < 128 then 1 else if r < 2048 then 2 else if r < 65536 then 3 else 4 := by rw [HZ.out]; unfold sizeN; rw [hm]; rfl
    clear hm
    obtain ⟨x1, e1⟩ : ∃ x, decide ((r : Int) < 128) = x := ⟨_, rfl⟩
    obtain ⟨x2, e2⟩ : ∃ x, decide ((r : Int) < 2048) = x := ⟨_, rfl⟩
    obtain ⟨x3, e3⟩ : ∃ x, decide ((r : Int) < 65536) = x := ⟨_, rfl⟩
    have hz3 : z = if x1 then 1 else if x2 then 2 else if x3 then 3 else 4 := by
      rw [hz2, ← e1, ← e2, ← e3]
      have q1 : (decide ((r : Int) < 128) = true) = (r < 128) := by rw [decide_eq_true_eq]; exact propext (by omega)
      have q2 : (decide ((r : Int) < 2048) = true) = (r < 2048) := by rw [decide_eq_true_eq]; exact propext (by omega)
      have q3 : (decide ((r : Int) < 65536) = true) = (r < 65536) := by rw [decide_eq_true_eq]; exact propext (by omega)
      simp only [q1, q2, q3]
    clear hz2 HZ
    cases x1
    case' true =>
      obtain rfl : z = 1 := hz3
    case' false =>
      cases x2
      case' true =>
        obtain rfl : z = 2 := hz3
      case' false =>
        cases x3
        case' true =>
          obtain rfl : z = 3 := hz3
        case' false =>
          obtain rfl : z = 4 := hz3
    all_goals
      go_enter Tryz.func135, Tryz.ntmps135
      go_wp2_with (go_at_call 140; refine (HM.out _).mono ?_; rintro e w' ⟨rfl, rfl⟩)
      go_ret
      exact ⟨rfl, rfl⟩

/-! ### Bit words on bytes -/
theorem ofInt8 (a : Nat) (ha : a < 256) : (BitVec.ofInt 8 (a : Int)).toNat = a := by
  rw [BitVec.ofInt_natCast, BitVec.toNat_ofNat]; exact Nat.mod_eq_of_lt (by omega)
theorem wrap_u8 (n : Nat) (h : n < 256) : IntKind.u8.wrap (n : Int) = n := by
  simp [IntKind.wrap, IntKind.bits, IntKind.signed]; omega
theorem u8_and (a b : Nat) (ha : a < 256) (hb : b < 256) : bits .and .u8 (a : Int) (b : Int) = ((a &&& b : Nat) : Int) := by
  have hx : a &&& b < 2 ^ 8 := Nat.and_lt_two_pow _ (by omega)
  show IntKind.u8.wrap ((BitVec.ofInt 8 (a : Int) &&& BitVec.ofInt 8 (b : Int)).toNat : Int) = _
  rw [BitVec.toNat_and, ofInt8 a (by omega), ofInt8 b (by omega), wrap_u8 _ (by omega)]
theorem u8_and_low (a k : Nat) (ha : a < 256) (hk : 2 ^ k - 1 < 256) : bits .and .u8 (a : Int) ((2 ^ k - 1 : Nat) : Int) = ((a % 2 ^ k : Nat) : Int) := by
  rw [u8_and a _ ha hk, Nat.and_two_pow_sub_one_eq_mod]
theorem and192 : ∀ a : Fin 256, ((a.val &&& 192) = 128 ↔ 128 ≤ a.val ∧ a.val < 192) := by decide +kernel
theorem u8_and192 (b : UInt8) : (bits .and .u8 (b.toNat : Int) 192 == 128) = ct b := by
  have h := u8_and b.toNat 192 b.toNat_lt (by decide)
  rw [show ((192 : Nat) : Int) = 192 from rfl] at h
  rw [h, Bool.eq_iff_iff]
  unfold ct
  have h2 := and192 ⟨b.toNat, b.toNat_lt⟩
  simp only [beq_iff_eq, Bool.and_eq_true, decide_eq_true_eq]
  constructor
  · intro e
    exact h2.1 (by show b.toNat &&& 192 = 128; omega)
  · intro e
    have := h2.2 e
    have : b.toNat &&& 192 = 128 := this
    omega

/-! ### The head -/
def headV : Option (Nat × Nat) → Value
  | none => .tuple #[.int .i32 0, .int .i64 (-1)]
  | some (r, n) => .tuple #[.int .i32 (r : Int), .int .i64 (n : Int)]
theorem and_k (c : UInt8) {k m : Nat} (hk : k = 2 ^ m - 1) (h : k < 256) : bits .and .u8 (c.toNat : Int) (k : Int) = ((c.toNat % 2 ^ m : Nat) : Int) := by
  subst hk
  exact u8_and_low _ _ c.toNat_lt h
set_option maxRecDepth 100000 in
set_option maxHeartbeats 1000000 in
theorem uhead_any (c : UInt8) (w : World) : Calls Tryz.prog 142 #[.int .u8 c.toNat] w fun e w' => e = .returned (headV (headN c.toNat)) ∧ w = w' := by
  have h31 := Lib.hid (show bits .and .u8 (c.toNat : Int) 31 = ((c.toNat % 32 : Nat) : Int) from and_k c (k := 31) (m := 5) rfl (by decide))
  have h15 := Lib.hid (show bits .and .u8 (c.toNat : Int) 15 = ((c.toNat % 16 : Nat) : Int) from and_k c (k := 15) (m := 4) rfl (by decide))
  have h7 := Lib.hid (show bits .and .u8 (c.toNat : Int) 7 = ((c.toNat % 8 : Nat) : Int) from and_k c (k := 7) (m := 3) rfl (by decide))
  have hb := c.toNat_lt
  generalize c.toNat = n at *
  by_cases h1 : n < 128
  · have hh : headN n = some (n, 0) := by unfold headN; rw [if_pos h1]
    rw [hh]
    clear hh
    go_enter Tryz.func142, Tryz.ntmps142
    go_wp2
    go_ret2
    exact ⟨rfl, rfl⟩
  by_cases h2 : 194 ≤ n ∧ n < 224
  · have hh : headN n = some (n % 32, 1) := by unfold headN; rw [if_neg h1, if_pos h2]
    rw [hh]
    clear hh
    obtain ⟨q, hq⟩ : ∃ q, q = n % 32 := ⟨_, rfl⟩
    rw [← hq] at h31 ⊢
    have hql : q < 32 := by omega
    have h31' := h31.out
    clear hq h15 h7
    obtain ⟨g1, g2⟩ := h2
    go_enter Tryz.func142, Tryz.ntmps142
    go_wp2
    go_ret2
    exact ⟨rfl, rfl⟩
  by_cases h3 : 224 ≤ n ∧ n < 240
  · have hh : headN n = some (n % 16, 2) := by unfold headN; rw [if_neg h1, if_neg h2, if_pos h3]
    rw [hh]
    clear hh h2
    obtain ⟨q, hq⟩ : ∃ q, q = n % 16 := ⟨_, rfl⟩
    rw [← hq] at h15 ⊢
    have hql : q < 16 := by omega
    have h15' := h15.out
    clear hq h31 h7
    obtain ⟨g1, g2⟩ := h3
    go_enter Tryz.func142, Tryz.ntmps142
    go_wp2
    go_ret2
    exact ⟨rfl, rfl⟩
  by_cases h4 : 240 ≤ n ∧ n < 245
  · have hh : headN n = some (n % 8, 3) := by unfold headN; rw [if_neg h1, if_neg h2, if_neg h3, if_pos h4]
    rw [hh]
    clear hh h2 h3
    obtain ⟨q, hq⟩ : ∃ q, q = n % 8 := ⟨_, rfl⟩
    rw [← hq] at h7 ⊢
    have hql : q < 8 := by omega
    have h7' := h7.out
    clear hq h31 h15
    obtain ⟨g1, g2⟩ := h4
    go_enter Tryz.func142, Tryz.ntmps142
    go_wp2
    go_ret2
    exact ⟨rfl, rfl⟩
  · have hh : headN n = none := by unfold headN; rw [if_neg h1, if_neg h2, if_neg h3, if_neg h4]
    rw [hh]
    clear hh h31 h15 h7
    rcases (show (128 ≤ n ∧ n < 194) ∨ 245 ≤ n by omega) with ⟨g1, g2⟩ | g1
    all_goals
      clear h2 h3 h4
      go_enter Tryz.func142, Tryz.ntmps142
      go_wp2
      go_ret2
      exact ⟨rfl, rfl⟩
end Go.Proofs.YtmalclclopnlnaaGreat
/-
  Bit words on 32-bit integers that are not below 0.
-/
namespace Go.Proofs.YtmalclclopnlnaaGreat
theorem wrap_i32 (n : Nat) (h : n < 2147483648) : IntKind.i32.wrap (n : Int) = n := by
  simp [IntKind.wrap, IntKind.bits, IntKind.signed]; omega
theorem ofInt32 (a : Nat) (ha : a < 4294967296) : (BitVec.ofInt 32 (a : Int)).toNat = a := by
  rw [BitVec.ofInt_natCast, BitVec.toNat_ofNat]; exact Nat.mod_eq_of_lt (by omega)
theorem i32_or (a b : Nat) (ha : a < 2147483648) (hb : b < 2147483648) : bits .or .i32 (a : Int) (b : Int) = ((a ||| b : Nat) : Int) := by
  have hx : a ||| b < 2 ^ 31 := Nat.or_lt_two_pow (by omega) (by omega)
  show IntKind.i32.wrap ((BitVec.ofInt 32 (a : Int) ||| BitVec.ofInt 32 (b : Int)).toNat : Int) = _
  rw [BitVec.toNat_or, ofInt32 a (by omega), ofInt32 b (by omega), wrap_i32 _ (by omega)]
theorem i32_and (a b : Nat) (ha : a < 2147483648) (hb : b < 2147483648) : bits .and .i32 (a : Int) (b : Int) = ((a &&& b : Nat) : Int) := by
  have hx : a &&& b < 2 ^ 31 := Nat.and_lt_two_pow _ (by omega)
  show IntKind.i32.wrap ((BitVec.ofInt 32 (a : Int) &&& BitVec.ofInt 32 (b : Int)).toNat : Int) = _
  rw [BitVec.toNat_and, ofInt32 a (by omega), ofInt32 b (by omega), wrap_i32 _ (by omega)]
/-- A digit behind others. -/
theorem i32_or16 (m d : Nat) (hm : m < 134217728) (hd : d < 16) : bits .or .i32 ((m : Int) * 16) (d : Int) = ((16 * m + d : Nat) : Int) := by
  have e : (m : Int) * 16 = ((m * 16 : Nat) : Int) := by omega
  rw [e, i32_or (m * 16) d (by omega) (by omega)]
  have h : m * 16 ||| d = m * 16 + d := by
    have : m * 16 = m <<< 4 := by rw [Nat.shiftLeft_eq]
    rw [this, Nat.shiftLeft_add_eq_or_of_lt (by omega : d < 2 ^ 4)]
  rw [h]; omega
theorem i32_and15 (n : Nat) (hn : n < 2147483648) : bits .and .i32 (n : Int) 15 = ((n % 16 : Nat) : Int) := by
  have := i32_and n 15 hn (by decide)
  rw [show ((15 : Nat) : Int) = 15 from rfl] at this
  rw [this]
  have h : n &&& 15 = n % 16 := Nat.and_two_pow_sub_one_eq_mod n 4
  rw [h]
end Go.Proofs.YtmalclclopnlnaaGreat
