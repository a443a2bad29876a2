/-
  The package utf: the first rune.
-/
import Derived.Test.YtccnkcaagigceaaGreatProg
import Derived.Test.YtccnkcaagigceaaGreatUtfP
import Derived.IntWalk
import Derived.Laws.Entries
namespace Go.Proofs.YtccnkcaagigceaaGreat
open Go.RowKit Go.Shelf
attribute [local go_sem] Oper.semAt_some

def mayI (r : Int) : Bool := decide (0 ≤ r) && decide (r ≤ 1114111) && (decide (r < 55296) || decide (57343 < r))
theorem mayI_nat (n : Nat) : mayI n = mayN n := by
  unfold mayI mayN
  rw [Bool.eq_iff_iff]
  simp
  omega
/-- Where a number stands among a rune's bounds. -/
structure MT (r : Int) (a b c d : Bool) : Prop where
  h1 : decide (0 ≤ r) = a
  h2 : decide (r ≤ 1114111) = b
  h3 : decide (r < 55296) = c
  h4 : decide (57343 < r) = d
theorem mts (r : Int) : ∃ a b c d, MT r a b c d := ⟨_, _, _, _, rfl, rfl, rfl, rfl⟩
set_option maxRecDepth 100000 in
set_option maxHeartbeats 1000000 in
theorem umay_any (r : Int) (w : World) : Calls Tryz.prog 101 #[.int .i32 r] w fun e w' => e = .returned (.bool (mayI r)) ∧ w = w' := by
  obtain ⟨a, b, c, d, h1, h2, h3, h4⟩ := mts r
  have hm : mayI r = (a && b && (c || d)) := by unfold mayI; rw [h1, h2, h3, h4]
  rw [hm]
  clear hm
  cases a <;> cases b <;> cases c <;> cases d
  all_goals
    go_enter Tryz.func101, Tryz.ntmps101
    go_wp2
    go_ret
    exact ⟨rfl, rfl⟩
set_option maxRecDepth 100000 in
set_option maxHeartbeats 1000000 in
theorem rmay_any (r : Int) (w : World) : Calls Tryz.prog 92 #[.int .i32 r] w fun e w' => e = .returned (.bool (mayI r)) ∧ w = w' := by
  obtain ⟨a, b, c, d, h1, h2, h3, h4⟩ := mts r
  have hm : mayI r = (a && b && (c || d)) := by unfold mayI; rw [h1, h2, h3, h4]
  rw [hm]
  clear hm
  cases a <;> cases b <;> cases c <;> cases d
  all_goals
    go_enter Tryz.func92, Tryz.ntmps92
    go_wp2
    go_ret
    exact ⟨rfl, rfl⟩
set_option maxRecDepth 100000 in
set_option maxHeartbeats 1000000 in
theorem usize_any (r : Nat) (w : World) : Calls Tryz.prog 90 #[.int .i32 r] w fun e w' => e = .returned (.int .i64 (sizeN r : Nat)) ∧ w = w' := by
  have HM := Lib.hid (fun X => umay_any r X)
  rw [mayI_nat] at HM
  obtain ⟨z, hz⟩ : ∃ z, z = sizeN r := ⟨_, rfl⟩
  rw [← hz]
  have HZ := Lib.hid hz
  clear hz
  cases hm : mayN r
  · rw [hm] at HM
    obtain rfl : z = 0 := by rw [HZ.out]; unfold sizeN; rw [hm]; rfl
    clear hm
    go_enter Tryz.func90, Tryz.ntmps90
    go_wp2_with (go_at_call 101; refine (HM.out _).mono ?_; rintro e w' ⟨rfl, rfl⟩)
    go_ret
    exact ⟨rfl, rfl⟩
  · rw [hm] at HM
    have hz2 : z = if r < 128 then 1 else if r < 2048 then 2 else if r < 65536 then 3 else 4 := by rw [HZ.out]; unfold sizeN; rw [hm]; rfl
    clear hm
    obtain ⟨x1, e1⟩ : ∃ x, decide ((r : Int) < 128) = x := ⟨_, rfl⟩
    obtain ⟨x2, e2⟩ : ∃ x, decide ((r : Int) < 2048) = x := ⟨_, rfl⟩
    obtain ⟨x3, e3⟩ : ∃ x, decide ((r : Int) < 65536) = x := ⟨_, rfl⟩
    have hz3 : z = if x1 then 1 else if x2 then 2 else if x3 then 3 else 4 := by
      rw [hz2, ← e1, ← e2, ← e3]
      have q1 : (decide ((r : Int) < 128) = true) = (r < 128) := by rw [decide_eq_true_eq]; exact propext (by omega)
      have q2 : (decide ((r : Int) < 2048) = true) = (r < 2048) := by rw [decide_eq_true_eq]; exact propext (by omega)
      have q3 : (decide ((r : Int) < 65536) = true) = (r < 65536) := by rw [decide_eq_true_eq]; exact propext (by omega)
      simp only [q1, q2, q3]
    clear hz2 HZ
    cases x1
    case' true =>
      obtain rfl : z = 1 := hz3
    case' false =>
      cases x2
      case' true =>
        obtain rfl : z = 2 := hz3
      case' false =>
        cases x3
        case' true =>
          obtain rfl : z = 3 := hz3
        case' false =>
          obtain rfl : z = 4 := hz3
    all_goals
      go_enter Tryz.func90, Tryz.ntmps90
      go_wp2_with (go_at_call 101; refine (HM.out _).mono ?_; rintro e w' ⟨rfl, rfl⟩)
      go_ret
      exact ⟨rfl, rfl⟩

/-! ### Bit words on bytes -/
theorem ofInt8 (a : Nat) (ha : a < 256) : (BitVec.ofInt 8 (a : Int)).toNat = a := by
  rw [BitVec.ofInt_natCast, BitVec.toNat_ofNat]; exact Nat.mod_eq_of_lt (by omega)
theorem wrap_u8 (n : Nat) (h : n < 256) : IntKind.u8.wrap (n : Int) = n := by
  simp [IntKind.wrap, IntKind.bits, IntKind.signed]; omega
theorem u8_and (a b : Nat) (ha : a < 256) (hb : b < 256) : bits .and .u8 (a : Int) (b : Int) = ((a &&& b : Nat) : Int) := by
  have hx : a &&& b < 2 ^ 8 := Nat.and_lt_two_pow _ (by omega)
  show IntKind.u8.wrap ((BitVec.ofInt 8 (a : Int) &&& BitVec.ofInt 8 (b : Int)).toNat : Int) = _
  rw [BitVec.toNat_and, ofInt8 a (by omega), ofInt8 b (by omega), wrap_u8 _ (by omega)]
theorem u8_and_low (a k : Nat) (ha : a < 256) (hk : 2 ^ k - 1 < 256) : bits .and .u8 (a : Int) ((2 ^ k - 1 : Nat) : Int) = ((a % 2 ^ k : Nat) : Int) := by
  rw [u8_and a _ ha hk, Nat.and_two_pow_sub_one_eq_mod]
theorem and192 : ∀ a : Fin 256, ((a.val &&& 192) = 128 ↔ 128 ≤ a.val ∧ a.val < 192) := by decide +kernel
theorem u8_and192 (b : UInt8) : (bits .and .u8 (b.toNat : Int) 192 == 128) = ct b := by
  have h := u8_and b.toNat 192 b.toNat_lt (by decide)
  rw [show ((192 : Nat) : Int) = 192 from rfl] at h
  rw [h, Bool.eq_iff_iff]
  unfold ct
  have h2 := and192 ⟨b.toNat, b.toNat_lt⟩
  simp only [beq_iff_eq, Bool.and_eq_true, decide_eq_true_eq]
  constructor
  · intro e
    exact h2.1 (by show b.toNat &&& 192 = 128; omega)
  · intro e
    have := h2.2 e
    have : b.toNat &&& 192 = 128 := this
    omega

/-! ### The head -/
def headV : Option (Nat × Nat) → Value
  | none => .tuple #[.int .i32 0, .int .i64 (-1)]
  | some (r, n) => .tuple #[.int .i32 (r : Int), .int .i64 (n : Int)]
theorem and_k (c : UInt8) {k m : Nat} (hk : k = 2 ^ m - 1) (h : k < 256) : bits .and .u8 (c.toNat : Int) (k : Int) = ((c.toNat % 2 ^ m : Nat) : Int) := by
  subst hk
  exact u8_and_low _ _ c.toNat_lt h
set_option maxRecDepth 100000 in
set_option maxHeartbeats 1000000 in
theorem uhead_any (c : UInt8) (w : World) : Calls Tryz.prog 103 #[.int .u8 c.toNat] w fun e w' => e = .returned (headV (headN c.toNat)) ∧ w = w' := by
  have h31 := Lib.hid (show bits .and .u8 (c.toNat : Int) 31 = ((c.toNat % 32 : Nat) : Int) from and_k c (k := 31) (m := 5) rfl (by decide))
  have h15 := Lib.hid (show bits .and .u8 (c.toNat : Int) 15 = ((c.toNat % 16 : Nat) : Int) from and_k c (k := 15) (m := 4) rfl (by decide))
  have h7 := Lib.hid (show bits .and .u8 (c.toNat : Int) 7 = ((c.toNat % 8 : Nat) : Int) from and_k c (k := 7) (m := 3) rfl (by decide))
  have hb := c.toNat_lt
  generalize c.toNat = n at *
  by_cases h1 : n < 128
  · have hh : headN n = some (n, 0) := by unfold headN; rw [if_pos h1]
    rw [hh]
    clear hh
    go_enter Tryz.func103, Tryz.ntmps103
    go_wp2
    go_ret2
    exact ⟨rfl, rfl⟩
  by_cases h2 : 194 ≤ n ∧ n < 224
  · have hh : headN n = some (n % 32, 1) := by unfold headN; rw [if_neg h1, if_pos h2]
    rw [hh]
    clear hh
    obtain ⟨q, hq⟩ : ∃ q, q = n % 32 := ⟨_, rfl⟩
    rw [← hq] at h31 ⊢
    have hql : q < 32 := by omega
    have h31' := h31.out
    clear hq h15 h7
    obtain ⟨g1, g2⟩ := h2
    go_enter Tryz.func103, Tryz.ntmps103
    go_wp2
    go_ret2
    exact ⟨rfl, rfl⟩
  by_cases h3 : 224 ≤ n ∧ n < 240
  · have hh : headN n = some (n % 16, 2) := by unfold headN; rw [if_neg h1, if_neg h2, if_pos h3]
    rw [hh]
    clear hh h2
    obtain ⟨q, hq⟩ : ∃ q, q = n % 16 := ⟨_, rfl⟩
    rw [← hq] at h15 ⊢
    have hql : q < 16 := by omega
    have h15' := h15.out
    clear hq h31 h7
    obtain ⟨g1, g2⟩ := h3
    go_enter Tryz.func103, Tryz.ntmps103
    go_wp2
    go_ret2
    exact ⟨rfl, rfl⟩
  by_cases h4 : 240 ≤ n ∧ n < 245
  · have hh : headN n = some (n % 8, 3) := by unfold headN; rw [if_neg h1, if_neg h2, if_neg h3, if_pos h4]
    rw [hh]
    clear hh h2 h3
    obtain ⟨q, hq⟩ : ∃ q, q = n % 8 := ⟨_, rfl⟩
    rw [← hq] at h7 ⊢
    have hql : q < 8 := by omega
    have h7' := h7.out
    clear hq h31 h15
    obtain ⟨g1, g2⟩ := h4
    go_enter Tryz.func103, Tryz.ntmps103
    go_wp2
    go_ret2
    exact ⟨rfl, rfl⟩
  · have hh : headN n = none := by unfold headN; rw [if_neg h1, if_neg h2, if_neg h3, if_neg h4]
    rw [hh]
    clear hh h31 h15 h7
    rcases (show (128 ≤ n ∧ n < 194) ∨ 245 ≤ n by omega) with ⟨g1, g2⟩ | g1
    all_goals
      clear h2 h3 h4
      go_enter Tryz.func103, Tryz.ntmps103
      go_wp2
      go_ret2
      exact ⟨rfl, rfl⟩
end Go.Proofs.YtccnkcaagigceaaGreat
