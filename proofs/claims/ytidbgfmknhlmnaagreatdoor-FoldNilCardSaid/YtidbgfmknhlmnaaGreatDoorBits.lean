/-
  Bit words on 32-bit integers that are not below 0.
-/
import Derived.Test.YtidbgfmknhlmnaaGreatDoorBase
import Derived.Laws.Entries
namespace Go.Proofs.YtidbgfmknhlmnaaGreatDoor
theorem wrap_i32 (n : Nat) (h : n < 2147483648) : IntKind.i32.wrap (n : Int) = n := by
  simp [IntKind.wrap, IntKind.bits, IntKind.signed]; omega
theorem ofInt32 (a : Nat) (ha : a < 4294967296) : (BitVec.ofInt 32 (a : Int)).toNat = a := by
  rw [BitVec.ofInt_natCast, BitVec.toNat_ofNat]; exact Nat.mod_eq_of_lt (by omega)
theorem i32_or (a b : Nat) (ha : a < 2147483648) (hb : b < 2147483648) : bits .or .i32 (a : Int) (b : Int) = ((a ||| b : Nat) : Int) := by
  have hx : a ||| b < 2 ^ 31 := Nat.or_lt_two_pow (by omega) (by omega)
  show IntKind.i32.wrap ((BitVec.ofInt 32 (a : Int) ||| BitVec.ofInt 32 (b : Int)).toNat : Int) = _
  rw [BitVec.toNat_or, ofInt32 a (by omega), ofInt32 b (by omega), wrap_i32 _ (by omega)]
theorem i32_and (a b : Nat) (ha : a < 2147483648) (hb : b < 2147483648) : bits .and .i32 (a : Int) (b : Int) = ((a &&& b : Nat) : Int) := by
  have hx : a &&& b < 2 ^ 31 := Nat.and_lt_two_pow _ (by omega)
  show IntKind.i32.wrap ((BitVec.ofInt 32 (a : Int) &&& BitVec.ofInt 32 (b : Int)).toNat : Int) = _
  rw [BitVec.toNat_and, ofInt32 a (by omega), ofInt32 b (by omega), wrap_i32 _ (by omega)]
/-- A digit behind others. -/
theorem i32_or16 (m d : Nat) (hm : m < 134217728) (hd : d < 16) : bits .or .i32 ((m : Int) * 16) (d : Int) = ((16 * m + d : Nat) : Int) := by
  have e : (m : Int) * 16 = ((m * 16 : Nat) : Int) := by omega
  rw [e, i32_or (m * 16) d (by omega) (by omega)]
  have h : m * 16 ||| d = m * 16 + d := by
    have : m * 16 = m <<< 4 := by rw [Nat.shiftLeft_eq]
    rw [this, Nat.shiftLeft_add_eq_or_of_lt (by omega : d < 2 ^ 4)]
  rw [h]; omega
theorem i32_and15 (n : Nat) (hn : n < 2147483648) : bits .and .i32 (n : Int) 15 = ((n % 16 : Nat) : Int) := by
  have := i32_and n 15 hn (by decide)
  rw [show ((15 : Nat) : Int) = 15 from rfl] at this
  rw [this]
  have h : n &&& 15 = n % 16 := Nat.and_two_pow_sub_one_eq_mod n 4
  rw [h]
end Go.Proofs.YtidbgfmknhlmnaaGreatDoor
