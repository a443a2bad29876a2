/-
  The package tlv: the first value.
-/
import Derived.Test.YtccnkcaagigceaaGreatStr
import Derived.Test.YtccnkcaagigceaaGreatTlvP
import Derived.Test.YtccnkcaagigceaaGreatApp1
import Derived.Test.YtccnkcaagigceaaGreatOwn
import Derived.IntWalk
import Derived.Laws.Entries
namespace Go.Proofs.YtccnkcaagigceaaGreat
open Go.RowKit Go.Shelf
attribute [local go_sem] Oper.semAt_some

theorem wrap_i64 (n : Nat) (h : n < 9223372036854775808) : IntKind.i64.wrap (n : Int) = n := by
  simp [IntKind.wrap, IntKind.bits, IntKind.signed]; omega
theorem wrap64_in (x : Int) (h : 0 ≤ x ∧ x ≤ 9223372036854775807) : wrap64 x = x := by
  unfold wrap64; omega
theorem ofInt64 (a : Nat) (ha : a < 18446744073709551616) : (BitVec.ofInt 64 (a : Int)).toNat = a := by
  rw [BitVec.ofInt_natCast, BitVec.toNat_ofNat]; exact Nat.mod_eq_of_lt (by omega)
theorem i64_or (a b : Nat) (ha : a < 9223372036854775808) (hb : b < 9223372036854775808) : bits .or .i64 (a : Int) (b : Int) = ((a ||| b : Nat) : Int) := by
  have hx : a ||| b < 2 ^ 63 := Nat.or_lt_two_pow (by omega) (by omega)
  show IntKind.i64.wrap ((BitVec.ofInt 64 (a : Int) ||| BitVec.ofInt 64 (b : Int)).toNat : Int) = _
  rw [BitVec.toNat_or, ofInt64 a (by omega), ofInt64 b (by omega), wrap_i64 _ (by omega)]
theorem or_low (m d k : Nat) (hd : d < 2 ^ k) : m * 2 ^ k ||| d = m * 2 ^ k + d := by
  have : m * 2 ^ k = m <<< k := by rw [Nat.shiftLeft_eq]
  rw [this, Nat.shiftLeft_add_eq_or_of_lt hd]
theorem be4 (a b c d : UInt8) : bits .or .i64 (bits .or .i64 (bits .or .i64 ((a.toNat : Int) * 16777216) ((b.toNat : Int) * 65536)) ((c.toNat : Int) * 256)) (d.toNat : Int) = ((numV [a, b, c, d] : Nat) : Int) := by
  have ha := a.toNat_lt
  have hb := b.toNat_lt
  have hc := c.toNat_lt
  have hd := d.toNat_lt
  have e1 : ((a.toNat : Int) * 16777216) = ((a.toNat * 16777216 : Nat) : Int) := by omega
  have e2 : ((b.toNat : Int) * 65536) = ((b.toNat * 65536 : Nat) : Int) := by omega
  have e3 : ((c.toNat : Int) * 256) = ((c.toNat * 256 : Nat) : Int) := by omega
  have o1 : a.toNat * 16777216 ||| b.toNat * 65536 = a.toNat * 16777216 + b.toNat * 65536 := or_low a.toNat (b.toNat * 65536) 24 (by omega)
  have o2 : (a.toNat * 16777216 + b.toNat * 65536) ||| c.toNat * 256 = a.toNat * 16777216 + b.toNat * 65536 + c.toNat * 256 := by
    have := or_low (a.toNat * 256 + b.toNat) (c.toNat * 256) 16 (by omega)
    rw [show (a.toNat * 256 + b.toNat) * 2 ^ 16 = a.toNat * 16777216 + b.toNat * 65536 by omega] at this
    exact this
  have o3 : (a.toNat * 16777216 + b.toNat * 65536 + c.toNat * 256) ||| d.toNat = a.toNat * 16777216 + b.toNat * 65536 + c.toNat * 256 + d.toNat := by
    have := or_low (a.toNat * 65536 + b.toNat * 256 + c.toNat) d.toNat 8 (by omega)
    rw [show (a.toNat * 65536 + b.toNat * 256 + c.toNat) * 2 ^ 8 = a.toNat * 16777216 + b.toNat * 65536 + c.toNat * 256 by omega] at this
    exact this
  rw [e1, e2, i64_or _ _ (by omega) (by omega), o1, e3, i64_or _ _ (by omega) (by omega), o2, i64_or _ _ (by omega) (by omega), o3]
  simp only [numV]; omega
theorem rdU {D : Nat → Prop} {w : World} {A : Option Addr} {xs : Bs} (h : Rd D w 1 csU A xs) {k : Nat} (hk : k < xs.length) : ∃ b off, A = some ⟨b, off, none⟩ ∧ D b ∧ w.cell? ⟨b, off + k, none⟩ = some (.int .u8 (xs[k].toNat : Int)) := by
  obtain ⟨b, off, rfl, hd, hc⟩ := h (by omega)
  refine ⟨b, off, rfl, hd, ?_⟩
  have := hc k hk 0 _ rfl
  simpa using this
/-- What first answers. -/
def FirstEnds (D : Nat → Prop) (s : Bs) (w : World) (e : Ending) (w' : World) : Prop :=
  (match firstV s with
    | none => e = .returned (.tuple #[.int .u8 0, .slice none 0 0, .int .i64 0])
    | some (t, b, n) => ∃ A', e = .returned (.tuple #[.int .u8 (t.toNat : Int), .slice A' b.length b.length, .int .i64 (n : Int)]) ∧ Rd D w 1 csU A' b) ∧ ∃ q, w.drewN q = w'
set_option maxRecDepth 100000 in
set_option maxHeartbeats 4000000 in
theorem tfirst_any (D : Nat → Prop) (A : Option Addr) (c : Nat) (s : Bs) (w : World) (hA : Rd D w 1 csU A s) (hl : s.length ≤ 1099511627776) (hc : s.length ≤ c) :
    Calls Tryz.prog 68 #[.slice A s.length c] w (FirstEnds D s w) := by
  obtain ⟨n, hn⟩ : ∃ n, n = s.length := ⟨_, rfl⟩
  rw [← hn] at hl hc ⊢
  have HN := Lib.hid hn
  have HA := Lib.hid hA
  by_cases h5 : n < 5
  · have hno := Lib.hid (show firstV s = none by
      rcases s with _ | ⟨t0, _ | ⟨a, _ | ⟨b0, _ | ⟨c', _ | ⟨d, s⟩⟩⟩⟩⟩
      all_goals first | rfl | (simp at hn; omega))
    clear hn hA
    go_enter Tryz.func68, Tryz.ntmps68
    go_wp2
    refine bodyPost_ret (v := .tuple #[.int .u8 0, .slice none 0 0, .int .i64 0]) (by simp [results, Tryz.results68, go_sem]) rfl ⟨?_, 0, rfl⟩
    rw [hno.out]
  · rcases s with _ | ⟨t0, _ | ⟨a, _ | ⟨b0, _ | ⟨c0, _ | ⟨d, s⟩⟩⟩⟩⟩
    all_goals try (exfalso; simp at hn; omega)
    obtain ⟨b1, o1, rfl, -, q0⟩ := rdU (k := 0) hA (by simp)
    obtain ⟨b1', o1', he1, -, q1⟩ := rdU (k := 1) hA (by simp)
    obtain ⟨b2', o2', he2, -, q2⟩ := rdU (k := 2) hA (by simp)
    obtain ⟨b3', o3', he3, -, q3⟩ := rdU (k := 3) hA (by simp)
    obtain ⟨b4', o4', he4, -, q4⟩ := rdU (k := 4) hA (by simp)
    cases he1; cases he2; cases he3; cases he4
    simp only [List.getElem_cons_zero, List.getElem_cons_succ, Nat.add_zero] at q0 q1 q2 q3 q4
    have hbe := be4 a b0 c0 d
    obtain ⟨m, hm⟩ : ∃ m, m = numV [a, b0, c0, d] := ⟨_, rfl⟩
    rw [← hm] at hbe
    have wa : wrap64 (a.toNat : Int) = a.toNat := wrap64_in _ (by have := a.toNat_lt; constructor <;> omega)
    have wb : wrap64 (b0.toNat : Int) = b0.toNat := wrap64_in _ (by have := b0.toNat_lt; constructor <;> omega)
    have wc : wrap64 (c0.toNat : Int) = c0.toNat := wrap64_in _ (by have := c0.toNat_lt; constructor <;> omega)
    have wd : wrap64 (d.toNat : Int) = d.toNat := wrap64_in _ (by have := d.toNat_lt; constructor <;> omega)
    have wa2 : wrap64 ((a.toNat : Int) * 16777216) = (a.toNat : Int) * 16777216 := wrap64_in _ (by have := a.toNat_lt; constructor <;> omega)
    have wb2 : wrap64 ((b0.toNat : Int) * 65536) = (b0.toNat : Int) * 65536 := wrap64_in _ (by have := b0.toNat_lt; constructor <;> omega)
    have wc2 : wrap64 ((c0.toNat : Int) * 256) = (c0.toNat : Int) * 256 := wrap64_in _ (by have := c0.toNat_lt; constructor <;> omega)
    have hns1 : n ≤ 5 + s.length := by rw [hn]; simp; omega
    have hns2 : 5 + s.length ≤ n := by rw [hn]; simp; omega
    have HF := Lib.hid (show firstV (t0 :: a :: b0 :: c0 :: d :: s) = if t0 = 0 then none else if 4194304 < m ∨ s.length < m then none else some (t0, s.take m, 5 + m) by rw [hm]; rfl)
    clear hn hA hm
    by_cases ht : t0 = 0
    · have ht1 : ((t0.toNat : Int) == 0) = true := by rw [ht]; rfl
      have hno := Lib.hid (show firstV (t0 :: a :: b0 :: c0 :: d :: s) = none by rw [HF.out, if_pos ht])
      clear ht
      go_enter Tryz.func68, Tryz.ntmps68
      go_wp2
      refine bodyPost_ret (v := .tuple #[.int .u8 0, .slice none 0 0, .int .i64 0]) (by simp [results, Tryz.results68, go_sem]) rfl ⟨?_, 0, rfl⟩
      rw [hno.out]
    · have ht1 : ((t0.toNat : Int) == 0) = false := by
        rw [beq_eq_false_iff_ne]; intro e; exact ht (UInt8.toNat_inj.1 (by show t0.toNat = 0; omega))
      have HF2 := Lib.hid (show firstV (t0 :: a :: b0 :: c0 :: d :: s) = if 4194304 < m ∨ s.length < m then none else some (t0, s.take m, 5 + m) by rw [HF.out, if_neg ht])
      clear ht HF
      by_cases hbad : 4194304 < m ∨ s.length < m
      · have hno := Lib.hid (show firstV (t0 :: a :: b0 :: c0 :: d :: s) = none by rw [HF2.out, if_pos hbad])
        rcases (show 4194304 < m ∨ (¬ 4194304 < m ∧ n - 5 < m) by omega) with h1 | ⟨h1, h2⟩
        case' inl => have x1 : decide ((4194304 : Int) < (m : Int)) = true := by rw [decide_eq_true_eq]; omega
        case' inr =>
          have x1 : decide ((4194304 : Int) < (m : Int)) = false := by rw [decide_eq_false_iff_not]; omega
          have x2 : decide ((n : Int) - 5 < (m : Int)) = true := by rw [decide_eq_true_eq]; omega
        all_goals
          clear hbad
          go_wp2
          go_quiet (fail)
          go_wp2
          refine bodyPost_ret (v := .tuple #[.int .u8 0, .slice none 0 0, .int .i64 0]) (by simp [results, Tryz.results68, go_sem]) rfl ⟨?_, _, rfl⟩
          rw [hno.out]
      · have h1 : ¬ 4194304 < m := by omega
        have h2 : ¬ n - 5 < m := by omega
        have hml : m ≤ s.length := by omega
        have HYes := Lib.hid (show firstV (t0 :: a :: b0 :: c0 :: d :: s) = some (t0, s.take m, 5 + m) by rw [HF2.out, if_neg hbad])
        have HLt := Lib.hid (show (s.take m).length = m by rw [List.length_take]; omega)
        have x1 : decide ((4194304 : Int) < (m : Int)) = false := by rw [decide_eq_false_iff_not]; omega
        have x2 : decide ((n : Int) - 5 < (m : Int)) = false := by rw [decide_eq_false_iff_not]; omega
        have HR := Lib.hid (show Rd D w 1 csU (some ⟨b1, o1 + 5, none⟩) (s.take m) from by
          have h := rd_take (rd_drop HA.out (j := 5) (by simp)) m
          rw [Nat.mul_one] at h
          exact h)
        clear hbad
        by_cases hm0 : m = 0
        · have hA0 := Lib.hid (show Rd D w 1 csU (some ⟨b1, o1, none⟩) (s.take m) from by rw [List.eq_nil_of_length_eq_zero (HLt.out.trans hm0)]; exact Rd.nil _ _ _ _ _)
          subst hm0
          go_wp2
          go_quiet (fail)
          go_wp2
          go_quiet (fail)
          go_ways
          go_wp2
          refine bodyPost_ret (v := .tuple #[.int .u8 t0.toNat, .slice (some ⟨b1, o1, none⟩) 0 0, .int .i64 5]) (by simp [results, Tryz.results68, go_sem]) rfl ⟨?_, _, (World.drewN_drewN ..).symm⟩
          rw [HYes.out]
          refine ⟨_, ?_, hA0.out⟩
          rw [HLt.out]; rfl
        · have hm5 : ¬ 5 + m = 5 := by omega
          go_wp2
          go_quiet (fail)
          go_wp2
          go_quiet (fail)
          go_ways
          go_wp2
          refine bodyPost_ret (v := .tuple #[.int .u8 t0.toNat, .slice (some ⟨b1, o1 + 5, none⟩) m m, .int .i64 ((5 + m : Nat) : Int)]) (by simp [results, Tryz.results68, go_sem, hm5]) rfl ⟨?_, _, (World.drewN_drewN ..).symm⟩
          rw [HYes.out]
          refine ⟨_, ?_, HR.out⟩
          rw [HLt.out]
end Go.Proofs.YtccnkcaagigceaaGreat
