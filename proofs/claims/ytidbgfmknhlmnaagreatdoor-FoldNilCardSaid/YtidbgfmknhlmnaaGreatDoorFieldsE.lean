/-
  Code points told by texts.
-/
import Derived.Test.YtidbgfmknhlmnaaGreatDoorFieldsA
import Derived.Test.YtidbgfmknhlmnaaGreatDoorFieldsQ
import Derived.Laws.RangeAny
import Derived.Test.YtidbgfmknhlmnaaGreatDoorBits
import Derived.IntWalk
namespace Go.Proofs.YtidbgfmknhlmnaaGreatDoor
open Go.RowKit Go.Shelf
attribute [local go_sem] Oper.semAt_some

theorem ret2 {a b : Int} {c d : Bool} (h : a = b) (k : c = d) : Ending.returned (.tuple #[.int .i32 a, .bool c]) = .returned (.tuple #[.int .i32 b, .bool d]) := by rw [h, k]
def codeV (o : Option Nat) : Value := .tuple #[.int .i32 ((o.getD 0 : Nat) : Int), .bool o.isSome]

/-- Where a byte (or a rune) stands. -/
structure Tests (r : Int) (a1 a2 b1 b2 c1 c2 : Bool) : Prop where
  h1 : decide (48 ≤ r) = a1
  h2 : decide (r ≤ 57) = a2
  h3 : decide (65 ≤ r) = b1
  h4 : decide (r ≤ 70) = b2
  h5 : decide (97 ≤ r) = c1
  h6 : decide (r ≤ 102) = c2
theorem tests (r : Int) : ∃ a1 a2 b1 b2 c1 c2, Tests r a1 a2 b1 b2 c1 c2 := ⟨_, _, _, _, _, _, rfl, rfl, rfl, rfl, rfl, rfl⟩
theorem pow16 {k : Nat} (h : k ≤ 5) : 16 ^ k ≤ 1048576 := by
  have : 16 ^ k ≤ 16 ^ 5 := Nat.pow_le_pow_right (by decide) h
  simpa using this

set_option maxRecDepth 100000 in
set_option maxHeartbeats 4000000 in
theorem rcode_any (l : Bs) (w : World) (hl : l.length ≤ 9223372036854775807) : Calls Tryz.prog 32 #[.string ⟨l.toArray⟩] w fun e w' => e = .returned (codeV (codeOf l)) ∧ w = w' := by
  by_cases h4 : l.length < 4
  · rw [codeOf_bad (.inl h4)]
    unfold codeV
    go_enter Tryz.func32, Tryz.ntmps32
    go_wp2
    go_ret2
    exact ⟨rfl, rfl⟩
  by_cases h6 : 6 < l.length
  · rw [codeOf_bad (.inr h6)]
    unfold codeV
    go_enter Tryz.func32, Tryz.ntmps32
    go_wp2
    go_ret2
    exact ⟨rfl, rfl⟩
  · obtain ⟨o, ho⟩ : ∃ o, o = codeV (codeOf l) := ⟨_, rfl⟩
    rw [← ho]
    have HO := Lib.hid ho
    have hlb := Lib.hid (show ¬ (l.length < 4 ∨ 6 < l.length) by omega)
    have h6' : l.length ≤ 6 := by omega
    clear ho
    go_enter Tryz.func32, Tryz.ntmps32
    go_wp2
    go_loop [4, 5] (fun n i => ∃ m k : Nat, k ≤ l.length ∧ i = .int .i64 k ∧ n = .int .i32 m ∧ codeF m (l.drop k) = codeF 0 l ∧ m < 16 ^ k) (fun _ i => l.length - (intOf i).toNat)
    case atStart => exact ⟨0, 0, Nat.zero_le _, rfl, rfl, rfl, by decide⟩
    case round =>
      obtain ⟨m, k, hk, rfl, rfl, hc, hm⟩ := hrel
      have HC := Lib.hid hc
      have HM := Lib.hid hm
      clear hc hm
      by_cases hlt : k < l.length
      · have hm1 : m < 1048576 := Nat.lt_of_lt_of_le HM.out (pow16 (by omega))
        obtain ⟨b, hb⟩ : ∃ b, b = l[k] := ⟨_, rfl⟩
        have h7 : ∀ h, (⟨l.toArray⟩ : ByteArray)[k]'h = b := fun h => by rw [hb]; rfl
        have HD := Lib.hid (show l.drop k = b :: l.drop (k + 1) by rw [hb]; exact List.drop_eq_getElem_cons hlt)
        clear hb
        have h256 : b.toNat < 256 := b.toNat_lt
        obtain ⟨a1, a2, b1, b2, c1, c2, t1, t2, t3, t4, t5, t6⟩ := tests (b.toNat : Int)
        have step : ∀ d : Nat, hexV b = some d → codeF (16 * m + d) (l.drop (k + 1)) = codeF 0 l ∧ 16 * m + d < 16 ^ (k + 1) := fun d hd => by
          refine ⟨?_, ?_⟩
          · have := HC.out
            rw [HD.out, codeF, hd] at this
            exact this
          · have := hexV_lt hd; have := HM.out; rw [Nat.pow_succ]; omega
        have stop : hexV b = none → o = codeV none := fun hd => by
          rw [HO.out, codeOf_none]
          rw [← HC.out, HD.out, codeF, hd]
        have HStep := Lib.hid step
        have HStop := Lib.hid stop
        clear step stop
        rcases hex_ways b.toNat with d | d | d | d | d | d | d
        · have HS := Lib.hid (HStep.out _ (hexV_1 d))
          obtain rfl : a1 = true := by rw [← t1]; simp; omega
          obtain rfl : a2 = true := by rw [← t2]; simp; omega
          go_wp2
          exact ⟨⟨16 * m + (b.toNat - 48), k + 1, by omega, by go_num, by congr 1; omega, HS.out.1, HS.out.2⟩, by simp only [intOf]; omega⟩
        · have HS := Lib.hid (HStep.out _ (hexV_2 d))
          obtain rfl : a1 = true := by rw [← t1]; simp; omega
          obtain rfl : a2 = false := by rw [← t2]; simp; omega
          obtain rfl : b1 = true := by rw [← t3]; simp; omega
          obtain rfl : b2 = true := by rw [← t4]; simp; omega
          go_wp2
          exact ⟨⟨16 * m + (b.toNat - 55), k + 1, by omega, by go_num, by congr 1; omega, HS.out.1, HS.out.2⟩, by simp only [intOf]; omega⟩
        · have HS := Lib.hid (HStep.out _ (hexV_3 d))
          obtain rfl : a1 = true := by rw [← t1]; simp; omega
          obtain rfl : a2 = false := by rw [← t2]; simp; omega
          obtain rfl : b1 = true := by rw [← t3]; simp; omega
          obtain rfl : b2 = false := by rw [← t4]; simp; omega
          obtain rfl : c1 = true := by rw [← t5]; simp; omega
          obtain rfl : c2 = true := by rw [← t6]; simp; omega
          go_wp2
          exact ⟨⟨16 * m + (b.toNat - 87), k + 1, by omega, by go_num, by congr 1; omega, HS.out.1, HS.out.2⟩, by simp only [intOf]; omega⟩
        · have HS := Lib.hid (HStop.out (hexV_none (.inl d)))
          obtain rfl : a1 = false := by rw [← t1]; simp; omega
          obtain rfl : b1 = false := by rw [← t3]; simp; omega
          obtain rfl : c1 = false := by rw [← t5]; simp; omega
          go_wp2
          go_ret2
          exact ⟨by rw [HS.out]; rfl, rfl⟩
        · have HS := Lib.hid (HStop.out (hexV_none (.inr (.inl d))))
          obtain rfl : a1 = true := by rw [← t1]; simp; omega
          obtain rfl : a2 = false := by rw [← t2]; simp; omega
          obtain rfl : b1 = false := by rw [← t3]; simp; omega
          obtain rfl : c1 = false := by rw [← t5]; simp; omega
          go_wp2
          go_ret2
          exact ⟨by rw [HS.out]; rfl, rfl⟩
        · have HS := Lib.hid (HStop.out (hexV_none (.inr (.inr (.inl d)))))
          obtain rfl : a1 = true := by rw [← t1]; simp; omega
          obtain rfl : a2 = false := by rw [← t2]; simp; omega
          obtain rfl : b1 = true := by rw [← t3]; simp; omega
          obtain rfl : b2 = false := by rw [← t4]; simp; omega
          obtain rfl : c1 = false := by rw [← t5]; simp; omega
          go_wp2
          go_ret2
          exact ⟨by rw [HS.out]; rfl, rfl⟩
        · have HS := Lib.hid (HStop.out (hexV_none (.inr (.inr (.inr d)))))
          obtain rfl : a1 = true := by rw [← t1]; simp; omega
          obtain rfl : a2 = false := by rw [← t2]; simp; omega
          obtain rfl : b1 = true := by rw [← t3]; simp; omega
          obtain rfl : b2 = false := by rw [← t4]; simp; omega
          obtain rfl : c1 = true := by rw [← t5]; simp; omega
          obtain rfl : c2 = false := by rw [← t6]; simp; omega
          go_wp2
          go_ret2
          exact ⟨by rw [HS.out]; rfl, rfl⟩
      · obtain rfl : k = l.length := by omega
        have hcF : codeF 0 l = some m := by rw [← HC.out, List.drop_length]; rfl
        have hm1 : m < 16777216 := by
          have h1 : 16 ^ l.length ≤ 16 ^ 6 := Nat.pow_le_pow_right (by decide) h6'
          have := HM.out
          omega
        by_cases hg : 1114111 < m
        · have HS := Lib.hid (show o = codeV none by rw [HO.out, codeOf_great hcF hg])
          clear hcF
          go_wp2
          go_ret2
          exact ⟨by rw [HS.out]; rfl, rfl⟩
        · have HS := Lib.hid (show o = codeV (some m) by rw [HO.out, codeOf_some hlb.out hcF (by omega)])
          clear hcF
          go_wp2
          go_ret2
          exact ⟨by rw [HS.out]; rfl, rfl⟩

theorem iter_mod (w : World) (s : ByteArray) (k : Nat) : Mod (fun _ => False) w (w.iter s k) := (Mod.refl _ w).alloc _
/-- What stands next in a string. -/
theorem next_at (l : Bs) (k : Nat) (h : k < l.length) (w : World) : ∃ r wd : Nat, (∀ ty, (Instr.next (.pointer (some ⟨w.heap.size, 0, none⟩)) true ty).run Tryz.prog (w.iter ⟨l.toArray⟩ k) = .ok (.tuple #[.bool true, .int .i64 k, .int .i32 r]) (w.iter ⟨l.toArray⟩ (k + wd))) ∧
    (l[k].toNat < 128 → r = l[k].toNat ∧ wd = 1) ∧ (128 ≤ l[k].toNat → 128 ≤ r) ∧ r ≤ 2147483647 := by
  have hb : (⟨l.toArray⟩ : ByteArray)[k]'h = l[k] := rfl
  refine ⟨_, _, fun ty => run_next_any w ⟨l.toArray⟩ k ty h, fun h1 => ?_, fun h1 => ?_, decode_le _ _⟩
  · rw [decode_ascii ⟨l.toArray⟩ k h (by rw [hb]; exact h1)]
    exact ⟨rfl, rfl⟩
  · exact (decode_high ⟨l.toArray⟩ k h (by rw [hb]; exact h1)).1

set_option maxRecDepth 100000 in
set_option maxHeartbeats 4000000 in
theorem fcode_any (l : Bs) (w : World) (hl : l.length ≤ 9223372036854775807) : Calls Tryz.prog 47 #[.string ⟨l.toArray⟩] w fun e w' => e = .returned (codeV (codeOf l)) ∧ Mod (fun _ => False) w w' := by
  by_cases h4 : l.length < 4
  · rw [codeOf_bad (.inl h4)]
    unfold codeV
    go_enter Tryz.func47, Tryz.ntmps47
    go_wp2
    go_ret2
    exact ⟨rfl, Mod.refl _ _⟩
  by_cases h6 : 6 < l.length
  · rw [codeOf_bad (.inr h6)]
    unfold codeV
    go_enter Tryz.func47, Tryz.ntmps47
    go_wp2
    go_ret2
    exact ⟨rfl, Mod.refl _ _⟩
  · obtain ⟨o, ho⟩ : ∃ o, o = codeV (codeOf l) := ⟨_, rfl⟩
    rw [← ho]
    have HO := Lib.hid ho
    have hlb := Lib.hid (show ¬ (l.length < 4 ∨ 6 < l.length) by omega)
    have h6' : l.length ≤ 6 := by omega
    clear ho
    go_enter Tryz.func47, Tryz.ntmps47
    go_wp2
    go_loopw [4] (fun n wr => ∃ m k : Nat, k ≤ l.length ∧ n = .int .i32 m ∧ wr = w.iter ⟨l.toArray⟩ k ∧ codeF m (l.drop k) = codeF 0 l ∧ m < 16 ^ k) (fun _ wr => l.length - wr.iterPos w.heap.size)
    case atStart => exact ⟨0, 0, Nat.zero_le _, rfl, rfl, rfl, by decide⟩
    case round =>
      obtain ⟨m, k, hk, rfl, rfl, hc, hm⟩ := hrel
      have HC := Lib.hid hc
      have HM := Lib.hid hm
      clear hc hm
      by_cases hlt : k < l.length
      · have hm1 : m < 1048576 := Nat.lt_of_lt_of_le HM.out (pow16 (by omega))
        obtain ⟨r, wd, hnx, hr1, hr2, hr3⟩ := next_at l k hlt w
        obtain ⟨b, hb⟩ : ∃ b, b = l[k] := ⟨_, rfl⟩
        rw [← hb] at hr1 hr2
        have HD := Lib.hid (show l.drop k = b :: l.drop (k + 1) by rw [hb]; exact List.drop_eq_getElem_cons hlt)
        clear hb
        have h256 : b.toNat < 256 := b.toNat_lt
        obtain ⟨a1, a2, b1, b2, c1, c2, t1, t2, t3, t4, t5, t6⟩ := tests (r : Int)
        have step : ∀ d : Nat, hexV b = some d → codeF (16 * m + d) (l.drop (k + 1)) = codeF 0 l ∧ 16 * m + d < 16 ^ (k + 1) := fun d hd => by
          refine ⟨?_, ?_⟩
          · have := HC.out
            rw [HD.out, codeF, hd] at this
            exact this
          · have := hexV_lt hd; have := HM.out; rw [Nat.pow_succ]; omega
        have stop : hexV b = none → o = codeV none := fun hd => by
          rw [HO.out, codeOf_none]
          rw [← HC.out, HD.out, codeF, hd]
        have HStep := Lib.hid step
        have HStop := Lib.hid stop
        clear step stop
        rcases hex_ways b.toNat with d | d | d | d | d | d | d
        · have HS := Lib.hid (HStep.out _ (hexV_1 d))
          obtain ⟨rfl, rfl⟩ := hr1 (by omega)
          have HB := Lib.hid (show Value.int .i32 (bits .or .i32 ((m : Int) * 16) ((b.toNat : Int) - 48)) = .int .i32 ((16 * m + (b.toNat - 48) : Nat) : Int) by
            rw [show ((b.toNat : Int) - 48) = ((b.toNat - 48 : Nat) : Int) by omega, i32_or16 m _ (by omega) (by omega)])
          clear hr1 hr2 hr3
          obtain rfl : a1 = true := by rw [← t1]; simp; omega
          obtain rfl : a2 = true := by rw [← t2]; simp; omega
          go_wp2
          exact ⟨⟨16 * m + (b.toNat - 48), k + 1, by omega, HB.out, rfl, HS.out.1, HS.out.2⟩, by simp only [World.iterPos_iter]; omega⟩
        · have HS := Lib.hid (HStep.out _ (hexV_2 d))
          obtain ⟨rfl, rfl⟩ := hr1 (by omega)
          have HB := Lib.hid (show Value.int .i32 (bits .or .i32 ((m : Int) * 16) ((b.toNat : Int) - 65 + 10)) = .int .i32 ((16 * m + (b.toNat - 55) : Nat) : Int) by
            rw [show ((b.toNat : Int) - 65 + 10) = ((b.toNat - 55 : Nat) : Int) by omega, i32_or16 m _ (by omega) (by omega)])
          clear hr1 hr2 hr3
          obtain rfl : a1 = true := by rw [← t1]; simp; omega
          obtain rfl : a2 = false := by rw [← t2]; simp; omega
          obtain rfl : b1 = true := by rw [← t3]; simp; omega
          obtain rfl : b2 = true := by rw [← t4]; simp; omega
          go_wp2
          exact ⟨⟨16 * m + (b.toNat - 55), k + 1, by omega, HB.out, rfl, HS.out.1, HS.out.2⟩, by simp only [World.iterPos_iter]; omega⟩
        · have HS := Lib.hid (HStep.out _ (hexV_3 d))
          obtain ⟨rfl, rfl⟩ := hr1 (by omega)
          have HB := Lib.hid (show Value.int .i32 (bits .or .i32 ((m : Int) * 16) ((b.toNat : Int) - 97 + 10)) = .int .i32 ((16 * m + (b.toNat - 87) : Nat) : Int) by
            rw [show ((b.toNat : Int) - 97 + 10) = ((b.toNat - 87 : Nat) : Int) by omega, i32_or16 m _ (by omega) (by omega)])
          clear hr1 hr2 hr3
          obtain rfl : a1 = true := by rw [← t1]; simp; omega
          obtain rfl : a2 = false := by rw [← t2]; simp; omega
          obtain rfl : b1 = true := by rw [← t3]; simp; omega
          obtain rfl : b2 = false := by rw [← t4]; simp; omega
          obtain rfl : c1 = true := by rw [← t5]; simp; omega
          obtain rfl : c2 = true := by rw [← t6]; simp; omega
          go_wp2
          exact ⟨⟨16 * m + (b.toNat - 87), k + 1, by omega, HB.out, rfl, HS.out.1, HS.out.2⟩, by simp only [World.iterPos_iter]; omega⟩
        · have HS := Lib.hid (HStop.out (hexV_none (.inl d)))
          obtain ⟨rfl, rfl⟩ := hr1 (by omega)
          clear hr1 hr2 hr3
          obtain rfl : a1 = false := by rw [← t1]; simp; omega
          obtain rfl : b1 = false := by rw [← t3]; simp; omega
          obtain rfl : c1 = false := by rw [← t5]; simp; omega
          go_wp2
          go_ret2
          exact ⟨by rw [HS.out]; rfl, iter_mod _ _ _⟩
        · have HS := Lib.hid (HStop.out (hexV_none (.inr (.inl d))))
          obtain ⟨rfl, rfl⟩ := hr1 (by omega)
          clear hr1 hr2 hr3
          obtain rfl : a1 = true := by rw [← t1]; simp; omega
          obtain rfl : a2 = false := by rw [← t2]; simp; omega
          obtain rfl : b1 = false := by rw [← t3]; simp; omega
          obtain rfl : c1 = false := by rw [← t5]; simp; omega
          go_wp2
          go_ret2
          exact ⟨by rw [HS.out]; rfl, iter_mod _ _ _⟩
        · have HS := Lib.hid (HStop.out (hexV_none (.inr (.inr (.inl d)))))
          obtain ⟨rfl, rfl⟩ := hr1 (by omega)
          clear hr1 hr2 hr3
          obtain rfl : a1 = true := by rw [← t1]; simp; omega
          obtain rfl : a2 = false := by rw [← t2]; simp; omega
          obtain rfl : b1 = true := by rw [← t3]; simp; omega
          obtain rfl : b2 = false := by rw [← t4]; simp; omega
          obtain rfl : c1 = false := by rw [← t5]; simp; omega
          go_wp2
          go_ret2
          exact ⟨by rw [HS.out]; rfl, iter_mod _ _ _⟩
        · have HS := Lib.hid (HStop.out (hexV_none (.inr (.inr (.inr d)))))
          have hr4 : 103 ≤ r := by
            by_cases h : b.toNat < 128
            · have := (hr1 h).1; omega
            · have := hr2 (by omega); omega
          clear hr1 hr2
          obtain rfl : a1 = true := by rw [← t1]; simp; omega
          obtain rfl : a2 = false := by rw [← t2]; simp; omega
          obtain rfl : b1 = true := by rw [← t3]; simp; omega
          obtain rfl : b2 = false := by rw [← t4]; simp; omega
          obtain rfl : c1 = true := by rw [← t5]; simp; omega
          obtain rfl : c2 = false := by rw [← t6]; simp; omega
          go_wp2
          go_ret2
          exact ⟨by rw [HS.out]; rfl, iter_mod _ _ _⟩
      · obtain rfl : k = l.length := by omega
        have hnx := fun ty => run_next_end (P := Tryz.prog) w ⟨l.toArray⟩ l.length ty (Nat.lt_irrefl _)
        have hcF : codeF 0 l = some m := by rw [← HC.out, List.drop_length]; rfl
        have hm1 : m < 16777216 := by
          have h1 : 16 ^ l.length ≤ 16 ^ 6 := Nat.pow_le_pow_right (by decide) h6'
          have := HM.out
          omega
        by_cases hg : 1114111 < m
        · have HS := Lib.hid (show o = codeV none by rw [HO.out, codeOf_great hcF hg])
          clear hcF
          go_wp2
          go_ret2
          exact ⟨by rw [HS.out]; rfl, iter_mod _ _ _⟩
        · have HS := Lib.hid (show o = codeV (some m) by rw [HO.out, codeOf_some hlb.out hcF (by omega)])
          clear hcF
          go_wp2
          go_ret2
          exact ⟨by rw [HS.out]; rfl, iter_mod _ _ _⟩
end Go.Proofs.YtidbgfmknhlmnaaGreatDoor
