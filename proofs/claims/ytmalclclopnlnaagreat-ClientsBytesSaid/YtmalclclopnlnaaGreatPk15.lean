/-
  Texts of this claim, one behind the other: ResB, ResC, EntrySm.
-/
import Derived.Test.YtmalclclopnlnaaGreatPk02
import Derived.Test.YtmalclclopnlnaaGreatPk11
import Derived.Test.YtmalclclopnlnaaGreatPk14
/-
  The package tlv: a reader takes numbers, and flags.
-/
namespace Go.Proofs.YtmalclclopnlnaaGreat
open Go.RowKit Go.Shelf
attribute [local go_sem] Oper.semAt_some

/-- What a taking of a number answers and leaves. -/
def NumEnds (D : Nat → Prop) (p T : Nat) (g : Nat × Bs × Bool) (w : World) (r : Ending) (w' : World) : Prop :=
  r = .returned (.int .u64 (g.1 : Int)) ∧ RrAt D p T w' g.2.1 g.2.2 ∧ Mod (fun b => b = p) w w'
theorem RrAt.bad1 {D : Nat → Prop} {p T : Nat} {s : Bs} {bad : Bool} {w : World} (h : RrAt D p T w s bad) : RrAt D p T (w.setCell ⟨p, 1, none⟩ (.bool true)) s true ∧ Mod (fun b => b = p) w (w.setCell ⟨p, 1, none⟩ (.bool true)) := by
  obtain ⟨A, n, c, hp, hr, hn, hc, hd⟩ := h
  have hm : Mod (fun b => b = p) w (w.setCell ⟨p, 1, none⟩ (.bool true)) := by (repeat' (first | exact Mod.refl _ _ | assumption | refine Mod.alloc ?_ _ | refine Mod.drew ?_ | refine Mod.drewN ?_ _ | refine Mod.setCell ?_ (by first | exact Or.inl rfl | (right; simp; done) | (right; simp; omega) | (left; simp; done)) _))
  refine ⟨⟨A, n, c, hp_eq (hp_set hp 1 _) rfl, ?_, hn, hc, fun b hb => ⟨(hd b hb).1, Nat.lt_of_lt_of_le (hd b hb).2 hm.size⟩⟩, hm⟩
  exact hr.keep (hm.agree fun b hb => ⟨(hd b hb).2, (hd b hb).1⟩)
theorem RrAt.c1 {D : Nat → Prop} {p T : Nat} {s : Bs} {bad : Bool} {w : World} (h : RrAt D p T w s bad) : w.cell? ⟨p, 1, none⟩ = some (.bool bad) ∧ w.frozen? ⟨p, 1, none⟩ = false := by
  obtain ⟨A, n, c, hp, -⟩ := h
  exact ⟨by rw [hp_cell hp]; rfl, hp_free hp _⟩
theorem wrap_u64 (n : Nat) (h : n < 18446744073709551616) : IntKind.u64.wrap (n : Int) = n := by
  simp [IntKind.wrap, IntKind.bits, IntKind.signed]; omega
theorem u64_shl_or (m c : Nat) (hc : c < 256) (hm : 256 * m + c < 18446744073709551616) : bits .or .u64 (IntKind.u64.wrap ((m : Int) * 256)) (IntKind.u64.wrap (c : Int)) = ((256 * m + c : Nat) : Int) := by
  rw [show (m : Int) * 256 = ((m * 256 : Nat) : Int) by omega, wrap_u64 _ (by omega), wrap_u64 _ (by omega)]
  have o1 : m * 256 ||| c = m * 256 + c := or_low m c 8 (by omega)
  show IntKind.u64.wrap ((BitVec.ofInt 64 ((m * 256 : Nat) : Int) ||| BitVec.ofInt 64 (c : Int)).toNat : Int) = _
  rw [BitVec.toNat_or, ofInt64 _ (by omega), ofInt64 c (by omega), o1, wrap_u64 _ (by omega)]
  omega
set_option maxRecDepth 100000 in
set_option maxHeartbeats 2000000 in
theorem rnumber_any (D : Nat → Prop) (p T : Nat) (s : Bs) (bad : Bool) (t : UInt8) (w : World) (h : RrAt D p T w s bad) (hsz : s.length ≤ 1099511627776) :
    Calls Tryz.prog 75 #[.pointer (some ⟨p, 0, none⟩), .int .u8 (t.toNat : Int)] w (NumEnds D p T (numG t s bad) w) := by
  have HT := Lib.hid (rtake_any D p T s bad t w h hsz)
  obtain ⟨o, ho⟩ : ∃ o, o = if bad = true then none else takeV t s := ⟨_, rfl⟩
  have HO := Lib.hid ho
  have HH := Lib.hid h
  clear h hsz ho
  cases o with
  | none =>
    have HN := Lib.hid (show numG t s bad = (0, s, true) by unfold numG gotV; rw [← HO.out]; rfl)
    go_enter Tryz.func75, Tryz.ntmps75
    go_wp2_with (first
      | (go_at_call 77
         refine HT.out.mono ?_
         rintro r w1 ⟨hr1, hm⟩
         rw [← HO.out] at hr1
         obtain ⟨rfl, hat⟩ := hr1
         have HAt := Lib.hid hat
         have HM := Lib.hid hm
         clear hat hm)
      | fail)
    go_loopw [7, 27] (fun n i wr => n = .int .u64 0 ∧ i = .int .i64 0 ∧ wr = w1) (fun _ _ _ => 0)
    case atStart => exact ⟨rfl, rfl, rfl⟩
    case round =>
      obtain ⟨rfl, rfl, rfl⟩ := hrel
      go_wp2
      go_ret
      rw [HN.out]
      exact ⟨rfl, HAt.out, HM.out⟩
  | some v =>
    obtain ⟨b, s'⟩ := v
    by_cases hb : b.length = 8
    · have HN := Lib.hid (show numG t s bad = (beN b, s', false) by unfold numG gotV; rw [← HO.out]; simp only [hb, if_true]; rfl)
      go_enter Tryz.func75, Tryz.ntmps75
      go_wp2_with (first
        | (go_at_call 77
           refine HT.out.mono ?_
           rintro r w1 ⟨hr1, hm⟩
           rw [← HO.out] at hr1
           obtain ⟨A1, rfl, hrd, hat⟩ := hr1
           rw [hb]
           have HAt := Lib.hid hat
           have HM := Lib.hid hm
           have HR := Lib.hid hrd
           clear hat hm hrd)
        | fail)
      go_loopw [7, 27] (fun n i wr => ∃ k : Nat, k ≤ 8 ∧ n = .int .u64 (beN (b.take k) : Nat) ∧ i = .int .i64 (k : Int) ∧ wr = w1) (fun _ i _ => 8 - (intOf i).toNat)
      case atStart => exact ⟨0, by omega, rfl, rfl, rfl⟩
      case round =>
        obtain ⟨k, hk, rfl, rfl, rfl⟩ := hrel
        by_cases hk8 : k = 8
        · have hl : decide ((k : Int) < 8) = false := by rw [decide_eq_false_iff_not]; omega
          have HT8 := Lib.hid (show beN (b.take k) = beN b by rw [List.take_of_length_le (by omega)])
          clear hk hk8
          go_wp2
          go_ret
          rw [HN.out, HT8.out]
          exact ⟨rfl, HAt.out, HM.out⟩
        · obtain ⟨q, off, rfl, -, hu⟩ := rdU (k := k) HR.out (by omega)
          have hl : decide ((k : Int) < 8) = true := by rw [decide_eq_true_eq]; omega
          have hw3 : wrap64 ((k : Int) + 1) = ((k + 1 : Nat) : Int) := by rw [wrap64_in _ (by omega)]; rfl
          have hk7 : k < 8 := by omega
          obtain ⟨c, hc⟩ : ∃ c, c = b[k]'(by omega) := ⟨_, rfl⟩
          rw [← hc] at hu
          have HC := Lib.hid hc
          have HE := Lib.hid (show beN (b.take (k + 1)) = 256 * beN (b.take k) + c.toNat by rw [List.take_succ_eq_append_getElem (by omega), beN_snoc, HC.out])
          obtain ⟨m, hm⟩ : ∃ m, m = beN (b.take k) := ⟨_, rfl⟩
          have HMm := Lib.hid hm
          rw [← hm] at HE ⊢
          clear hc hm
          go_wp2
          have hlt : beN (b.take (k + 1)) < 18446744073709551616 := by
            have h1 := beN_lt (b.take (k + 1))
            have h2 : 256 ^ (b.take (k + 1)).length ≤ 256 ^ 8 := Nat.pow_le_pow_right (by decide) (by rw [List.length_take]; omega)
            omega
          rw [HE.out] at hlt
          refine ⟨⟨k + 1, by omega, ?_, rfl, trivial⟩, ?_⟩
          · rw [u64_shl_or m c.toNat c.toNat_lt hlt, HE.out]
          · show 8 - ((k : Int) + 1).toNat < 8 - (k : Int).toNat
            omega
    · have HN := Lib.hid (show numG t s bad = (0, s', true) by unfold numG gotV; rw [← HO.out]; simp only [hb, if_false]; rfl)
      have hb1 : (((b.length : Nat) : Int) == 8) = false := by rw [beq_eq_false_iff_ne]; omega
      obtain ⟨n, hn⟩ : ∃ n, n = b.length := ⟨_, rfl⟩
      rw [← hn] at hb1 hb
      go_enter Tryz.func75, Tryz.ntmps75
      go_wp2_with (first
        | (go_at_call 77
           refine HT.out.mono ?_
           rintro r w1 ⟨hr1, hm⟩
           rw [← HO.out] at hr1
           obtain ⟨A1, rfl, hrd, hat⟩ := hr1
           rw [← hn]
           obtain ⟨c1, f1⟩ := hat.c1
           have c1' : w1.cell? ⟨p, 0 + 1, none⟩ = some (.bool false) := by rw [Nat.zero_add]; exact c1
           have f1' : w1.frozen? ⟨p, 0 + 1, none⟩ = false := by rw [Nat.zero_add]; exact f1
           have HAt := Lib.hid hat
           have HM := Lib.hid hm
           clear hat hm hrd)
        | fail)
      go_ret
      rw [HN.out]
      exact ⟨rfl, HAt.out.bad1.1, HM.out.trans' HAt.out.bad1.2⟩
set_option maxRecDepth 100000 in
set_option maxHeartbeats 2000000 in
theorem mnumber_any (D : Nat → Prop) (p T : Nat) (s : Bs) (bad : Bool) (t : UInt8) (most : Nat) (hmost : most < 9223372036854775808) (w : World) (h : RrAt D p T w s bad) (hsz : s.length ≤ 1099511627776) :
    Calls Tryz.prog 49 #[.pointer (some ⟨p, 0, none⟩), .int .u8 (t.toNat : Int), .int .u64 (most : Int)] w fun r w' => r = .returned (.int .i64 ((numM most t s bad).1 : Int)) ∧ RrAt D p T w' (numM most t s bad).2.1 (numM most t s bad).2.2 ∧ Mod (fun b => b = p) w w' := by
  have HT := Lib.hid (rnumber_any D p T s bad t w h hsz)
  have HD := Lib.hid (show numM most t s bad = if most < (numG t s bad).1 then (0, (numG t s bad).2.1, true) else numG t s bad from rfl)
  obtain ⟨G, hG⟩ : ∃ G, G = numM most t s bad := ⟨_, rfl⟩
  rw [← hG] at HD ⊢
  obtain ⟨g, hg⟩ : ∃ g, g = numG t s bad := ⟨_, rfl⟩
  rw [← hg] at HD HT
  obtain ⟨n, s', bd⟩ := g
  clear hG hg h hsz
  by_cases hn : most < n
  · have h1 : decide (most < n) = true := decide_eq_true hn
    have HN := Lib.hid (show G = (0, s', true) by rw [HD.out, if_pos hn])
    clear hn
    go_enter Tryz.func49, Tryz.ntmps49
    go_wp2_with (first
      | (go_at_call 75
         refine HT.out.mono ?_
         rintro r w1 ⟨rfl, hat, hm⟩
         have HF := Lib.hid (rfail_any D p T s' bd w1 hat)
         have HM := Lib.hid hm
         clear hat hm)
      | (go_at_call 76
         refine HF.out.mono ?_
         rintro r w2 ⟨rfl, hat, hm⟩
         have HAt := Lib.hid hat
         have HM2 := Lib.hid hm
         clear hat hm)
      | fail)
    go_ret
    rw [HN.out]
    exact ⟨rfl, HAt.out, HM.out.trans' HM2.out⟩
  · have h1 : decide (most < n) = false := decide_eq_false hn
    have HN := Lib.hid (show G = (n, s', bd) by rw [HD.out, if_neg hn])
    have hw : IntKind.i64.wrap (n : Int) = n := wrap_i64 n (by omega)
    clear hn
    go_enter Tryz.func49, Tryz.ntmps49
    go_wp2_with (first
      | (go_at_call 75
         refine HT.out.mono ?_
         rintro r w1 ⟨rfl, hat, hm⟩
         have HAt := Lib.hid hat
         have HM := Lib.hid hm
         clear hat hm)
      | fail)
    go_ret
    rw [HN.out]
    exact ⟨rfl, HAt.out, HM.out⟩
end Go.Proofs.YtmalclclopnlnaaGreat
/-
  The package tlv: a reader takes flags.
-/
namespace Go.Proofs.YtmalclclopnlnaaGreat
open Go.RowKit Go.Shelf
attribute [local go_sem] Oper.semAt_some

set_option maxRecDepth 100000 in
set_option maxHeartbeats 2000000 in
theorem rflag_any (D : Nat → Prop) (p T : Nat) (s : Bs) (bad : Bool) (t : UInt8) (w : World) (h : RrAt D p T w s bad) (hsz : s.length ≤ 1099511627776) :
    Calls Tryz.prog 50 #[.pointer (some ⟨p, 0, none⟩), .int .u8 (t.toNat : Int)] w fun r w' => r = .returned (.bool (flagG t s bad).1) ∧ RrAt D p T w' (flagG t s bad).2.1 (flagG t s bad).2.2 ∧ Mod (fun b => b = p) w w' := by
  have HT := Lib.hid (rtake_any D p T s bad t w h hsz)
  obtain ⟨o, ho⟩ : ∃ o, o = if bad = true then none else takeV t s := ⟨_, rfl⟩
  have HO := Lib.hid ho
  clear h hsz ho
  obtain ⟨G, hG⟩ : ∃ G, G = flagG t s bad := ⟨_, rfl⟩
  rw [← hG]
  have HG := Lib.hid hG
  clear hG
  cases o with
  | none =>
    have HN := Lib.hid (show G = (false, s, true) by rw [HG.out]; unfold flagG gotV; rw [← HO.out]; rfl)
    go_enter Tryz.func50, Tryz.ntmps50
    go_wp2_with (first
      | (go_at_call 77
         refine HT.out.mono ?_
         rintro r w1 ⟨hr1, hm⟩
         rw [← HO.out] at hr1
         obtain ⟨rfl, hat⟩ := hr1
         have HAt := Lib.hid hat
         have HM := Lib.hid hm
         clear hat hm)
      | fail)
    go_ret
    rw [HN.out]
    exact ⟨rfl, HAt.out, HM.out⟩
  | some v =>
    obtain ⟨b, s'⟩ := v
    have HV := Lib.hid (show G = if b = [0] then (false, s', false) else if b = [1] then (true, s', false) else (false, s', true) by rw [HG.out]; unfold flagG gotV; rw [← HO.out]; rfl)
    by_cases hb : b.length = 1
    · obtain ⟨c, rfl⟩ := List.length_eq_one_iff.1 hb
      clear hb
      by_cases h1 : 1 < c.toNat
      · have HN := Lib.hid (show G = (false, s', true) by
          rw [HV.out, if_neg (fun e => by injection e with e; rw [e] at h1; exact absurd h1 (by decide)), if_neg (fun e => by injection e with e; rw [e] at h1; exact absurd h1 (by decide))])
        have h2 : decide ((1 : Int) < (c.toNat : Int)) = true := by rw [decide_eq_true_eq]; omega
        have h3 : decide (1 < c.toNat) = true := decide_eq_true h1
        clear h1
        go_enter Tryz.func50, Tryz.ntmps50
        go_wp2_with (first
          | (go_at_call 77
             refine HT.out.mono ?_
             rintro r w1 ⟨hr1, hm⟩
             rw [← HO.out] at hr1
             obtain ⟨A1, rfl, hrd, hat⟩ := hr1
             obtain ⟨q, off, rfl, -, hu⟩ := rdU (k := 0) hrd (by simp)
             have hu : w1.cell? ⟨q, off, none⟩ = some (.int .u8 (c.toNat : Int)) := hu
             have hu' : w1.cell? ⟨q, off + 0, none⟩ = some (.int .u8 (c.toNat : Int)) := hu
             obtain ⟨c1, f1⟩ := hat.c1
             have c1' : w1.cell? ⟨p, 0 + 1, none⟩ = some (.bool false) := by rw [Nat.zero_add]; exact c1
             have f1' : w1.frozen? ⟨p, 0 + 1, none⟩ = false := by rw [Nat.zero_add]; exact f1
             have HAt := Lib.hid hat
             have HM := Lib.hid hm
             clear hat hm hrd)
          | fail)
        go_ret
        rw [HN.out]
        exact ⟨rfl, HAt.out.bad1.1, HM.out.trans' HAt.out.bad1.2⟩
      · have h2 : decide ((1 : Int) < (c.toNat : Int)) = false := by rw [decide_eq_false_iff_not]; omega
        have h3 : decide (1 < c.toNat) = false := decide_eq_false h1
        obtain ⟨y, hy⟩ : ∃ y, y = ((c.toNat : Int) == 1) := ⟨_, rfl⟩
        have HN := Lib.hid (show G = (y, s', false) by
          rw [HV.out, hy]
          rcases (show c.toNat = 0 ∨ c.toNat = 1 by omega) with e | e
          · have : c = 0 := UInt8.toNat_inj.1 e
            subst this; rfl
          · have : c = 1 := UInt8.toNat_inj.1 e
            subst this; rfl)
        rcases (show c.toNat = 0 ∨ c.toNat = 1 by omega) with e | e
        · obtain rfl : c = 0 := UInt8.toNat_inj.1 e
          have hy2 : y = false := hy
          clear hy
          subst hy2
          clear h1 h2 h3 e
          go_enter Tryz.func50, Tryz.ntmps50
          go_wp2_with (first
            | (go_at_call 77
               refine HT.out.mono ?_
               rintro r w1 ⟨hr1, hm⟩
               rw [← HO.out] at hr1
               obtain ⟨A1, rfl, hrd, hat⟩ := hr1
               obtain ⟨q, off, rfl, -, hu⟩ := rdU (k := 0) hrd (by simp)
               have hu : w1.cell? ⟨q, off, none⟩ = some (.int .u8 0) := hu
               have hu' : w1.cell? ⟨q, off + 0, none⟩ = some (.int .u8 0) := hu
               have HAt := Lib.hid hat
               have HM := Lib.hid hm
               clear hat hm hrd)
            | fail)
          go_ret
          rw [HN.out]
          exact ⟨rfl, HAt.out, HM.out⟩
        · obtain rfl : c = 1 := UInt8.toNat_inj.1 e
          have hy2 : y = true := hy
          clear hy
          subst hy2
          clear h1 h2 h3 e
          go_enter Tryz.func50, Tryz.ntmps50
          go_wp2_with (first
            | (go_at_call 77
               refine HT.out.mono ?_
               rintro r w1 ⟨hr1, hm⟩
               rw [← HO.out] at hr1
               obtain ⟨A1, rfl, hrd, hat⟩ := hr1
               obtain ⟨q, off, rfl, -, hu⟩ := rdU (k := 0) hrd (by simp)
               have hu : w1.cell? ⟨q, off, none⟩ = some (.int .u8 1) := hu
               have hu' : w1.cell? ⟨q, off + 0, none⟩ = some (.int .u8 1) := hu
               have HAt := Lib.hid hat
               have HM := Lib.hid hm
               clear hat hm hrd)
            | fail)
          go_ret
          rw [HN.out]
          exact ⟨rfl, HAt.out, HM.out⟩
    · have HN := Lib.hid (show G = (false, s', true) by
        rw [HV.out, if_neg (fun e => hb (by rw [e]; rfl)), if_neg (fun e => hb (by rw [e]; rfl))])
      obtain ⟨n, hn⟩ : ∃ n, n = b.length := ⟨_, rfl⟩
      rw [← hn] at hb
      have hb1 : ((n : Int) == 1) = false := by rw [beq_eq_false_iff_ne]; omega
      go_enter Tryz.func50, Tryz.ntmps50
      go_wp2_with (first
        | (go_at_call 77
           refine HT.out.mono ?_
           rintro r w1 ⟨hr1, hm⟩
           rw [← HO.out] at hr1
           obtain ⟨A1, rfl, hrd, hat⟩ := hr1
           rw [← hn]
           obtain ⟨c1, f1⟩ := hat.c1
           have c1' : w1.cell? ⟨p, 0 + 1, none⟩ = some (.bool false) := by rw [Nat.zero_add]; exact c1
           have f1' : w1.frozen? ⟨p, 0 + 1, none⟩ = false := by rw [Nat.zero_add]; exact f1
           have HAt := Lib.hid hat
           have HM := Lib.hid hm
           clear hat hm hrd)
        | fail)
      go_ret
      rw [HN.out]
      exact ⟨rfl, HAt.out.bad1.1, HM.out.trans' HAt.out.bad1.2⟩
end Go.Proofs.YtmalclclopnlnaaGreat
/-
  slices.Equal at attributes; two entries the same.
-/
namespace Go.Proofs.YtmalclclopnlnaaGreat
open Go.RowKit Go.Shelf
attribute [local go_sem] Oper.semAt_some

theorem aequal_any (D1 D2 : Nat → Prop) (A1 A2 : Option Addr) (c1 c2 : Nat) (xs ys : List At) (w : World) (h1 : Rd D1 w 2 At.cs A1 xs) (h2 : Rd D2 w 2 At.cs A2 ys) (hl1 : xs.length ≤ maxLen) (hl2 : ys.length ≤ maxLen)
    (hd1 : ∀ b, D1 b → b < w.heap.size) (hd2 : ∀ b, D2 b → b < w.heap.size) :
    Calls Tryz.prog 112 #[.slice A1 xs.length c1, .slice A2 ys.length c2] w fun e w' => e = .returned (.bool (decide (xs = ys))) ∧ Mod (fun _ => False) w w' := by
  unfold maxLen at hl1 hl2
  by_cases hne : xs.length = ys.length
  · obtain ⟨z, hz⟩ : ∃ z, z = decide (xs = ys) := ⟨_, rfl⟩
    rw [← hz]
    have HZ := Lib.hid hz
    obtain ⟨n, hn⟩ : ∃ n, n = xs.length := ⟨_, rfl⟩
    have hn2 : n = ys.length := by omega
    rw [← hn, ← hn2]
    rw [← hn] at hl1
    have HN := Lib.hid hn
    have HN2 := Lib.hid hn2
    have H1 := Lib.hid (fun X (hX : Mod (fun _ => False) w X) => h1.mod hX (fun b hb => ⟨hd1 b hb, id⟩))
    have H2 := Lib.hid (fun X (hX : Mod (fun _ => False) w X) => h2.mod hX (fun b hb => ⟨hd2 b hb, id⟩))
    have hsf : (!(n : Int) == (n : Int)) = false := by simp
    have heq := (show Tryz.prog.eqGuardType Tryz.prog.depth 144 = false by kernel_rfl)
    clear hz hn hn2 hne hl2 h1 h2
    go_enter Tryz.func112, Tryz.ntmps112
    go_wp2
    go_loopw [13] (fun i wr => ∃ k : Nat, k ≤ n ∧ i = .int .i64 k ∧ xs.take k = ys.take k ∧ Mod (fun _ => False) w wr) (fun i _ => n - (intOf i).toNat)
    case atStart => exact ⟨0, by omega, rfl, rfl, Mod.refl _ _⟩
    case round =>
      obtain ⟨k, hk, rfl, ht, hm⟩ := hrel
      have HT := Lib.hid ht
      have HM := Lib.hid hm
      clear ht hm
      by_cases hlt : k < n
      · have hkx : k < xs.length := by rw [← HN.out]; exact hlt
        have hky : k < ys.length := by rw [← HN2.out]; exact hlt
        obtain ⟨b1, o1, rfl, -, p0, p1⟩ := rd2 (H1.out _ HM.out) hkx
        obtain ⟨b2, o2, rfl, -, q0, q1⟩ := rd2 (H2.out _ HM.out) hky
        obtain ⟨x, hx⟩ : ∃ x, x = xs[k] := ⟨_, rfl⟩
        obtain ⟨y, hy⟩ : ∃ y, y = ys[k] := ⟨_, rfl⟩
        rw [← hx] at p0 p1
        rw [← hy] at q0 q1
        have hneq := fun X => neq_at x y X
        unfold At.val at hneq
        have HX := Lib.hid (show xs.take (k + 1) = xs.take k ++ [x] by rw [hx]; exact List.take_succ_eq_append_getElem hkx)
        have HY := Lib.hid (show ys.take (k + 1) = ys.take k ++ [y] by rw [hy]; exact List.take_succ_eq_append_getElem hky)
        have HXY := Lib.hid (show x ≠ y → xs ≠ ys from fun h e => h (by subst e; rw [hx, hy]))
        clear hx hy
        by_cases hxy : x = y
        · have hT := Lib.hid (show xs.take (k + 1) = ys.take (k + 1) by rw [HX.out, HY.out, HT.out, hxy])
          rw [decide_eq_true hxy] at hneq
          clear hxy
          go_wp2
          go_quiet (fail)
          go_wp2
          exact ⟨⟨k + 1, by omega, by go_num, hT.out, by have := HM.out; (repeat' (first | exact Mod.refl _ _ | assumption | refine Mod.alloc ?_ _ | refine Mod.drew ?_ | refine Mod.drewN ?_ _ | refine Mod.setCell ?_ (by first | exact Or.inl rfl | (right; simp; done) | (right; simp; omega) | (left; simp; done)) _))⟩, by simp only [intOf]; omega⟩
        · obtain rfl : z = false := by rw [HZ.out, decide_eq_false_iff_not]; exact HXY.out hxy
          rw [decide_eq_false hxy] at hneq
          clear hxy
          go_wp2
          go_quiet (fail)
          go_wp2
          go_ret
          exact ⟨rfl, by have := HM.out; (repeat' (first | exact Mod.refl _ _ | assumption | refine Mod.alloc ?_ _ | refine Mod.drew ?_ | refine Mod.drewN ?_ _ | refine Mod.setCell ?_ (by first | exact Or.inl rfl | (right; simp; done) | (right; simp; omega) | (left; simp; done)) _))⟩
      · obtain rfl : k = n := by omega
        obtain rfl : z = true := by
          rw [HZ.out, decide_eq_true_eq]
          have := HT.out
          rwa [List.take_of_length_le (by rw [← HN.out]; omega), List.take_of_length_le (by rw [← HN2.out]; omega)] at this
        go_wp2
        go_ret
        exact ⟨rfl, HM.out⟩
  · have hz : decide (xs = ys) = false := by rw [decide_eq_false_iff_not]; intro e; exact hne (by rw [e])
    rw [hz]
    have hne' : ((xs.length : Int) != (ys.length : Int)) = true := by simp; omega
    have hne2 : ((xs.length : Int) == (ys.length : Int)) = false := by simp; omega
    clear hz hne h1 h2
    go_enter Tryz.func112, Tryz.ntmps112
    go_wp2
    go_ret
    exact ⟨rfl, Mod.refl _ _⟩

theorem esame_any (a b : Bs) (A1 A2 : Option Addr) (c1 c2 : Nat) (xs ys : List At) (w : World) (h1 : Rd (fun b => b < w.heap.size) w 2 At.cs A1 xs) (h2 : Rd (fun b => b < w.heap.size) w 2 At.cs A2 ys) (hl1 : xs.length ≤ maxLen) (hl2 : ys.length ≤ maxLen) :
    Calls Tryz.prog 87 #[.agg #[.string ⟨a.toArray⟩, .slice A1 xs.length c1], .agg #[.string ⟨b.toArray⟩, .slice A2 ys.length c2]] w fun e w' => e = .returned (.bool (sameE a b xs ys)) ∧ Mod (fun _ => False) w w' := by
  have H := Lib.hid (fun X (hX : Mod (fun _ => False) w X) => aequal_any _ _ A1 A2 c1 c2 xs ys X (h1.mod hX (fun b hb => ⟨hb, id⟩)) (h2.mod hX (fun b hb => ⟨hb, id⟩)) hl1 hl2 (fun b hb => Nat.lt_of_lt_of_le hb hX.size) (fun b hb => Nat.lt_of_lt_of_le hb hX.size))
  unfold sameE
  obtain ⟨n, hn⟩ : ∃ n, n = xs.length := ⟨_, rfl⟩
  obtain ⟨m, hm⟩ : ∃ m, m = ys.length := ⟨_, rfl⟩
  obtain ⟨z, hz⟩ : ∃ z, z = decide (xs = ys) := ⟨_, rfl⟩
  obtain ⟨d, hd⟩ : ∃ d, d = decide (a = b) := ⟨_, rfl⟩
  have he : (a == b) = d := by rw [hd, Bool.eq_iff_iff]; simp
  rw [← hn, ← hm, ← hz] at H
  rw [← hn, ← hm, ← hz, ← hd]
  clear hn hm hz hd h1 h2 hl1 hl2
  cases d
  all_goals
    go_enter Tryz.func87, Tryz.ntmps87
    go_wp2_with (first
      | (go_at_call 112; refine (H.out _ (by (repeat' (first | exact Mod.refl _ _ | assumption | refine Mod.alloc ?_ _ | refine Mod.drew ?_ | refine Mod.drewN ?_ _ | refine Mod.setCell ?_ (by first | exact Or.inl rfl | (right; simp; done) | (right; simp; omega) | (left; simp; done)) _)))).mono ?_; rintro e w' ⟨rfl, hm⟩)
      | fail)
    go_ret
    first
    | exact ⟨rfl, (((Mod.refl _ w).alloc _).alloc _).trans' hm⟩
    | exact ⟨rfl, by (repeat' (first | exact Mod.refl _ _ | assumption | refine Mod.alloc ?_ _ | refine Mod.drew ?_ | refine Mod.drewN ?_ _ | refine Mod.setCell ?_ (by first | exact Or.inl rfl | (right; simp; done) | (right; simp; omega) | (left; simp; done)) _))⟩
end Go.Proofs.YtmalclclopnlnaaGreat
