/-
  Texts of this claim, one behind the other: SortC.
-/
import Derived.Test.YtmalclclopnlnaaGreatPk24
/-
  The library's sort of numbers: parting.
-/
namespace Go.Proofs.YtmalclclopnlnaaGreat
open Go.RowKit Go.Shelf
attribute [local go_sem] Oper.semAt_some

set_option maxRecDepth 100000 in
set_option maxHeartbeats 4000000 in
theorem spart_any (base g n c a b p : Nat) (xs : List Int) (w : World) (h : DS base g n c w xs) (hap : a < p) (hpb : p < b) (hbn : b ≤ n) (hn : n ≤ 1099511627776) :
    Calls Tryz.prog 108 #[.slice (some ⟨g, 0, none⟩) n c, .int .i64 a, .int .i64 b, .int .i64 p] w fun e w' => ∃ (m : Nat) (f : Bool) (ys : List Int), e = .returned (.tuple #[.int .i64 m, .bool f]) ∧ a ≤ m ∧ m < b ∧ DS base g n c w' ys ∧ Sws a b xs ys ∧ Parted a b m ys ∧ Mod (fun x => x = g) w w' := by
  have han : a < n := by omega
  have hpn : p < n := by omega
  have hne1 : ¬ a = p := by omega
  have hne2 : ¬ p = a := by omega
  have hw0 : IntKind.i64.wrap ((a : Int) + 1) = ((a + 1 : Nat) : Int) := by rw [show (a : Int) + 1 = ((a + 1 : Nat) : Int) by omega]; exact IntWalk.i64_in _ (by omega)
  obtain ⟨d, hd⟩ : ∃ d, b = d + 1 := ⟨b - 1, by omega⟩
  have hwd : IntKind.i64.wrap ((b : Int) - 1) = (d : Int) := by rw [show (b : Int) - 1 = (d : Int) by omega]; exact IntWalk.i64_in _ (by omega)
  have HBd := Lib.hid hd
  have HD := Lib.hid h
  have HM := Lib.hid (Mod.refl (fun x => x = g) w)
  have hs0 : Sws a b xs (swp xs a p) := (Sws.refl (a := a) (b := b)).exch h.len (by omega) (by omega) (by omega) (by omega) hbn
  obtain ⟨ys, hys⟩ : ∃ ys, ys = xs := ⟨_, rfl⟩
  have HS0 := Lib.hid (show Sws a b xs (swp ys a p) by rw [hys]; exact hs0)
  rw [← hys] at HD
  clear hs0
  have HY := Lib.hid hys
  clear h hd hys
  go_enter Tryz.func108, Tryz.ntmps108
  have e1 := HD.out.cell (k := a) han
  have e2 := HD.out.cell (k := p) hpn
  have f1 := (HD.out.blk (by omega)).2.2 a
  have f2 := (HD.out.blk (by omega)).2.2 p
  have hdq := HD.out.exchd han hpn rfl rfl
  have hmq := (HM.out.trans' (mod_swp w g a p (.int .u64 (at_ ys p)) (.int .u64 (at_ ys a)))).drew
  obtain ⟨W1, hW1⟩ : ∃ W1, W1 = ((w.setCell ⟨g, a, none⟩ (.int .u64 (at_ ys p))).setCell ⟨g, p, none⟩ (.int .u64 (at_ ys a))).drew := ⟨_, rfl⟩
  rw [← hW1] at hdq hmq
  have HW := Lib.hid hW1
  clear HD HM hW1
  have HD := Lib.hid hdq
  have HM := Lib.hid hmq
  clear hdq hmq
  go_wp2
  go_region
  rw [← HW.out]
  clear e1 e2 f1 f2 HW
  obtain ⟨ys, hys⟩ : ∃ zs, zs = swp ys a p := ⟨_, rfl⟩
  rw [← hys] at HD HS0
  clear hys HY
  obtain ⟨i, hi⟩ : ∃ i, i = a + 1 := ⟨_, rfl⟩
  obtain ⟨j, hj⟩ : ∃ j, j = d := ⟨_, rfl⟩
  have HP := Lib.hid (show PartAt a b i j ys by have := PartAt.start a b ys; rw [hi, hj, show d = b - 1 by have := HBd.out; omega]; exact this)
  have hdb : d < b := by have := HBd.out; omega
  rw [← hi] at hw0
  rw [← hj] at hwd
  have hai : a < i := by omega
  have hij : i ≤ j + 1 := by have := HBd.out; omega
  have hjd : j ≤ d := by omega
  clear hi hj
  go_upto_block 0 with (fail)
  go_cut [10] (fun v wx => ∃ q : Nat, v = .int .i64 q ∧ a < q ∧ i ≤ q ∧ q ≤ j + 1 ∧ (q = j + 1 ∨ at_ ys a ≤ at_ ys q) ∧ PartAt a b q j ys ∧ DS base g n c wx ys ∧ Mod (fun x => x = g) w wx)
  case first =>
    go_wp2_with (fail)
    go_loopw [10] (fun v wr => ∃ q : Nat, a < q ∧ i ≤ q ∧ q ≤ d + 1 ∧ q ≤ j + 1 ∧ v = .int .i64 q ∧ PartAt a b q j ys ∧ DS base g n c wr ys ∧ Mod (fun x => x = g) w wr) (fun v _ => d + 1 - (intOf v).toNat)
    case atStart => exact ⟨i, hai, Nat.le_refl _, by omega, hij, rfl, HP.out, HD.out, HM.out⟩
    case round =>
      obtain ⟨q, haq, hiq, hqd, hqj, rfl, hp, hd, hm⟩ := hrel
      clear HD HM HP
      have HP := Lib.hid hp
      have HD := Lib.hid hd
      have HM := Lib.hid hm
      clear hp hd hm
      by_cases hle : q ≤ j
      · have hqn : q < n := by omega
        have hg : decide (q ≤ j) = true := by simpa using hle
        have hw1 : IntKind.i64.wrap ((q : Int) + 1) = ((q + 1 : Nat) : Int) := by rw [show (q : Int) + 1 = ((q + 1 : Nat) : Int) by omega]; exact IntWalk.i64_in _ (by omega)
        have c1 := cell_regrown (HD.out.cell (k := q) hqn)
        have c2 := cell_regrown (HD.out.cell (k := a) han)
        have HLs := Lib.hid (fun X => sless_any (at_ ys q) (at_ ys a) X)
        obtain ⟨r, hr⟩ : ∃ r, decide (at_ ys q < at_ ys a) = r := ⟨_, rfl⟩
        rw [hr] at HLs
        have HR := Lib.hid hr
        clear hr
        go_wp2
        refine wp_region_quiet_below (by kernel_rfl) (by kernel_rfl) ?_
        repeat (go_big_quiet_step ((first | (go_at_call 106; exact regE fun X _ => HLs.out X) | fail)))
        refine wpQuiet_nil ?_
        intro W1 hW1
        have HQ := mod_of_regrown hW1
        clear hW1
        have hdq := HD.out.mod HQ id
        have hmq := HM.out.trans HQ (fun _ h => h.elim)
        clear HD HM c1 c2 HQ HLs
        have HD := Lib.hid hdq
        have HM := Lib.hid hmq
        clear hdq hmq
        cases r
        · go_wp2
          go_meet
          exact ⟨q, rfl, haq, hiq, hqj, .inr (by have := of_decide_eq_false HR.out; omega), HP.out, HD.out, HM.out⟩
        · go_wp2
          exact ⟨⟨q + 1, by omega, by omega, by omega, by omega, by go_num, HP.out.lo1 (of_decide_eq_true HR.out), HD.out, HM.out⟩, by simp only [intOf]; omega⟩
      · have hg : decide (q ≤ j) = false := by simpa using hle
        go_wp2
        refine wp_region_quiet_below (by kernel_rfl) (by kernel_rfl) ?_
        repeat (go_big_quiet_step ((first | fail | fail)))
        refine wpQuiet_nil ?_
        intro W1 hW1
        have HQ := mod_of_regrown hW1
        clear hW1
        have hdq := HD.out.mod HQ id
        have hmq := HM.out.trans HQ (fun _ h => h.elim)
        clear HD HM HQ
        have HD := Lib.hid hdq
        have HM := Lib.hid hmq
        clear hdq hmq
        go_wp2
        go_meet
        exact ⟨q, rfl, haq, hiq, hqj, .inl (by omega), HP.out, HD.out, HM.out⟩
  case rest =>
    obtain ⟨i, rfl, hai, hii, hij, hi1, hp, hd, hm⟩ := hcut
    clear HP HD HM
    have HP := Lib.hid hp
    have HD := Lib.hid hd
    have HM := Lib.hid hm
    have HI1 := Lib.hid hi1
    clear hp hd hm hi1
    go_upto_block 2 with (fail)
    go_cut [11] (fun v wx => ∃ q : Nat, v = .int .i64 q ∧ q ≤ d ∧ q ≤ j ∧ i ≤ q + 1 ∧ (i = q + 1 ∨ at_ ys q < at_ ys a) ∧ PartAt a b i q ys ∧ DS base g n c wx ys ∧ Mod (fun x => x = g) w wx)
    case first =>
      go_wp2_with (fail)
      go_loopw [11] (fun v wr => ∃ q : Nat, q ≤ d ∧ q ≤ j ∧ i ≤ q + 1 ∧ v = .int .i64 q ∧ PartAt a b i q ys ∧ DS base g n c wr ys ∧ Mod (fun x => x = g) w wr) (fun v _ => (intOf v).toNat)
      case atStart => exact ⟨j, by omega, Nat.le_refl _, hij, rfl, HP.out, HD.out, HM.out⟩
      case round =>
        obtain ⟨q, hqd, hqj, hiq, rfl, hp, hd, hm⟩ := hrel
        clear HD HM HP
        have HP := Lib.hid hp
        have HD := Lib.hid hd
        have HM := Lib.hid hm
        clear hp hd hm
        by_cases hle : i ≤ q
        · have hqn : q < n := by omega
          obtain ⟨q1, hq1⟩ : ∃ q1, q = q1 + 1 := ⟨q - 1, by omega⟩
          have hg : decide (i ≤ q) = true := by simpa using hle
          have hw1 : IntKind.i64.wrap ((q : Int) - 1) = (q1 : Int) := by rw [show (q : Int) - 1 = (q1 : Int) by omega]; exact IntWalk.i64_in _ (by omega)
          have HQ1 := Lib.hid hq1
          clear hq1
          have c1 := cell_regrown (HD.out.cell (k := q) hqn)
          have c2 := cell_regrown (HD.out.cell (k := a) han)
          have HLs := Lib.hid (fun X => sless_any (at_ ys q) (at_ ys a) X)
          obtain ⟨r, hr⟩ : ∃ r, decide (at_ ys q < at_ ys a) = r := ⟨_, rfl⟩
          rw [hr] at HLs
          have HR := Lib.hid hr
          clear hr
          go_wp2
          refine wp_region_quiet_below (by kernel_rfl) (by kernel_rfl) ?_
          repeat (go_big_quiet_step ((first | (go_at_call 106; exact regE fun X _ => HLs.out X) | fail)))
          refine wpQuiet_nil ?_
          intro W1 hW1
          have HQ := mod_of_regrown hW1
          clear hW1
          have hdq := HD.out.mod HQ id
          have hmq := HM.out.trans HQ (fun _ h => h.elim)
          clear HD HM c1 c2 HQ HLs
          have HD := Lib.hid hdq
          have HM := Lib.hid hmq
          clear hdq hmq
          cases r
          · go_wp2
            have hq1 := HQ1.out
            have hpp := HP.out
            rw [hq1] at hpp
            exact ⟨⟨q1, by omega, by omega, by omega, rfl, hpp.hi1 (by rw [← hq1]; have := of_decide_eq_false HR.out; omega), HD.out, HM.out⟩, by simp only [intOf]; omega⟩
          · go_wp2
            go_meet
            exact ⟨q, rfl, hqd, hqj, hiq, .inr (of_decide_eq_true HR.out), HP.out, HD.out, HM.out⟩
        · have hg : decide (i ≤ q) = false := by simpa using hle
          go_wp2
          refine wp_region_quiet_below (by kernel_rfl) (by kernel_rfl) ?_
          repeat (go_big_quiet_step ((first | fail | fail)))
          refine wpQuiet_nil ?_
          intro W1 hW1
          have HQ := mod_of_regrown hW1
          clear hW1
          have hdq := HD.out.mod HQ id
          have hmq := HM.out.trans HQ (fun _ h => h.elim)
          clear HD HM HQ
          have HD := Lib.hid hdq
          have HM := Lib.hid hmq
          clear hdq hmq
          go_wp2
          go_meet
          exact ⟨q, rfl, hqd, hqj, hiq, .inl (by omega), HP.out, HD.out, HM.out⟩
    case rest =>
      obtain ⟨j, rfl, hjd, hjj, hij, hj1, hp, hd, hm⟩ := hcut
      clear HP HD HM
      have HP := Lib.hid hp
      have HD := Lib.hid hd
      have HM := Lib.hid hm
      have HJ1 := Lib.hid hj1
      clear hp hd hm hj1
      by_cases hgt : j < i
      · have hjn : j < n := by omega
        have haj : a ≤ j := by omega
        have hpd := HP.out.done (j := j) (by omega) haj (by omega) (by rw [← HD.out.len]; exact hbn)
        have HPd := Lib.hid hpd
        have HSj := Lib.hid (HS0.out.exch HD.out.len haj (by omega) (Nat.le_refl _) (by omega) hbn)
        clear hpd
        by_cases hja : j = a
        · subst hja
          have e1 := HD.out.cell (k := j) hjn
          have e2 := HD.out.cell (k := j) hjn
          have f1 := (HD.out.blk (by omega)).2.2 j
          have f2 := (HD.out.blk (by omega)).2.2 j
          have hdq := HD.out.exchd hjn hjn rfl rfl
          have hmq := (HM.out.trans' (mod_swp wc g j j (.int .u64 (at_ ys j)) (.int .u64 (at_ ys j)))).drew
          obtain ⟨W1, hW1⟩ : ∃ W1, W1 = ((wc.setCell ⟨g, j, none⟩ (.int .u64 (at_ ys j))).setCell ⟨g, j, none⟩ (.int .u64 (at_ ys j))).drew := ⟨_, rfl⟩
          rw [← hW1] at hdq hmq
          have HW := Lib.hid hW1
          clear HD HM hW1
          have HD := Lib.hid hdq
          have HM := Lib.hid hmq
          clear hdq hmq
          go_wp2
          go_region
          rw [← HW.out]
          clear e1 e2 f1 f2 HW
          go_wp2
          go_ret2
          exact ⟨j, true, _, rfl, Nat.le_refl _, by omega, HD.out, HSj.out, HPd.out, HM.out⟩
        · have hne3 : ¬ a = j := fun e => hja e.symm
          have e1 := HD.out.cell (k := j) hjn
          have e2 := HD.out.cell (k := a) han
          have f1 := (HD.out.blk (by omega)).2.2 j
          have f2 := (HD.out.blk (by omega)).2.2 a
          have hdq := HD.out.exchd hjn han rfl rfl
          have hmq := (HM.out.trans' (mod_swp wc g j a (.int .u64 (at_ ys a)) (.int .u64 (at_ ys j)))).drew
          obtain ⟨W1, hW1⟩ : ∃ W1, W1 = ((wc.setCell ⟨g, j, none⟩ (.int .u64 (at_ ys a))).setCell ⟨g, a, none⟩ (.int .u64 (at_ ys j))).drew := ⟨_, rfl⟩
          rw [← hW1] at hdq hmq
          have HW := Lib.hid hW1
          clear HD HM hW1
          have HD := Lib.hid hdq
          have HM := Lib.hid hmq
          clear hdq hmq
          go_wp2
          go_region
          rw [← HW.out]
          clear e1 e2 f1 f2 HW
          go_wp2
          go_ret2
          exact ⟨j, true, _, rfl, haj, by omega, HD.out, HSj.out, HPd.out, HM.out⟩
      · have hin : i < n := by omega
        have hjn : j < n := by omega
        have hi1 : at_ ys a ≤ at_ ys i := HI1.out.resolve_left (by omega)
        have hj1 : at_ ys j < at_ ys a := HJ1.out.resolve_left (by omega)
        have hne3 : ¬ i = j := fun e => by subst e; omega
        have hne4 : ¬ j = i := fun e => hne3 e.symm
        obtain ⟨j1, hj1e⟩ : ∃ j1, j = j1 + 1 := ⟨j - 1, by omega⟩
        have wi : IntKind.i64.wrap ((i : Int) + 1) = ((i + 1 : Nat) : Int) := by rw [show (i : Int) + 1 = ((i + 1 : Nat) : Int) by omega]; exact IntWalk.i64_in _ (by omega)
        have wj : IntKind.i64.wrap ((j : Int) - 1) = (j1 : Int) := by rw [show (j : Int) - 1 = (j1 : Int) by omega]; exact IntWalk.i64_in _ (by omega)
        have hpp := HP.out
        rw [hj1e] at hpp
        have hpp2 := hpp.swap hai (by omega) (by omega) (by rw [← HD.out.len]; exact hbn) hi1 (by rw [← hj1e]; exact hj1)
        rw [← hj1e] at hpp2
        have HP2 := Lib.hid hpp2
        have HSs := Lib.hid (HS0.out.exch (i := i) (j := j) HD.out.len (by omega) (by omega) (by omega) (by omega) hbn)
        have HJe := Lib.hid hj1e
        clear hpp hpp2 hi1 hj1 hj1e
        have e1 := HD.out.cell (k := i) hin
        have e2 := HD.out.cell (k := j) hjn
        have f1 := (HD.out.blk (by omega)).2.2 i
        have f2 := (HD.out.blk (by omega)).2.2 j
        have hdq := HD.out.exchd hin hjn rfl rfl
        have hmq := (HM.out.trans' (mod_swp wc g i j (.int .u64 (at_ ys j)) (.int .u64 (at_ ys i)))).drew
        obtain ⟨W1, hW1⟩ : ∃ W1, W1 = ((wc.setCell ⟨g, i, none⟩ (.int .u64 (at_ ys j))).setCell ⟨g, j, none⟩ (.int .u64 (at_ ys i))).drew := ⟨_, rfl⟩
        rw [← hW1] at hdq hmq
        have HW := Lib.hid hW1
        clear HD HM hW1
        have HD := Lib.hid hdq
        have HM := Lib.hid hmq
        clear hdq hmq
        go_wp2
        go_region
        rw [← HW.out]
        clear e1 e2 f1 f2 HW
        go_upto_block 4 with (fail)
        obtain ⟨ys, hys⟩ : ∃ zs, zs = swp ys i j := ⟨_, rfl⟩
        rw [← hys] at HD HP2 HSs
        have hj1e := HJe.out
        obtain ⟨i, hi⟩ : ∃ i', i' = i + 1 := ⟨_, rfl⟩
        rw [← hi] at HP2
        have hai : a < i := by omega
        have hij : i ≤ j1 + 1 := by omega
        have hjd : j1 ≤ d := by omega
        obtain ⟨j, hj⟩ : ∃ j', j' = j1 := ⟨_, rfl⟩
        rw [← hj] at HP2 hij hjd
        clear HP HS0 hys HI1 HJ1 HJe
        have HP := HP2
        have HS0 := HSs
        clear HP2 HSs
        go_cut [10, 11] (fun v u wx => ∃ (i j : Nat) (ys : List Int), v = .int .i64 i ∧ u = .int .i64 j ∧ a < i ∧ i = j + 1 ∧ j ≤ d ∧ PartAt a b i j ys ∧ DS base g n c wx ys ∧ Sws a b xs ys ∧ Mod (fun x => x = g) w wx)
        case first =>
          go_wp2_with (fail)
          go_loopw [10, 11] (fun v u wr => ∃ (i j : Nat) (ys : List Int), v = .int .i64 i ∧ u = .int .i64 j ∧ a < i ∧ i ≤ j + 1 ∧ j ≤ d ∧ PartAt a b i j ys ∧ DS base g n c wr ys ∧ Sws a b xs ys ∧ Mod (fun x => x = g) w wr) (fun v u _ => ((intOf u) + 1 - (intOf v)).toNat)
          case atStart => exact ⟨i, j, ys, by (rw [hi]; go_num), by rw [hj], hai, hij, hjd, HP.out, HD.out, HS0.out, HM.out⟩
          case round =>
            obtain ⟨i, j, ys, rfl, rfl, hai, hij, hjd, hp, hd, hs, hm⟩ := hrel
            clear HP HD HS0 HM
            have HP := Lib.hid hp
            have HD := Lib.hid hd
            have HS0 := Lib.hid hs
            have HM := Lib.hid hm
            clear hp hd hs hm
            go_upto_block 6 with (fail)
            go_cut [10] from 99 to 152 (fun v wx => ∃ q : Nat, v = .int .i64 q ∧ a < q ∧ i ≤ q ∧ q ≤ j + 1 ∧ (q = j + 1 ∨ at_ ys a ≤ at_ ys q) ∧ PartAt a b q j ys ∧ DS base g n c wx ys ∧ Mod (fun x => x = g) w wx)
            case first =>
              go_wp2_with (fail)
              go_loopw [10] (fun v wr => ∃ q : Nat, a < q ∧ i ≤ q ∧ q ≤ d + 1 ∧ q ≤ j + 1 ∧ v = .int .i64 q ∧ PartAt a b q j ys ∧ DS base g n c wr ys ∧ Mod (fun x => x = g) w wr) (fun v _ => d + 1 - (intOf v).toNat)
              case atStart => exact ⟨i, hai, Nat.le_refl _, by omega, hij, rfl, HP.out, HD.out, HM.out⟩
              case round =>
                obtain ⟨q, haq, hiq, hqd, hqj, rfl, hp, hd, hm⟩ := hrel
                clear HD HM HP
                have HP := Lib.hid hp
                have HD := Lib.hid hd
                have HM := Lib.hid hm
                clear hp hd hm
                by_cases hle : q ≤ j
                · have hqn : q < n := by omega
                  have hg : decide (q ≤ j) = true := by simpa using hle
                  have hw1 : IntKind.i64.wrap ((q : Int) + 1) = ((q + 1 : Nat) : Int) := by rw [show (q : Int) + 1 = ((q + 1 : Nat) : Int) by omega]; exact IntWalk.i64_in _ (by omega)
                  have c1 := cell_regrown (HD.out.cell (k := q) hqn)
                  have c2 := cell_regrown (HD.out.cell (k := a) han)
                  have HLs := Lib.hid (fun X => sless_any (at_ ys q) (at_ ys a) X)
                  obtain ⟨r, hr⟩ : ∃ r, decide (at_ ys q < at_ ys a) = r := ⟨_, rfl⟩
                  rw [hr] at HLs
                  have HR := Lib.hid hr
                  clear hr
                  go_wp2
                  refine wp_region_quiet_below (by kernel_rfl) (by kernel_rfl) ?_
                  repeat (go_big_quiet_step ((first | (go_at_call 106; exact regE fun X _ => HLs.out X) | fail)))
                  refine wpQuiet_nil ?_
                  intro W1 hW1
                  have HQ := mod_of_regrown hW1
                  clear hW1
                  have hdq := HD.out.mod HQ id
                  have hmq := HM.out.trans HQ (fun _ h => h.elim)
                  clear HD HM c1 c2 HQ HLs
                  have HD := Lib.hid hdq
                  have HM := Lib.hid hmq
                  clear hdq hmq
                  cases r
                  · go_wp2
                    go_meet
                    exact ⟨q, rfl, haq, hiq, hqj, .inr (by have := of_decide_eq_false HR.out; omega), HP.out, HD.out, HM.out⟩
                  · go_wp2
                    exact ⟨⟨q + 1, by omega, by omega, by omega, by omega, by go_num, HP.out.lo1 (of_decide_eq_true HR.out), HD.out, HM.out⟩, by simp only [intOf]; omega⟩
                · have hg : decide (q ≤ j) = false := by simpa using hle
                  go_wp2
                  refine wp_region_quiet_below (by kernel_rfl) (by kernel_rfl) ?_
                  repeat (go_big_quiet_step ((first | fail | fail)))
                  refine wpQuiet_nil ?_
                  intro W1 hW1
                  have HQ := mod_of_regrown hW1
                  clear hW1
                  have hdq := HD.out.mod HQ id
                  have hmq := HM.out.trans HQ (fun _ h => h.elim)
                  clear HD HM HQ
                  have HD := Lib.hid hdq
                  have HM := Lib.hid hmq
                  clear hdq hmq
                  go_wp2
                  go_meet
                  exact ⟨q, rfl, haq, hiq, hqj, .inl (by omega), HP.out, HD.out, HM.out⟩
            case rest =>
              obtain ⟨i, rfl, hai, hii, hij, hi1, hp, hd, hm⟩ := hcut
              clear HP HD HM
              have HP := Lib.hid hp
              have HD := Lib.hid hd
              have HM := Lib.hid hm
              have HI1 := Lib.hid hi1
              clear hp hd hm hi1
              go_upto_block 8 with (fail)
              go_cut [11] from 99 to 152 (fun v wx => ∃ q : Nat, v = .int .i64 q ∧ q ≤ d ∧ q ≤ j ∧ i ≤ q + 1 ∧ (i = q + 1 ∨ at_ ys q < at_ ys a) ∧ PartAt a b i q ys ∧ DS base g n c wx ys ∧ Mod (fun x => x = g) w wx)
              case first =>
                go_wp2_with (fail)
                go_loopw [11] (fun v wr => ∃ q : Nat, q ≤ d ∧ q ≤ j ∧ i ≤ q + 1 ∧ v = .int .i64 q ∧ PartAt a b i q ys ∧ DS base g n c wr ys ∧ Mod (fun x => x = g) w wr) (fun v _ => (intOf v).toNat)
                case atStart => exact ⟨j, by omega, Nat.le_refl _, hij, rfl, HP.out, HD.out, HM.out⟩
                case round =>
                  obtain ⟨q, hqd, hqj, hiq, rfl, hp, hd, hm⟩ := hrel
                  clear HD HM HP
                  have HP := Lib.hid hp
                  have HD := Lib.hid hd
                  have HM := Lib.hid hm
                  clear hp hd hm
                  by_cases hle : i ≤ q
                  · have hqn : q < n := by omega
                    obtain ⟨q1, hq1⟩ : ∃ q1, q = q1 + 1 := ⟨q - 1, by omega⟩
                    have hg : decide (i ≤ q) = true := by simpa using hle
                    have hw1 : IntKind.i64.wrap ((q : Int) - 1) = (q1 : Int) := by rw [show (q : Int) - 1 = (q1 : Int) by omega]; exact IntWalk.i64_in _ (by omega)
                    have HQ1 := Lib.hid hq1
                    clear hq1
                    have c1 := cell_regrown (HD.out.cell (k := q) hqn)
                    have c2 := cell_regrown (HD.out.cell (k := a) han)
                    have HLs := Lib.hid (fun X => sless_any (at_ ys q) (at_ ys a) X)
                    obtain ⟨r, hr⟩ : ∃ r, decide (at_ ys q < at_ ys a) = r := ⟨_, rfl⟩
                    rw [hr] at HLs
                    have HR := Lib.hid hr
                    clear hr
                    go_wp2
                    refine wp_region_quiet_below (by kernel_rfl) (by kernel_rfl) ?_
                    repeat (go_big_quiet_step ((first | (go_at_call 106; exact regE fun X _ => HLs.out X) | fail)))
                    refine wpQuiet_nil ?_
                    intro W1 hW1
                    have HQ := mod_of_regrown hW1
                    clear hW1
                    have hdq := HD.out.mod HQ id
                    have hmq := HM.out.trans HQ (fun _ h => h.elim)
                    clear HD HM c1 c2 HQ HLs
                    have HD := Lib.hid hdq
                    have HM := Lib.hid hmq
                    clear hdq hmq
                    cases r
                    · go_wp2
                      have hq1 := HQ1.out
                      have hpp := HP.out
                      rw [hq1] at hpp
                      exact ⟨⟨q1, by omega, by omega, by omega, rfl, hpp.hi1 (by rw [← hq1]; have := of_decide_eq_false HR.out; omega), HD.out, HM.out⟩, by simp only [intOf]; omega⟩
                    · go_wp2
                      go_meet
                      exact ⟨q, rfl, hqd, hqj, hiq, .inr (of_decide_eq_true HR.out), HP.out, HD.out, HM.out⟩
                  · have hg : decide (i ≤ q) = false := by simpa using hle
                    go_wp2
                    refine wp_region_quiet_below (by kernel_rfl) (by kernel_rfl) ?_
                    repeat (go_big_quiet_step ((first | fail | fail)))
                    refine wpQuiet_nil ?_
                    intro W1 hW1
                    have HQ := mod_of_regrown hW1
                    clear hW1
                    have hdq := HD.out.mod HQ id
                    have hmq := HM.out.trans HQ (fun _ h => h.elim)
                    clear HD HM HQ
                    have HD := Lib.hid hdq
                    have HM := Lib.hid hmq
                    clear hdq hmq
                    go_wp2
                    go_meet
                    exact ⟨q, rfl, hqd, hqj, hiq, .inl (by omega), HP.out, HD.out, HM.out⟩
              case rest =>
                obtain ⟨j, rfl, hjd, hjj, hij, hj1, hp, hd, hm⟩ := hcut
                clear HP HD HM
                have HP := Lib.hid hp
                have HD := Lib.hid hd
                have HM := Lib.hid hm
                have HJ1 := Lib.hid hj1
                clear hp hd hm hj1
                by_cases hgt : j < i
                · go_wp2
                  go_meet
                  exact ⟨i, j, ys, rfl, rfl, hai, by omega, hjd, HP.out, HD.out, HS0.out, HM.out⟩
                · have hin : i < n := by omega
                  have hjn : j < n := by omega
                  have hi1 : at_ ys a ≤ at_ ys i := HI1.out.resolve_left (by omega)
                  have hj1 : at_ ys j < at_ ys a := HJ1.out.resolve_left (by omega)
                  have hne3 : ¬ i = j := fun e => by subst e; omega
                  have hne4 : ¬ j = i := fun e => hne3 e.symm
                  obtain ⟨j1, hj1e⟩ : ∃ j1, j = j1 + 1 := ⟨j - 1, by omega⟩
                  have wi : IntKind.i64.wrap ((i : Int) + 1) = ((i + 1 : Nat) : Int) := by rw [show (i : Int) + 1 = ((i + 1 : Nat) : Int) by omega]; exact IntWalk.i64_in _ (by omega)
                  have wj : IntKind.i64.wrap ((j : Int) - 1) = (j1 : Int) := by rw [show (j : Int) - 1 = (j1 : Int) by omega]; exact IntWalk.i64_in _ (by omega)
                  have hpp := HP.out
                  rw [hj1e] at hpp
                  have hpp2 := hpp.swap hai (by omega) (by omega) (by rw [← HD.out.len]; exact hbn) hi1 (by rw [← hj1e]; exact hj1)
                  rw [← hj1e] at hpp2
                  have HP2 := Lib.hid hpp2
                  have HSs := Lib.hid (HS0.out.exch (i := i) (j := j) HD.out.len (by omega) (by omega) (by omega) (by omega) hbn)
                  have HJe := Lib.hid hj1e
                  clear hpp hpp2 hi1 hj1 hj1e
                  have e1 := HD.out.cell (k := i) hin
                  have e2 := HD.out.cell (k := j) hjn
                  have f1 := (HD.out.blk (by omega)).2.2 i
                  have f2 := (HD.out.blk (by omega)).2.2 j
                  have hdq := HD.out.exchd hin hjn rfl rfl
                  have hmq := (HM.out.trans' (mod_swp wc g i j (.int .u64 (at_ ys j)) (.int .u64 (at_ ys i)))).drew
                  obtain ⟨W1, hW1⟩ : ∃ W1, W1 = ((wc.setCell ⟨g, i, none⟩ (.int .u64 (at_ ys j))).setCell ⟨g, j, none⟩ (.int .u64 (at_ ys i))).drew := ⟨_, rfl⟩
                  rw [← hW1] at hdq hmq
                  have HW := Lib.hid hW1
                  clear HD HM hW1
                  have HD := Lib.hid hdq
                  have HM := Lib.hid hmq
                  clear hdq hmq
                  go_wp2
                  go_region
                  rw [← HW.out]
                  clear e1 e2 f1 f2 HW
                  go_wp2
                  obtain ⟨ys, hys⟩ : ∃ zs, zs = swp ys i j := ⟨_, rfl⟩
                  rw [← hys] at HD HP2 HSs
                  have hj1e := HJe.out
                  obtain ⟨i, hi⟩ : ∃ i', i' = i + 1 := ⟨_, rfl⟩
                  rw [← hi] at HP2
                  have hai : a < i := by omega
                  have hij : i ≤ j1 + 1 := by omega
                  have hjd : j1 ≤ d := by omega
                  obtain ⟨j, hj⟩ : ∃ j', j' = j1 := ⟨_, rfl⟩
                  rw [← hj] at HP2 hij hjd
                  clear HP HS0 hys HI1 HJ1 HJe
                  have HP := HP2
                  have HS0 := HSs
                  clear HP2 HSs
                  exact ⟨⟨i, j, ys, by (rw [hi]; go_num), by rw [hj], hai, hij, hjd, HP.out, HD.out, HS0.out, HM.out⟩, by simp only [intOf]; omega⟩
        case rest =>
          obtain ⟨i, j, ys, rfl, rfl, hai, hij, hjd, hp, hd, hs, hm⟩ := hcut
          clear HP HD HS0 HM
          have HP := Lib.hid hp
          have HD := Lib.hid hd
          have HS0 := Lib.hid hs
          have HM := Lib.hid hm
          clear hp hd hs hm
          have hjn : j < n := by omega
          have haj : a ≤ j := by omega
          have hpd := HP.out.done (j := j) (by omega) haj (by omega) (by rw [← HD.out.len]; exact hbn)
          have HPd := Lib.hid hpd
          have HSj := Lib.hid (HS0.out.exch HD.out.len haj (by omega) (Nat.le_refl _) (by omega) hbn)
          clear hpd
          by_cases hja : j = a
          · subst hja
            have e1 := HD.out.cell (k := j) hjn
            have e2 := HD.out.cell (k := j) hjn
            have f1 := (HD.out.blk (by omega)).2.2 j
            have f2 := (HD.out.blk (by omega)).2.2 j
            have hdq := HD.out.exchd hjn hjn rfl rfl
            have hmq := (HM.out.trans' (mod_swp wc g j j (.int .u64 (at_ ys j)) (.int .u64 (at_ ys j)))).drew
            obtain ⟨W1, hW1⟩ : ∃ W1, W1 = ((wc.setCell ⟨g, j, none⟩ (.int .u64 (at_ ys j))).setCell ⟨g, j, none⟩ (.int .u64 (at_ ys j))).drew := ⟨_, rfl⟩
            rw [← hW1] at hdq hmq
            have HW := Lib.hid hW1
            clear HD HM hW1
            have HD := Lib.hid hdq
            have HM := Lib.hid hmq
            clear hdq hmq
            go_wp2
            go_region
            rw [← HW.out]
            clear e1 e2 f1 f2 HW
            go_wp2
            go_ret2
            exact ⟨j, false, _, rfl, Nat.le_refl _, by omega, HD.out, HSj.out, HPd.out, HM.out⟩
          · have hne3 : ¬ a = j := fun e => hja e.symm
            have e1 := HD.out.cell (k := j) hjn
            have e2 := HD.out.cell (k := a) han
            have f1 := (HD.out.blk (by omega)).2.2 j
            have f2 := (HD.out.blk (by omega)).2.2 a
            have hdq := HD.out.exchd hjn han rfl rfl
            have hmq := (HM.out.trans' (mod_swp wc g j a (.int .u64 (at_ ys a)) (.int .u64 (at_ ys j)))).drew
            obtain ⟨W1, hW1⟩ : ∃ W1, W1 = ((wc.setCell ⟨g, j, none⟩ (.int .u64 (at_ ys a))).setCell ⟨g, a, none⟩ (.int .u64 (at_ ys j))).drew := ⟨_, rfl⟩
            rw [← hW1] at hdq hmq
            have HW := Lib.hid hW1
            clear HD HM hW1
            have HD := Lib.hid hdq
            have HM := Lib.hid hmq
            clear hdq hmq
            go_wp2
            go_region
            rw [← HW.out]
            clear e1 e2 f1 f2 HW
            go_wp2
            go_ret2
            exact ⟨j, false, _, rfl, haj, by omega, HD.out, HSj.out, HPd.out, HM.out⟩
end Go.Proofs.YtmalclclopnlnaaGreat
