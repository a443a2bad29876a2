/-
  Texts of this claim, one behind the other: SortG.
-/
import Derived.Test.YtmalclclopnlnaaGreatPk27
/-
  The library's sort of numbers: sorted but for a few.
-/
namespace Go.Proofs.YtmalclclopnlnaaGreat
open Go.RowKit Go.Shelf
attribute [local go_sem] Oper.semAt_some

theorem SrtOn.snoc {a i : Nat} {xs : List Int} (h : SrtOn a i xs) (hai : a < i) (hle : at_ xs (i - 1) ≤ at_ xs i) : SrtOn a (i + 1) xs := by
  intro p q h1 h2 h3
  by_cases hq : q = i
  · subst hq
    by_cases hp : p = q - 1
    · rw [hp]; exact hle
    · exact Int.le_trans (h p (q - 1) h1 (by omega) (by omega)) hle
  · exact h p q h1 h2 (by omega)
theorem SrtOn.out {a i : Nat} {xs ys : List Int} (h : SrtOn a i xs) (he : ∀ k, k < i → at_ ys k = at_ xs k) : SrtOn a i ys := by
  intro p q h1 h2 h3
  rw [he p (by omega), he q h3]; exact h p q h1 h2 h3
set_option maxRecDepth 100000 in
set_option maxHeartbeats 4000000 in
theorem spartial_any (base g n c a b : Nat) (xs : List Int) (w : World) (h : DS base g n c w xs) (hab : a < b) (hbn : b ≤ n) (hn : n ≤ 1099511627776) (hpr : Pred_ a b xs) :
    Calls Tryz.prog 105 #[.slice (some ⟨g, 0, none⟩) n c, .int .i64 a, .int .i64 b] w fun e w' => ∃ (f : Bool) (ys : List Int), e = .returned (.bool f) ∧ DS base g n c w' ys ∧ Sws a b xs ys ∧ (f = true → SrtOn a b ys) ∧ Mod (fun x => x = g) w w' := by
  have hw0 : IntKind.i64.wrap ((a : Int) + 1) = ((a + 1 : Nat) : Int) := by rw [show (a : Int) + 1 = ((a + 1 : Nat) : Int) by omega]; exact IntWalk.i64_in _ (by omega)
  obtain ⟨l, hll⟩ : ∃ l, b = a + l := ⟨b - a, by omega⟩
  have hwl : IntKind.i64.wrap ((b : Int) - (a : Int)) = (l : Int) := by rw [show (b : Int) - (a : Int) = (l : Int) by omega]; exact IntWalk.i64_in _ (by omega)
  have HLl := Lib.hid hll
  have HPr := Lib.hid hpr
  have HD0 := Lib.hid h
  clear hll hpr h
  go_enter Tryz.func105, Tryz.ntmps105
  go_wp2
  go_loopw [7, 8] (fun v u wr => ∃ (i jj : Nat) (ys : List Int), v = .int .i64 i ∧ u = .int .i64 jj ∧ jj ≤ 5 ∧ a < i ∧ i ≤ b ∧ SrtOn a i ys ∧ DS base g n c wr ys ∧ Sws a b xs ys ∧ Mod (fun x => x = g) w wr) (fun _ u _ => 5 - (intOf u).toNat)
  case atStart => exact ⟨a + 1, 0, xs, by go_num, rfl, by omega, by omega, by omega, .small _ (by omega), HD0.out, .refl, Mod.refl _ _⟩
  case round =>
    obtain ⟨i, jj, ys, rfl, rfl, hj5, hai, hib, hso, hd, hs, hm⟩ := hrel
    clear HD0
    have HD := Lib.hid hd
    have HS := Lib.hid hs
    have HM := Lib.hid hm
    have HSo := Lib.hid hso
    clear hd hs hm hso
    have wj : IntKind.i64.wrap ((jj : Int) + 1) = ((jj + 1 : Nat) : Int) := by rw [show (jj : Int) + 1 = ((jj + 1 : Nat) : Int) by omega]; exact IntWalk.i64_in _ (by omega)
    by_cases hjj : jj < 5
    · go_upto_block 2 with (fail)
      go_cut [7] from 13 to 132 (fun v wx => ∃ q : Nat, v = .int .i64 q ∧ a < q ∧ q ≤ b ∧ (q = b ∨ at_ ys q < at_ ys (q - 1)) ∧ SrtOn a q ys ∧ DS base g n c wx ys ∧ Mod (fun x => x = g) w wx)
      case first =>
        go_wp2_with (fail)
        go_loopw [7] (fun v wr => ∃ q : Nat, v = .int .i64 q ∧ a < q ∧ q ≤ b ∧ SrtOn a q ys ∧ DS base g n c wr ys ∧ Mod (fun x => x = g) w wr) (fun v _ => b - (intOf v).toNat)
        case atStart => exact ⟨i, rfl, hai, hib, HSo.out, HD.out, HM.out⟩
        case round =>
          obtain ⟨q, rfl, haq, hqb, hso, hd, hm⟩ := hrel
          clear HD HM HSo
          have HD := Lib.hid hd
          have HM := Lib.hid hm
          have HSo := Lib.hid hso
          clear hd hm hso
          by_cases hlt : q < b
          · obtain ⟨q1, hq1⟩ : ∃ q1, q = q1 + 1 := ⟨q - 1, by omega⟩
            have hqn : q < n := by omega
            have hq1n : q1 < n := by omega
            have hg : decide (q < b) = true := by simpa using hlt
            have w1 : IntKind.i64.wrap ((q : Int) - 1) = (q1 : Int) := by rw [show (q : Int) - 1 = (q1 : Int) by omega]; exact IntWalk.i64_in _ (by omega)
            have w2 : IntKind.i64.wrap ((q : Int) + 1) = ((q + 1 : Nat) : Int) := by rw [show (q : Int) + 1 = ((q + 1 : Nat) : Int) by omega]; exact IntWalk.i64_in _ (by omega)
            have HQ1 := Lib.hid (show q - 1 = q1 by omega)
            clear hq1
            have c1 := cell_regrown (HD.out.cell (k := q) hqn)
            have c2 := cell_regrown (HD.out.cell (k := q1) hq1n)
            have HLs := Lib.hid (fun X => sless_any (at_ ys q) (at_ ys q1) X)
            obtain ⟨r, hr⟩ : ∃ r, decide (at_ ys q < at_ ys q1) = r := ⟨_, rfl⟩
            rw [hr] at HLs
            have HR := Lib.hid hr
            clear hr
            go_wp2
            refine wp_region_quiet_below (by kernel_rfl) (by kernel_rfl) ?_
            repeat (go_big_quiet_step ((first | (go_at_call 106; exact regE fun X _ => HLs.out X) | fail)))
            refine wpQuiet_nil ?_
            intro W1 hW1
            have HQ := mod_of_regrown hW1
            clear hW1
            have hdq := HD.out.mod HQ id
            have hmq := HM.out.trans HQ (fun _ h => h.elim)
            clear HD HM c1 c2 HQ HLs
            have HD := Lib.hid hdq
            have HM := Lib.hid hmq
            clear hdq hmq
            cases r
            · go_wp2
              exact ⟨⟨q + 1, by go_num, by omega, by omega, HSo.out.snoc haq (by rw [HQ1.out]; have := of_decide_eq_false HR.out; omega), HD.out, HM.out⟩, by simp only [intOf]; omega⟩
            · go_wp2
              go_meet
              exact ⟨q, rfl, haq, hqb, .inr (by rw [HQ1.out]; exact of_decide_eq_true HR.out), HSo.out, HD.out, HM.out⟩
          · have hg : decide (q < b) = false := by simpa using hlt
            go_wp2
            refine wp_region_quiet_below (by kernel_rfl) (by kernel_rfl) ?_
            repeat (go_big_quiet_step ((first | fail | fail)))
            refine wpQuiet_nil ?_
            intro W1 hW1
            have HQ := mod_of_regrown hW1
            clear hW1
            have hdq := HD.out.mod HQ id
            have hmq := HM.out.trans HQ (fun _ h => h.elim)
            clear HD HM HQ
            have HD := Lib.hid hdq
            have HM := Lib.hid hmq
            clear hdq hmq
            go_wp2
            go_meet
            exact ⟨q, rfl, haq, hqb, .inl (by omega), HSo.out, HD.out, HM.out⟩
      case rest =>
        obtain ⟨i, rfl, hai, hib, hst, hso, hd, hm⟩ := hcut
        clear HD HM HSo
        have HD := Lib.hid hd
        have HM := Lib.hid hm
        have HSo := Lib.hid hso
        have HSt := Lib.hid hst
        clear hd hm hso hst
        by_cases hieq : i = b
        · have hE := Lib.hid hieq
          have hbe : ((i : Int) == (b : Int)) = true := by simp; omega
          clear hieq
          go_wp2
          go_ret
          exact ⟨true, ys, rfl, HD.out, HS.out, fun _ => by rw [← hE.out]; exact HSo.out, HM.out⟩
        · have hbe : ((i : Int) == (b : Int)) = false := by simp; omega
          have hlt : i < b := by omega
          clear hieq
          by_cases h50 : l < 50
          · go_wp2
            go_ret
            exact ⟨false, ys, rfl, HD.out, HS.out, fun h => (by cases h), HM.out⟩
          · obtain ⟨i1, hi1⟩ : ∃ i1, i = i1 + 1 := ⟨i - 1, by omega⟩
            have hin : i < n := by omega
            have hi1n : i1 < n := by omega
            have hai1 : a ≤ i1 := by omega
            have hi1b : i1 < b := by omega
            have hne1 : ¬ i = i1 := by omega
            have hne2 : ¬ i1 = i := by omega
            have w1 : IntKind.i64.wrap ((i : Int) - 1) = (i1 : Int) := by rw [show (i : Int) - 1 = (i1 : Int) by omega]; exact IntWalk.i64_in _ (by omega)
            have HI1 := Lib.hid hi1
            have HSs := Lib.hid (HS.out.exch (i := i) (j := i1) HD.out.len (by omega) (by omega) (by omega) (by omega) hbn)
            have hso1 : SrtOn a i1 (swp ys i i1) := (show SrtOn a i1 ys from fun p q h1 h2 h3 => HSo.out p q h1 h2 (by omega)).out fun k hk => by
              rw [at_swp (by rw [← HD.out.len]; omega) (by rw [← HD.out.len]; omega), if_neg (by omega), if_neg (by omega)]
            have HSo1 := Lib.hid hso1
            obtain ⟨d, hd⟩ : ∃ d, i = a + d := ⟨i - a, by omega⟩
            obtain ⟨e, he⟩ : ∃ e, b = i + e := ⟨b - i, by omega⟩
            have w2 : IntKind.i64.wrap ((i : Int) - (a : Int)) = (d : Int) := by rw [show (i : Int) - (a : Int) = (d : Int) by omega]; exact IntWalk.i64_in _ (by omega)
            have w3 : IntKind.i64.wrap ((b : Int) - (i : Int)) = (e : Int) := by rw [show (b : Int) - (i : Int) = (e : Int) by omega]; exact IntWalk.i64_in _ (by omega)
            have w4 : IntKind.i64.wrap ((i : Int) + 1) = ((i + 1 : Nat) : Int) := by rw [show (i : Int) + 1 = ((i + 1 : Nat) : Int) by omega]; exact IntWalk.i64_in _ (by omega)
            have HDe := Lib.hid (And.intro hd he)
            clear hi1 hd he hso1
            go_upto_region 11 with (fail)
            have e1 := HD.out.cell (k := i) hin
            have e2 := HD.out.cell (k := i1) hi1n
            have f1 := (HD.out.blk (by omega)).2.2 i
            have f2 := (HD.out.blk (by omega)).2.2 i1
            have hdq := HD.out.exchd hin hi1n rfl rfl
            have hmq := (HM.out.trans' (mod_swp wc g i i1 (.int .u64 (at_ ys i1)) (.int .u64 (at_ ys i)))).drew
            obtain ⟨Wx, hWx⟩ : ∃ Wx, Wx = ((wc.setCell ⟨g, i, none⟩ (.int .u64 (at_ ys i1))).setCell ⟨g, i1, none⟩ (.int .u64 (at_ ys i))).drew := ⟨_, rfl⟩
            rw [← hWx] at hdq hmq
            have HW := Lib.hid hWx
            clear HD HM hWx
            have HD := Lib.hid hdq
            have HM := Lib.hid hmq
            clear hdq hmq
            go_wp2
            go_region
            rw [← HW.out]
            clear e1 e2 f1 f2 HW
            obtain ⟨ys, hys⟩ : ∃ zs, zs = swp ys i i1 := ⟨_, rfl⟩
            rw [← hys] at HD HSs HSo1
            clear hys HS HSo HSt
            have HS := HSs
            clear HSs
            go_upto_if 61 with (fail)
            go_cut [9] from 13 to 132 (fun _ wx => ∃ zs : List Int, SrtOn a i zs ∧ DS base g n c wx zs ∧ Sws a b xs zs ∧ Mod (fun x => x = g) w wx)
            case first =>
              by_cases hd2 : 2 ≤ d
              · go_wp2_with (fail)
                go_loopw [9] (fun v wr => ∃ (q : Nat) (zs : List Int), v = .int .i64 q ∧ InsAt a i1 q zs ∧ DS base g n c wr zs ∧ Sws a b xs zs ∧ Mod (fun x => x = g) w wr) (fun v _ => (intOf v).toNat)
                case atStart => exact ⟨i1, ys, rfl, .start HSo1.out hai1, HD.out, HS.out, HM.out⟩
                case round =>
                  obtain ⟨q, ys, rfl, hin2, hd, hs, hm⟩ := hrel
                  clear HD HM HS HSo1
                  have HD := Lib.hid hd
                  have HM := Lib.hid hm
                  have HS := Lib.hid hs
                  have HI := Lib.hid hin2
                  have hqi := hin2.hi
                  have haq := hin2.lo
                  clear hd hm hs hin2
                  by_cases hq1 : 1 ≤ q
                  · obtain ⟨p, hp⟩ : ∃ p, q = p + 1 := ⟨q - 1, by omega⟩
                    have hqn : q < n := by omega
                    have hpn : p < n := by omega
                    have hne3 : ¬ q = p := by omega
                    have hne4 : ¬ p = q := by omega
                    have w5 : IntKind.i64.wrap ((q : Int) - 1) = (p : Int) := by rw [show (q : Int) - 1 = (p : Int) by omega]; exact IntWalk.i64_in _ (by omega)
                    have HP1 := Lib.hid (show q - 1 = p by omega)
                    have HPn := Lib.hid (show q = p + 1 from hp)
                    clear hp
                    go_wp2
                    have c1 := cell_regrown (HD.out.cell (k := q) hqn)
                    have c2 := cell_regrown (HD.out.cell (k := p) hpn)
                    have HLs := Lib.hid (fun X => sless_any (at_ ys q) (at_ ys p) X)
                    obtain ⟨r, hr⟩ : ∃ r, decide (at_ ys q < at_ ys p) = r := ⟨_, rfl⟩
                    rw [hr] at HLs
                    have HR := Lib.hid hr
                    clear hr
                    go_wp2
                    refine wp_region_quiet_below (by kernel_rfl) (by kernel_rfl) ?_
                    repeat (go_big_quiet_step ((first | (go_at_call 106; exact regE fun X _ => HLs.out X) | fail)))
                    refine wpQuiet_nil ?_
                    intro W1 hW1
                    have HQ := mod_of_regrown hW1
                    clear hW1
                    have hdq := HD.out.mod HQ id
                    have hmq := HM.out.trans HQ (fun _ h => h.elim)
                    clear HD HM c1 c2 HQ HLs
                    have HD := Lib.hid hdq
                    have HM := Lib.hid hmq
                    clear hdq hmq
                    cases r
                    · go_wp2
                      go_meet
                      exact ⟨ys, by have := HI.out.done (.inr (by rw [HP1.out]; have := of_decide_eq_false HR.out; omega)); rw [HI1.out]; exact this, HD.out, HS.out, HM.out⟩
                    · have hlt2 := of_decide_eq_true HR.out
                      have haq2 : a < q := by
                        rcases Nat.lt_or_ge a q with h | h
                        · exact h
                        · exfalso
                          have haq3 : q = a := by omega
                          rcases HPr.out.sws HS.out with h0 | h0
                          · omega
                          · have := h0 a (Nat.le_refl _) hab
                            rw [← haq3, HP1.out] at this
                            omega
                      have hst := HI.out.step haq2 (by rw [HP1.out]; exact hlt2) (by rw [← HD.out.len]; omega)
                      rw [HP1.out] at hst
                      have HSt := Lib.hid hst
                      have HSs := Lib.hid (HS.out.exch (i := q) (j := p) HD.out.len haq (by omega) (by have := HPn.out; omega) (by have := HPn.out; omega) hbn)
                      clear hst hlt2
                      have e1 := HD.out.cell (k := q) hqn
                      have e2 := HD.out.cell (k := p) hpn
                      have f1 := (HD.out.blk (by omega)).2.2 q
                      have f2 := (HD.out.blk (by omega)).2.2 p
                      have hdq := HD.out.exchd hqn hpn rfl rfl
                      have hmq := (HM.out.trans' (mod_swp W1 g q p (.int .u64 (at_ ys p)) (.int .u64 (at_ ys q)))).drew
                      obtain ⟨Wx, hWx⟩ : ∃ Wx, Wx = ((W1.setCell ⟨g, q, none⟩ (.int .u64 (at_ ys p))).setCell ⟨g, p, none⟩ (.int .u64 (at_ ys q))).drew := ⟨_, rfl⟩
                      rw [← hWx] at hdq hmq
                      have HW := Lib.hid hWx
                      clear HD HM hWx
                      have HD := Lib.hid hdq
                      have HM := Lib.hid hmq
                      clear hdq hmq
                      go_wp2
                      go_region
                      rw [← HW.out]
                      clear e1 e2 f1 f2 HW
                      go_wp2
                      have hpq := HPn.out
                      exact ⟨⟨p, _, rfl, HSt.out, HD.out, HSs.out, HM.out⟩, by simp only [intOf]; omega⟩
                  · obtain rfl : q = 0 := by omega
                    go_wp2
                    go_meet
                    exact ⟨ys, by have := HI.out.done (.inl (by omega)); rw [HI1.out]; exact this, HD.out, HS.out, HM.out⟩
              · have hd3 := HDe.out.1
                have HSm := Lib.hid (SrtOn.small ys (show i ≤ a + 1 by omega))
                go_wp2
                go_meet
                exact ⟨ys, HSm.out, HD.out, HS.out, HM.out⟩
            case rest =>
              obtain ⟨ys, hso, hd, hs, hm⟩ := hcut
              clear HD HM HS HSo1
              have HD := Lib.hid hd
              have HM := Lib.hid hm
              have HS := Lib.hid hs
              have HSo := Lib.hid hso
              clear hd hm hs hso
              by_cases he2 : 2 ≤ e
              · go_wp2_with (fail)
                go_loopw [10] (fun v wr => ∃ (q : Nat) (zs : List Int), v = .int .i64 q ∧ i < q ∧ q ≤ b ∧ SrtOn a i zs ∧ DS base g n c wr zs ∧ Sws a b xs zs ∧ Mod (fun x => x = g) w wr) (fun v _ => b - (intOf v).toNat)
                case atStart => exact ⟨i + 1, ys, by go_num, by omega, by omega, HSo.out, HD.out, HS.out, HM.out⟩
                case round =>
                  obtain ⟨q, ys, rfl, hiq, hqb, hso, hd, hs, hm⟩ := hrel
                  clear HD HM HS HSo
                  have HD := Lib.hid hd
                  have HM := Lib.hid hm
                  have HS := Lib.hid hs
                  have HSo := Lib.hid hso
                  clear hd hm hs hso
                  by_cases hlt2 : q < b
                  · obtain ⟨p, hp⟩ : ∃ p, q = p + 1 := ⟨q - 1, by omega⟩
                    have hqn : q < n := by omega
                    have hpn : p < n := by omega
                    have hne3 : ¬ q = p := by omega
                    have hne4 : ¬ p = q := by omega
                    have hip : i ≤ p := by omega
                    have w5 : IntKind.i64.wrap ((q : Int) - 1) = (p : Int) := by rw [show (q : Int) - 1 = (p : Int) by omega]; exact IntWalk.i64_in _ (by omega)
                    have w6 : IntKind.i64.wrap ((q : Int) + 1) = ((q + 1 : Nat) : Int) := by rw [show (q : Int) + 1 = ((q + 1 : Nat) : Int) by omega]; exact IntWalk.i64_in _ (by omega)
                    have hpb : p < b := by omega
                    clear hp
                    go_wp2
                    have c1 := cell_regrown (HD.out.cell (k := q) hqn)
                    have c2 := cell_regrown (HD.out.cell (k := p) hpn)
                    have HLs := Lib.hid (fun X => sless_any (at_ ys q) (at_ ys p) X)
                    obtain ⟨r, hr⟩ : ∃ r, decide (at_ ys q < at_ ys p) = r := ⟨_, rfl⟩
                    rw [hr] at HLs
                    have HR := Lib.hid hr
                    clear hr
                    go_wp2
                    refine wp_region_quiet_below (by kernel_rfl) (by kernel_rfl) ?_
                    repeat (go_big_quiet_step ((first | (go_at_call 106; exact regE fun X _ => HLs.out X) | fail)))
                    refine wpQuiet_nil ?_
                    intro W1 hW1
                    have HQ := mod_of_regrown hW1
                    clear hW1
                    have hdq := HD.out.mod HQ id
                    have hmq := HM.out.trans HQ (fun _ h => h.elim)
                    clear HD HM c1 c2 HQ HLs
                    have HD := Lib.hid hdq
                    have HM := Lib.hid hmq
                    clear hdq hmq
                    cases r
                    · go_wp2
                      exact ⟨⟨i, jj + 1, ys, rfl, by go_num, by omega, hai, hib, HSo.out, HD.out, HS.out, HM.out⟩, by simp only [intOf]; omega⟩
                    · have HSs := Lib.hid (HS.out.exch (i := q) (j := p) HD.out.len (by omega) (by omega) (by omega) (by omega) hbn)
                      have hso2 := HSo.out.out (ys := swp ys q p) fun k hk => by
                        rw [at_swp (by rw [← HD.out.len]; exact hqn) (by rw [← HD.out.len]; exact hpn), if_neg (by omega), if_neg (by omega)]
                      have HSo2 := Lib.hid hso2
                      clear hso2
                      have e1 := HD.out.cell (k := q) hqn
                      have e2 := HD.out.cell (k := p) hpn
                      have f1 := (HD.out.blk (by omega)).2.2 q
                      have f2 := (HD.out.blk (by omega)).2.2 p
                      have hdq := HD.out.exchd hqn hpn rfl rfl
                      have hmq := (HM.out.trans' (mod_swp W1 g q p (.int .u64 (at_ ys p)) (.int .u64 (at_ ys q)))).drew
                      obtain ⟨Wx, hWx⟩ : ∃ Wx, Wx = ((W1.setCell ⟨g, q, none⟩ (.int .u64 (at_ ys p))).setCell ⟨g, p, none⟩ (.int .u64 (at_ ys q))).drew := ⟨_, rfl⟩
                      rw [← hWx] at hdq hmq
                      have HW := Lib.hid hWx
                      clear HD HM hWx
                      have HD := Lib.hid hdq
                      have HM := Lib.hid hmq
                      clear hdq hmq
                      go_wp2
                      go_region
                      rw [← HW.out]
                      clear e1 e2 f1 f2 HW
                      go_wp2
                      exact ⟨⟨q + 1, _, by go_num, by omega, by omega, HSo2.out, HD.out, HSs.out, HM.out⟩, by simp only [intOf]; omega⟩
                  · go_wp2
                    exact ⟨⟨i, jj + 1, ys, rfl, by go_num, by omega, hai, hib, HSo.out, HD.out, HS.out, HM.out⟩, by simp only [intOf]; omega⟩
              · go_wp2
                exact ⟨⟨i, jj + 1, ys, rfl, by go_num, by omega, hai, hib, HSo.out, HD.out, HS.out, HM.out⟩, by simp only [intOf]; omega⟩
    · go_wp2
      go_ret
      exact ⟨false, ys, rfl, HD.out, HS.out, fun h => (by cases h), HM.out⟩
end Go.Proofs.YtmalclclopnlnaaGreat
