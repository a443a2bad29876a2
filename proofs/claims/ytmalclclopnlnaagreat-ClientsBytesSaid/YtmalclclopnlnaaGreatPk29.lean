/-
  Texts of this claim, one behind the other: SortH.
-/
import Derived.Test.YtmalclclopnlnaaGreatPk28
import Derived.Shelf.Small.Bits
/-
  The library's sort of numbers, whole.
-/
namespace Go.Proofs.YtmalclclopnlnaaGreat
open Go.RowKit Go.Shelf
attribute [local go_sem] Oper.semAt_some

theorem Parted.left_done {a b m : Nat} {xs ys : List Int} (h : Parted a b m xs) (hs : Sws a m xs ys) (hso : SrtOn a m ys) : (∀ i j, a ≤ i → i < j → j < b → i < m + 1 → at_ ys i ≤ at_ ys j) ∧ Pred_ (m + 1) b ys := by
  have em : ∀ k, m ≤ k → at_ ys k = at_ xs k := fun k hk => hs.out (.inr hk)
  have hlo : ∀ k, a ≤ k → k < m → at_ ys k ≤ at_ xs m := hs.all (p := fun v => v ≤ at_ xs m) h.lo
  refine ⟨fun i j h1 h2 h3 h4 => ?_, .inr fun k h1 h2 => ?_⟩
  · by_cases hi : i = m
    · subst hi
      rw [em _ (Nat.le_refl _), em _ (Nat.le_of_lt h2)]
      exact h.hi j h2 h3
    · have hi2 : i < m := by omega
      by_cases hj : j < m
      · exact hso i j h1 h2 hj
      · rw [em j (by omega)]
        by_cases hjm : j = m
        · rw [hjm]; exact hlo i h1 hi2
        · exact Int.le_trans (hlo i h1 hi2) (h.hi j (by omega) h3)
  · rw [Nat.add_sub_cancel, em _ (Nat.le_refl _), em _ (by omega)]
    exact h.hi k (by omega) h2
theorem Parted.right_done {a b m : Nat} {xs ys : List Int} (h : Parted a b m xs) (hs : Sws (m + 1) b xs ys) (hso : SrtOn (m + 1) b ys) (hp : Pred_ a b xs) (ham : a ≤ m) (hmb : m < b) : (∀ i j, a ≤ i → i < j → j < b → m ≤ j → at_ ys i ≤ at_ ys j) ∧ Pred_ a m ys := by
  have em : ∀ k, k ≤ m → at_ ys k = at_ xs k := fun k hk => hs.out (.inl (by omega))
  have hhi : ∀ k, m + 1 ≤ k → k < b → at_ xs m ≤ at_ ys k := hs.all (p := fun v => at_ xs m ≤ v) (fun k h1 h2 => h.hi k (by omega) h2)
  refine ⟨fun i j h1 h2 h3 h4 => ?_, ?_⟩
  · by_cases hj : j = m
    · subst hj
      rw [em _ (Nat.le_refl _), em _ (Nat.le_of_lt h2)]
      exact h.lo i h1 h2
    · by_cases hi : m < i
      · exact hso i j (by omega) h2 h3
      · rw [em i (by omega)]
        by_cases him : i = m
        · rw [him]; exact hhi j (by omega) h3
        · exact Int.le_trans (h.lo i h1 (by omega)) (hhi j (by omega) h3)
  · rcases hp with h0 | h0
    · exact .inl h0
    · by_cases ha : a = 0
      · exact .inl ha
      · exact .inr fun k h1 h2 => by rw [em _ (by omega), em _ (by omega)]; exact h0 k h1 (by omega)
/-- What the sort of a range owes. -/
def SortsTo (base g n c a b : Nat) (xs : List Int) (w : World) (e : Ending) (w' : World) : Prop :=
  e = .returned (.tuple #[]) ∧ ∃ ys, DS base g n c w' ys ∧ Sws a b xs ys ∧ SrtOn a b ys ∧ Mod (fun x => x = g) w w'
set_option maxRecDepth 100000 in
set_option maxHeartbeats 8000000 in
theorem spdq_step (base g n c A B K : Nat) (xs : List Int) (w : World) (h : DS base g n c w xs) (hAB : A ≤ B) (hBn : B ≤ n) (hn : n ≤ 1099511627776) (hK : K ≤ 1000) (hpr : Pred_ A B xs)
    (ih : ∀ a b k ys W, b - a < B - A → a ≤ b → b ≤ n → k ≤ 1000 → Pred_ a b ys → DS base g n c W ys → Calls Tryz.prog 81 #[.slice (some ⟨g, 0, none⟩) n c, .int .i64 (a : Nat), .int .i64 (b : Nat), .int .i64 (k : Nat)] W (SortsTo base g n c a b ys W)) :
    Calls Tryz.prog 81 #[.slice (some ⟨g, 0, none⟩) n c, .int .i64 A, .int .i64 B, .int .i64 K] w (SortsTo base g n c A B xs w) := by
  have HD0 := Lib.hid h
  have HPr0 := Lib.hid hpr
  have IH := Lib.hid ih
  clear h hpr ih
  go_enter Tryz.func81, Tryz.ntmps81
  go_wp2
  go_loopw [1, 2, 3, 8, 9] (fun va vb vk v8 v9 wr => ∃ (a b k : Nat) (f1 f2 : Bool) (ys : List Int), va = .int .i64 a ∧ vb = .int .i64 b ∧ vk = .int .i64 k ∧ v8 = .bool f1 ∧ v9 = .bool f2 ∧ A ≤ a ∧ a ≤ b ∧ b ≤ B ∧ k ≤ 1000 ∧ DS base g n c wr ys ∧ Sws A B xs ys ∧ PInv A B a b ys ∧ Pred_ a b ys ∧ Mod (fun x => x = g) w wr) (fun va vb _ _ _ _ => (intOf vb - intOf va).toNat)
  case atStart => exact ⟨A, B, K, true, true, xs, rfl, rfl, rfl, rfl, rfl, Nat.le_refl _, hAB, Nat.le_refl _, hK, HD0.out, .refl, .start _ _ _, HPr0.out, Mod.refl _ _⟩
  case round =>
    obtain ⟨a, b, k, f1, f2, ys, rfl, rfl, rfl, rfl, rfl, hAa, hab, hbB, hk, hd, hs, hpi, hpr, hm⟩ := hrel
    clear HD0 HPr0
    have HD := Lib.hid hd
    have HS := Lib.hid hs
    have HI := Lib.hid hpi
    have HPr := Lib.hid hpr
    have HM := Lib.hid hm
    clear hd hs hpi hpr hm
    have hbn : b ≤ n := by omega
    obtain ⟨l, hll⟩ : ∃ l, b = a + l := ⟨b - a, by omega⟩
    have wl : IntKind.i64.wrap ((b : Int) - (a : Int)) = (l : Int) := by rw [show (b : Int) - (a : Int) = (l : Int) by omega]; exact IntWalk.i64_in _ (by omega)
    have HLl := Lib.hid hll
    by_cases h12 : l ≤ 12
    · have hc := sins_any base g n c a b ys wr HD.out hab hbn hn
      have HC := Lib.hid hc
      clear hc hll
      go_wp2_with (first
        | (go_at_call 100
           (with_reducible refine HC.out.mono ?_)
           rintro e w2 ⟨rfl, zs, hd2, hs2, hso2, hm2⟩
           have HD2 := Lib.hid hd2
           have HS2 := Lib.hid hs2
           have HSo2 := Lib.hid hso2
           have HM2 := Lib.hid hm2
           clear hd2 hs2 hso2 hm2)
        | fail)
      exact bodyPost_ret (v := .tuple #[]) (by simp [results, Tryz.results81, go_sem]) rfl ⟨rfl, zs, HD2.out, HS.out.trans (HS2.out.mono hAa hbB), (HI.out.sws HS2.out hAa hbB).done HSo2.out, HM.out.trans' HM2.out⟩
    · by_cases hk0 : k = 0
      · subst hk0
        have hc := sheap_any base g n c a b ys wr HD.out (by omega) hbn hn
        have HC := Lib.hid hc
        clear hc hll
        go_wp2_with (first
          | (go_at_call 101
             (with_reducible refine HC.out.mono ?_)
             rintro e w2 ⟨rfl, zs, hd2, hs2, hso2, hm2⟩
             have HD2 := Lib.hid hd2
             have HS2 := Lib.hid hs2
             have HSo2 := Lib.hid hso2
             have HM2 := Lib.hid hm2
             clear hd2 hs2 hso2 hm2)
          | fail)
        exact bodyPost_ret (v := .tuple #[]) (by simp [results, Tryz.results81, go_sem]) rfl ⟨rfl, zs, HD2.out, HS.out.trans (HS2.out.mono hAa hbB), (HI.out.sws HS2.out hAa hbB).done HSo2.out, HM.out.trans' HM2.out⟩
      · have hkb : ((k : Int) == 0) = false := by simp; omega
        have hl12 : a + 12 < b := by omega
        clear hll
        have hab2 : a < b := by omega
        obtain ⟨k1, hk1⟩ : ∃ k1, k = k1 + 1 := ⟨k - 1, by omega⟩
        have wk : IntKind.i64.wrap ((k : Int) - 1) = (k1 : Int) := by rw [show (k : Int) - 1 = (k1 : Int) by omega]; exact IntWalk.i64_in _ (by omega)
        have hk1b : k1 ≤ 1000 := by omega
        clear hk1
        go_upto_if 35 with (fail)
        go_cut [3] from 19 to 133 (fun v wx => ∃ (k : Nat) (zs : List Int), v = .int .i64 k ∧ k ≤ 1000 ∧ DS base g n c wx zs ∧ Sws a b ys zs ∧ Mod (fun x => x = g) w wx)
        case first =>
          cases f1
          · have hc := sbreak_any base g n c a b ys wr HD.out hl12 hbn hn
            have HC := Lib.hid hc
            clear hc
            go_wp2_with (first
              | (go_at_call 102
                 (with_reducible refine HC.out.mono ?_)
                 rintro e w2 ⟨rfl, zs, hd2, hs2, hm2⟩
                 have HD2 := Lib.hid hd2
                 have HS2 := Lib.hid hs2
                 have HM2 := Lib.hid hm2
                 clear hd2 hs2 hm2)
              | fail)
            go_meet
            exact ⟨k1, zs, rfl, hk1b, HD2.out, HS2.out, HM.out.trans' HM2.out⟩
          · go_wp2
            go_meet
            exact ⟨k, ys, rfl, hk, HD.out, .refl, HM.out⟩
        case rest =>
          obtain ⟨k, ys, rfl, hk, hd, hs, hm⟩ := hcut
          clear hk1b wk hkb hk0
          have hS' := HS.out.trans (hs.mono hAa hbB)
          have hI' := HI.out.sws hs hAa hbB
          have hP' := HPr.out.sws hs
          clear HD HS HI HPr HM
          have HD := Lib.hid hd
          have HS := Lib.hid hS'
          have HI := Lib.hid hI'
          have HPr := Lib.hid hP'
          have HM := Lib.hid hm
          clear hd hs hm hS' hI' hP'
          have hc := schoose_any base g n c a b ys wc HD.out hl12 hbn hn
          have HC := Lib.hid hc
          clear hc
          go_upto_if 50 with (first
            | (go_at_call 103
               (with_reducible refine HC.out.mono ?_)
               rintro e w2 ⟨p, q, rfl, hap, hpb, hm2⟩
               have HD2 := Lib.hid (HD.out.mod hm2 id)
               have HM2 := Lib.hid (HM.out.trans hm2 (fun _ h => h.elim))
               clear hm2)
            | fail)
          clear HD HM HC
          have HD := HD2
          have HM := HM2
          clear HD2 HM2
          go_cut [11, 12] from 19 to 133 (fun v u wx => ∃ (p : Nat) (q : Int) (zs : List Int), v = .int .i64 p ∧ u = .int .i64 q ∧ a < p ∧ p + 1 < b ∧ DS base g n c wx zs ∧ Sws a b ys zs ∧ Mod (fun x => x = g) w wx)
          case first =>
            by_cases hq2 : q = 2
            · have hqe : (q == 2) = true := by simp [hq2]
              have hc := srev_any base g n c a b ys w2 HD.out hab2 hbn hn
              have HC := Lib.hid hc
              obtain ⟨p1, hp1⟩ : ∃ p1, p1 + (p - a) = b - 1 := ⟨b - 1 - (p - a), by omega⟩
              obtain ⟨b1, hb1⟩ : ∃ b1, b = b1 + 1 := ⟨b - 1, by omega⟩
              obtain ⟨pa, hpa⟩ : ∃ pa, p = a + pa := ⟨p - a, by omega⟩
              have w1 : IntKind.i64.wrap ((b : Int) - 1) = (b1 : Int) := by rw [show (b : Int) - 1 = (b1 : Int) by omega]; exact IntWalk.i64_in _ (by omega)
              have w3 : IntKind.i64.wrap ((p : Int) - (a : Int)) = (pa : Int) := by rw [show (p : Int) - (a : Int) = (pa : Int) by omega]; exact IntWalk.i64_in _ (by omega)
              have w4 : IntKind.i64.wrap ((b1 : Int) - (pa : Int)) = (p1 : Int) := by rw [show (b1 : Int) - (pa : Int) = (p1 : Int) by omega]; exact IntWalk.i64_in _ (by omega)
              have hap1 : a < p1 := by omega
              have hpb1 : p1 + 1 < b := by omega
              clear hc hp1 hb1 hpa hq2
              go_wp2_with (first
                | (go_at_call 104
                   (with_reducible refine HC.out.mono ?_)
                   rintro e w3 ⟨rfl, zs, hd2, hs2, hm2⟩
                   have HD2 := Lib.hid hd2
                   have HS2 := Lib.hid hs2
                   have HM2 := Lib.hid hm2
                   clear hd2 hs2 hm2)
                | fail)
              go_meet
              exact ⟨p1, 1, zs, rfl, rfl, hap1, hpb1, HD2.out, HS2.out, HM.out.trans' HM2.out⟩
            · have hqe : (q == 2) = false := by simp [hq2]
              clear hq2
              go_wp2
              go_meet
              exact ⟨p, q, ys, rfl, rfl, hap, hpb, HD.out, .refl, HM.out⟩
          case rest =>
            obtain ⟨p, q, ys, rfl, rfl, hap, hpb, hd, hs, hm⟩ := hcut
            have hS' := HS.out.trans (hs.mono hAa hbB)
            have hI' := HI.out.sws hs hAa hbB
            have hP' := HPr.out.sws hs
            clear HD HS HI HPr HM
            have HD := Lib.hid hd
            have HS := Lib.hid hS'
            have HI := Lib.hid hI'
            have HPr := Lib.hid hP'
            have HM := Lib.hid hm
            clear hd hs hm hS' hI' hP'
            go_upto_region 15 with (fail)
            go_cut [68] from 19 to 133 (fun v wx => (∃ f, v = .bool f) ∧ DS base g n c wx ys ∧ Mod (fun x => x = g) w wx)
            case first =>
              obtain ⟨q1, hq1⟩ : ∃ q1, (q == 1) = q1 := ⟨_, rfl⟩
              cases f1 <;> cases f2 <;> cases q1
              all_goals
                go_wp2
                go_meet
                exact ⟨⟨_, rfl⟩, HD.out, HM.out⟩
            case rest =>
              obtain ⟨⟨f, rfl⟩, hd, hm⟩ := hcut
              clear HD HM
              have HD := Lib.hid hd
              have HM := Lib.hid hm
              clear hd hm
              have hc := spartial_any base g n c a b ys wc HD.out hab2 hbn hn HPr.out
              have HC := Lib.hid hc
              clear hc
              go_upto_if 68 with (fail)
              go_cut [] from 19 to 133 (fun wx => ∃ zs : List Int, DS base g n c wx zs ∧ Sws a b ys zs ∧ Mod (fun x => x = g) w wx)
              case first =>
                cases f
                · go_wp2
                  go_meet
                  exact ⟨ys, HD.out, .refl, HM.out⟩
                · go_wp2_with (first
                    | (go_at_call 105
                       (with_reducible refine HC.out.mono ?_)
                       rintro e w3 ⟨fr, zs, rfl, hd2, hs2, hso2, hm2⟩
                       have HD2 := Lib.hid hd2
                       have HS2 := Lib.hid hs2
                       have HSo2 := Lib.hid hso2
                       have HM2 := Lib.hid hm2
                       clear hd2 hs2 hso2 hm2
                       cases fr)
                    | fail)
                  · go_meet
                    exact ⟨zs, HD2.out, HS2.out, HM.out.trans' HM2.out⟩
                  · exact bodyPost_ret (v := .tuple #[]) (by simp [results, Tryz.results81, go_sem]) rfl ⟨rfl, zs, HD2.out, HS.out.trans (HS2.out.mono hAa hbB), (HI.out.sws HS2.out hAa hbB).done (HSo2.out (by first | rfl | trivial)), HM.out.trans' HM2.out⟩
              case rest =>
                obtain ⟨ys, hd, hs, hm⟩ := hcut
                have hS' := HS.out.trans (hs.mono hAa hbB)
                have hI' := HI.out.sws hs hAa hbB
                have hP' := HPr.out.sws hs
                clear HD HS HI HPr HM
                have HD := Lib.hid hd
                have HS := Lib.hid hS'
                have HI := Lib.hid hI'
                have HPr := Lib.hid hP'
                have HM := Lib.hid hm
                clear hd hs hm hS' hI' hP'
                clear HC
                have hpn : p < n := by omega
                go_upto_region 17 with (fail)
                go_cut [87] from 19 to 133 (fun v wx => ∃ f, v = .bool f ∧ (f = true → 0 < a ∧ at_ ys p ≤ at_ ys (a - 1)) ∧ DS base g n c wx ys ∧ Mod (fun x => x = g) w wx)
                case first =>
                  by_cases ha0 : 0 < a
                  · obtain ⟨a1, ha1⟩ : ∃ a1, a = a1 + 1 := ⟨a - 1, by omega⟩
                    have han1 : a1 < n := by omega
                    have wa : IntKind.i64.wrap ((a : Int) - 1) = (a1 : Int) := by rw [show (a : Int) - 1 = (a1 : Int) by omega]; exact IntWalk.i64_in _ (by omega)
                    have hg1 : decide ((0 : Int) < (a : Int)) = true := by simp; omega
                    have hg2 : decide (0 < a) = true := by simpa using ha0
                    have HA1 := Lib.hid (show a - 1 = a1 by omega)
                    have HA0 := Lib.hid ha0
                    clear ha1 ha0
                    have c1 := cell_regrown (HD.out.cell (k := a1) han1)
                    have c2 := cell_regrown (HD.out.cell (k := p) hpn)
                    have HLs := Lib.hid (fun X => sless_any (at_ ys a1) (at_ ys p) X)
                    obtain ⟨r, hr⟩ : ∃ r, decide (at_ ys a1 < at_ ys p) = r := ⟨_, rfl⟩
                    rw [hr] at HLs
                    have HR := Lib.hid hr
                    clear hr
                    go_wp2
                    refine wp_region_quiet_below (by kernel_rfl) (by kernel_rfl) ?_
                    repeat (go_big_quiet_step ((first | (go_at_call 106; exact regE fun X _ => HLs.out X) | fail)))
                    refine wpQuiet_nil ?_
                    intro W1 hW1
                    have HQ := mod_of_regrown hW1
                    clear hW1
                    have hdq := HD.out.mod HQ id
                    have hmq := HM.out.trans HQ (fun _ h => h.elim)
                    clear HD HM c1 c2 HQ HLs
                    have HD := Lib.hid hdq
                    have HM := Lib.hid hmq
                    clear hdq hmq
                    cases r
                    · go_wp2
                      go_meet
                      exact ⟨true, rfl, fun _ => ⟨HA0.out, by rw [HA1.out]; have := of_decide_eq_false HR.out; omega⟩, HD.out, HM.out⟩
                    · go_wp2
                      go_meet
                      exact ⟨false, rfl, fun h => (by cases h), HD.out, HM.out⟩
                  · have hg1 : decide ((0 : Int) < (a : Int)) = false := by simp; omega
                    have hg2 : decide (0 < a) = false := by simpa using ha0
                    have HA0 := Lib.hid ha0
                    clear ha0
                    go_wp2
                    refine wp_region_quiet_below (by kernel_rfl) (by kernel_rfl) ?_
                    repeat (go_big_quiet_step ((first | fail | fail)))
                    refine wpQuiet_nil ?_
                    intro W1 hW1
                    have HQ := mod_of_regrown hW1
                    clear hW1
                    have hdq := HD.out.mod HQ id
                    have hmq := HM.out.trans HQ (fun _ h => h.elim)
                    clear HD HM HQ
                    have HD := Lib.hid hdq
                    have HM := Lib.hid hmq
                    clear hdq hmq
                    go_wp2
                    go_meet
                    exact ⟨false, rfl, fun h => (by cases h), HD.out, HM.out⟩
                case rest =>
                  obtain ⟨f, rfl, hf, hd, hm⟩ := hcut
                  clear HD HM
                  have HD := Lib.hid hd
                  have HM := Lib.hid hm
                  have HF := Lib.hid hf
                  clear hd hm hf
                  have hpb2 : p < b := by omega
                  cases f
                  · have hc := spart_any base g n c a b p ys wc HD.out hap hpb2 hbn hn
                    have HC := Lib.hid hc
                    clear hc
                    go_upto_region 21 with (first
                      | (go_at_call 108
                         (with_reducible refine HC.out.mono ?_)
                         rintro e w3 ⟨m, fl, zs, rfl, ham, hmb, hd2, hs2, hpt, hm2⟩
                         have HD2 := Lib.hid hd2
                         have HS2 := Lib.hid hs2
                         have HPt := Lib.hid hpt
                         have HM2 := Lib.hid hm2
                         clear hd2 hs2 hm2 hpt)
                      | fail)
                    obtain ⟨ys, hys⟩ : ∃ ys', ys' = zs := ⟨_, rfl⟩
                    rw [← hys] at HD2 HS2 HPt
                    have hd := HD2.out
                    have hs := HS2.out
                    have hm := HM.out.trans' HM2.out
                    clear hys HD2 HS2 HM2
                    have hS' := HS.out.trans (hs.mono hAa hbB)
                    have hI' := HI.out.sws hs hAa hbB
                    have hP' := HPr.out.sws hs
                    clear HD HS HI HPr HM
                    have HD := Lib.hid hd
                    have HS := Lib.hid hS'
                    have HI := Lib.hid hI'
                    have HPr := Lib.hid hP'
                    have HM := Lib.hid hm
                    clear hd hs hm hS' hI' hP'
                    obtain ⟨ml, hml⟩ : ∃ ml, m = a + ml := ⟨m - a, by omega⟩
                    obtain ⟨mr, hmr⟩ : ∃ mr, b = m + mr := ⟨b - m, by omega⟩
                    obtain ⟨m1, hm1⟩ : ∃ m1, m1 = m + 1 := ⟨_, rfl⟩
                    have w1 : IntKind.i64.wrap ((m : Int) - (a : Int)) = (ml : Int) := by rw [show (m : Int) - (a : Int) = (ml : Int) by omega]; exact IntWalk.i64_in _ (by omega)
                    have w2 : IntKind.i64.wrap ((b : Int) - (m : Int)) = (mr : Int) := by rw [show (b : Int) - (m : Int) = (mr : Int) by omega]; exact IntWalk.i64_in _ (by omega)
                    have w4 : IntKind.i64.wrap ((m : Int) + 1) = (m1 : Int) := by rw [show (m : Int) + 1 = (m1 : Int) by omega]; exact IntWalk.i64_in _ (by omega)
                    have HE := Lib.hid (And.intro hml (And.intro hmr hm1))
                    have hcl := IH.out a m k ys w3 (by omega) ham (by omega) hk (HPr.out.sub (by omega)) HD.out
                    have hcr := IH.out m1 b k ys w3 (by omega) (by omega) hbn hk (by rw [hm1]; exact HPt.out.pred) HD.out
                    have HCl := Lib.hid hcl
                    have HCr := Lib.hid hcr
                    clear hcl hcr hml hmr hm1 HC
                    by_cases hlr : ml < mr
                    · go_wp2_with (first
                        | (go_at_call 81
                           (with_reducible refine HCl.out.mono ?_)
                           rintro e w4 ⟨rfl, zs, hd2, hs2, hso2, hm2⟩
                           have HD2 := Lib.hid hd2
                           have HS2 := Lib.hid hs2
                           have HSo2 := Lib.hid hso2
                           have HM2 := Lib.hid hm2
                           clear hd2 hs2 hso2 hm2)
                        | fail)
                      have hld := HPt.out.left_done HS2.out HSo2.out
                      have hsm := HS2.out.mono (Nat.le_refl a) (Nat.le_of_lt hmb)
                      have hE := HE.out.2.2
                      exact ⟨⟨m1, b, k, _, _, zs, rfl, rfl, rfl, rfl, rfl, by omega, by omega, hbB, hk, HD2.out, HS.out.trans (hsm.mono hAa hbB), (HI.out.sws hsm hAa hbB).right (by omega) (by rw [hE]; exact hld.1), by rw [hE]; exact hld.2, HM.out.trans' HM2.out⟩, by simp only [intOf]; omega⟩
                    · go_wp2_with (first
                        | (go_at_call 81
                           (with_reducible refine HCr.out.mono ?_)
                           rintro e w4 ⟨rfl, zs, hd2, hs2, hso2, hm2⟩
                           have HD2 := Lib.hid hd2
                           have HS2 := Lib.hid hs2
                           have HSo2 := Lib.hid hso2
                           have HM2 := Lib.hid hm2
                           clear hd2 hs2 hso2 hm2)
                        | fail)
                      have hE := HE.out.2.2
                      have hs2 := HS2.out
                      have hso2 := HSo2.out
                      rw [hE] at hs2 hso2
                      have hld := HPt.out.right_done hs2 hso2 HPr.out ham hmb
                      have hsm := hs2.mono (show a ≤ m + 1 by omega) (Nat.le_refl b)
                      exact ⟨⟨a, m, k, _, _, zs, rfl, rfl, rfl, rfl, rfl, hAa, ham, by omega, hk, HD2.out, HS.out.trans (hsm.mono hAa hbB), (HI.out.sws hsm hAa hbB).left (by omega) hld.1, hld.2, HM.out.trans' HM2.out⟩, by simp only [intOf]; omega⟩
                  · have hc := sparteq_any base g n c a b p ys wc HD.out hap hpb2 hbn hn (fun j h1 h2 => by
                      have h3 := HF.out rfl
                      rcases HPr.out with h0 | h0
                      · omega
                      · exact Int.le_trans h3.2 (h0 j h1 h2))
                    have HC := Lib.hid hc
                    clear hc
                    go_wp2_with (first
                      | (go_at_call 107
                         (with_reducible refine HC.out.mono ?_)
                         rintro e w3 ⟨m, zs, rfl, ham, hmb, hd2, hs2, hq1, hq2, hm2⟩
                         have HD2 := Lib.hid hd2
                         have HS2 := Lib.hid hs2
                         have HQ1 := Lib.hid hq1
                         have HQ2 := Lib.hid hq2
                         have HM2 := Lib.hid hm2
                         clear hd2 hs2 hm2 hq1 hq2)
                      | fail)
                    exact ⟨⟨m, b, k, _, _, zs, rfl, rfl, rfl, rfl, rfl, by omega, hmb, hbB, hk, HD2.out, HS.out.trans (HS2.out.mono hAa hbB), (HI.out.sws HS2.out hAa hbB).right (by omega) HQ1.out, .inr HQ2.out, HM.out.trans' HM2.out⟩, by simp only [intOf]; omega⟩
theorem spdq_any (base g n c : Nat) (hn : n ≤ 1099511627776) : ∀ (s a b k : Nat) (ys : List Int) (W : World), b - a ≤ s → a ≤ b → b ≤ n → k ≤ 1000 → Pred_ a b ys → DS base g n c W ys →
    Calls Tryz.prog 81 #[.slice (some ⟨g, 0, none⟩) n c, .int .i64 (a : Nat), .int .i64 (b : Nat), .int .i64 (k : Nat)] W (SortsTo base g n c a b ys W) := by
  intro s
  induction s with
  | zero =>
    intro a b k ys W hs hab hbn hk hp hd
    exact spdq_step base g n c a b k ys W hd hab hbn hn hk hp (fun a' b' k' ys' W' h => by omega)
  | succ s ih =>
    intro a b k ys W hs hab hbn hk hp hd
    exact spdq_step base g n c a b k ys W hd hab hbn hn hk hp (fun a' b' k' ys' W' h h1 h2 h3 h4 h5 => ih a' b' k' ys' W' (by omega) h1 h2 h3 h4 h5)
theorem srt_pairwise {xs : List Int} (h : SrtOn 0 xs.length xs) : xs.Pairwise (· ≤ ·) := by
  rw [List.pairwise_iff_getElem]
  intro i j hi hj hij
  have := h i j (Nat.zero_le _) hij hj
  rwa [at_lt hi, at_lt hj] at this
set_option maxRecDepth 100000 in
set_option maxHeartbeats 1000000 in
theorem sins_nil (w : World) : Calls Tryz.prog 100 #[.slice none 0 0, .int .i64 0, .int .i64 0] w fun e w' => e = .returned (.tuple #[]) ∧ w' = w := by
  go_enter Tryz.func100, Tryz.ntmps100
  go_wp2
  go_loopw [6] (fun i wr => i = .int .i64 1 ∧ wr = w) (fun _ _ => 0)
  case atStart => exact ⟨rfl, rfl⟩
  case round =>
    obtain ⟨rfl, rfl⟩ := hrel
    go_wp2
    exact bodyPost_end (v := .tuple #[]) (by simp [results, Tryz.results100, go_sem]) rfl ⟨rfl, rfl⟩
set_option maxRecDepth 100000 in
set_option maxHeartbeats 4000000 in
theorem spdq_nil (w : World) (k : Int) : Calls Tryz.prog 81 #[.slice none 0 0, .int .i64 0, .int .i64 0, .int .i64 k] w fun e w' => e = .returned (.tuple #[]) ∧ w' = w := by
  have HI := Lib.hid (sins_nil w)
  go_enter Tryz.func81, Tryz.ntmps81
  go_wp2
  go_loopw [1, 2, 3, 8, 9] (fun va vb vk v8 v9 wr => va = .int .i64 0 ∧ vb = .int .i64 0 ∧ vk = .int .i64 k ∧ v8 = .bool true ∧ v9 = .bool true ∧ wr = w) (fun _ _ _ _ _ _ => 0)
  case atStart => exact ⟨rfl, rfl, rfl, rfl, rfl, rfl⟩
  case round =>
    obtain ⟨rfl, rfl, rfl, rfl, rfl, rfl⟩ := hrel
    go_wp2_with (first | (go_at_call 100; (with_reducible refine HI.out.mono ?_); rintro e w2 ⟨rfl, rfl⟩) | fail)
    exact bodyPost_ret (v := .tuple #[]) (by simp [results, Tryz.results81, go_sem]) rfl ⟨rfl, rfl⟩
theorem blen_any (n : Nat) (hn : n ≤ 1099511627776) : ∃ k : Nat, k ≤ 64 ∧ ∀ X, Calls Tryz.prog 82 #[.int .u64 n] X fun e w' => e = .returned (.int .i64 (k : Int)) ∧ w' = X :=
  ⟨Lib.bitLen n, Lib.bitLen_le n 64 (Nat.le_refl _) (by omega), fun X => Any.bits_Len Tryz.lays125 (n : Int) X (by omega) (by omega)⟩
set_option maxRecDepth 100000 in
set_option maxHeartbeats 1000000 in
/-- slices.Sort at an owned slice. -/
theorem ssort_any (base : Nat) (v : Value) (xs : List Int) (w : World) (h : OwnS base 30 1 csK w v xs) (hl : xs.length ≤ 1099511627776) (hc : ∀ A n c, v = .slice A n c → n = 0 → v = .slice none 0 0) :
    Calls Tryz.prog 57 #[v] w fun e w' => e = .returned (.tuple #[]) ∧ ∃ ys, OwnS base 30 1 csK w' v ys ∧ ys.Perm xs ∧ ys.Pairwise (· ≤ ·) ∧ Mod (fun b => v.ownBlock = some b) w w' := by
  rcases Nat.eq_zero_or_pos xs.length with h0 | h0
  · have hx : xs = [] := List.eq_nil_of_length_eq_zero h0
    subst hx
    have hv : v = .slice none 0 0 := by
      rcases h.2 with ⟨rfl, _⟩ | ⟨g, cap, cur, rfl, _⟩
      · rfl
      · exact hc _ _ _ rfl rfl
    subst hv
    obtain ⟨k, -, hk⟩ := blen_any 0 (by omega)
    have HK := Lib.hid (hk w)
    have HP := Lib.hid (spdq_nil w k)
    have HO := Lib.hid h
    have hz : IntKind.u64.wrap 0 = 0 := by decide
    rw [show ((0 : Nat) : Int) = 0 from rfl] at HK
    clear h hk hc h0 hl
    go_enter Tryz.func57, Tryz.ntmps57
    go_wp2_with (first
      | (go_at_call 82; (with_reducible refine HK.out.mono ?_); rintro e w2 ⟨rfl, rfl⟩)
      | (go_at_call 81; (with_reducible refine HP.out.mono ?_); rintro e w2 ⟨rfl, rfl⟩)
      | fail)
    exact bodyPost_end (v := .tuple #[]) (by simp [results, Tryz.results57, go_sem]) rfl ⟨rfl, [], HO.out, .refl _, .nil, Mod.refl _ _⟩
  · obtain ⟨g, c, rfl, -⟩ := h.at_ h0
    obtain ⟨n, hn⟩ : ∃ n, n = xs.length := ⟨_, rfl⟩
    rw [← hn] at h hl hc h0
    have hd : DS base g n c w xs := ⟨h, hn⟩
    obtain ⟨k, hk64, hk⟩ := blen_any n hl
    have HK := Lib.hid (hk w)
    have hp := spdq_any base g n c hl n 0 n k xs w (by omega) (Nat.zero_le _) (Nat.le_refl _) (by omega) (.inl rfl) hd
    rw [show ((0 : Nat) : Int) = 0 from rfl] at hp
    have HP := Lib.hid hp
    have HN := Lib.hid hn
    have hz : IntKind.u64.wrap (n : Int) = n := by rw [IntKind.wrap_u64]; omega
    rw [← hn]
    clear h hk hc h0 hp hn hd hk64
    go_enter Tryz.func57, Tryz.ntmps57
    go_wp2_with (first
      | (go_at_call 82; (with_reducible refine HK.out.mono ?_); rintro e w2 ⟨rfl, rfl⟩)
      | (go_at_call 81; (with_reducible refine HP.out.mono ?_); rintro e w2 ⟨rfl, ys, hd2, hs2, hso2, hm2⟩)
      | fail)
    refine bodyPost_end (v := .tuple #[]) (by simp [results, Tryz.results57, go_sem]) rfl ⟨rfl, ys, hd2.own, hs2.perm, srt_pairwise (by rw [← hd2.len]; exact hso2), hm2.mono fun b _ hb => by simp [Value.ownBlock, hb]⟩
end Go.Proofs.YtmalclclopnlnaaGreat
