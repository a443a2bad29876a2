/-
  Texts of this claim, one behind the other: SortB.
-/
import Derived.Test.YtmalclclopnlnaaGreatPk23
import Derived.BigRegion
/-
  The library's sort of numbers: heaps.
-/
namespace Go.Proofs.YtmalclclopnlnaaGreat
open Go.RowKit Go.Shelf
attribute [local go_sem] Oper.semAt_some

/-- A greater child: who it is. -/
theorem heap_child {f h r k : Nat} {xs : List Int} (hk : k = 2 * r + 1 ∨ k = 2 * r + 2) (hb : ∀ c, (c = 2 * r + 1 ∨ c = 2 * r + 2) → c < h → at_ xs (f + c) ≤ at_ xs (f + k)) (hs : at_ xs (f + k) ≤ at_ xs (f + r)) :
    ∀ c, (c = 2 * r + 1 ∨ c = 2 * r + 2) → c < h → at_ xs (f + c) ≤ at_ xs (f + r) := fun c hc hh => Int.le_trans (hb c hc hh) hs
set_option maxRecDepth 100000 in
set_option maxHeartbeats 4000000 in
theorem ssift_any (base g n c lo hi f : Nat) (xs : List Int) (w : World) (h : DS base g n c w xs) (hlo : lo ≤ hi) (hf : f + hi ≤ n) (hn : n ≤ 1099511627776) (hh : HpBut f lo hi lo xs) :
    Calls Tryz.prog 119 #[.slice (some ⟨g, 0, none⟩) n c, .int .i64 lo, .int .i64 hi, .int .i64 f] w fun e w' => e = .returned (.tuple #[]) ∧ ∃ ys, DS base g n c w' ys ∧ Sws f (f + hi) xs ys ∧ Hp f lo hi ys ∧ Mod (fun x => x = g) w w' := by
  have H := Lib.hid h
  have HH := Lib.hid hh
  clear h hh
  go_enter Tryz.func119, Tryz.ntmps119
  go_wp2
  go_loopw [8] (fun i wr => ∃ (r : Nat) (ys : List Int), r ≤ n ∧ (r < hi ∨ r = lo) ∧ i = .int .i64 r ∧ DS base g n c wr ys ∧ Sws f (f + hi) xs ys ∧ HpBut f lo hi r ys ∧ Mod (fun x => x = g) w wr) (fun i _ => n - (intOf i).toNat)
  case atStart => exact ⟨lo, xs, by omega, .inr rfl, rfl, H.out, .refl, HH.out, Mod.refl _ _⟩
  case round =>
    obtain ⟨r, ys, hrn, hrh, rfl, hd, hs, hb, hm⟩ := hrel
    have HD := Lib.hid hd
    have HS := Lib.hid hs
    have HB := Lib.hid hb
    have HM := Lib.hid hm
    clear hd hs hb hm
    have hw1 : IntKind.i64.wrap (2 * (r : Int)) = 2 * (r : Int) := IntWalk.i64_in _ (by omega)
    obtain ⟨k, hk⟩ : ∃ k, k = 2 * r + 1 := ⟨_, rfl⟩
    have hw2 : IntKind.i64.wrap (2 * (r : Int) + 1) = (k : Int) := by rw [show 2 * (r : Int) + 1 = (k : Int) by omega]; exact IntWalk.i64_in _ (by omega)
    have hkI : 2 * (r : Int) + 1 = (k : Int) := by omega
    have HK := Lib.hid hk
    have HKI := Lib.hid hkI
    clear hk hkI
    by_cases hkh : k < hi
    · go_wp2
      have hkn : k < n := by omega
      obtain ⟨fk, hfk⟩ : ∃ fk, fk = f + k := ⟨_, rfl⟩
      obtain ⟨fr, hfr⟩ : ∃ fr, fr = f + r := ⟨_, rfl⟩
      have hfkn : fk < n := by omega
      have hrk : r < k := by have := HK.out; omega
      have hfrn : fr < n := by omega
      have ws1 : IntKind.i64.wrap ((k : Int) + 1) = (k : Int) + 1 := IntWalk.i64_in _ (by omega)
      have ws2 : IntKind.i64.wrap ((f : Int) + (k : Int)) = (fk : Int) := by rw [show (f : Int) + (k : Int) = (fk : Int) by omega]; exact IntWalk.i64_in _ (by omega)
      have ws3 : IntKind.i64.wrap ((fk : Int) + 1) = ((fk + 1 : Nat) : Int) := by rw [show (fk : Int) + 1 = ((fk + 1 : Nat) : Int) by omega]; exact IntWalk.i64_in _ (by omega)
      have HFk := Lib.hid hfk
      have HFr := Lib.hid hfr
      clear hfk hfr
      have key : ∃ j : Nat, (j = k ∨ j = k + 1) ∧ j < hi ∧ (∀ c, (c = 2 * r + 1 ∨ c = 2 * r + 2) → c < hi → at_ ys (f + c) ≤ at_ ys (f + j)) ∧ (j = k + 1 ↔ k + 1 < hi ∧ at_ ys (f + k) < at_ ys (f + k + 1)) := by
        have := HK.out
        by_cases hc : k + 1 < hi ∧ at_ ys (f + k) < at_ ys (f + k + 1)
        · refine ⟨k + 1, .inr rfl, hc.1, fun c h1 h2 => ?_, by simp [hc.2, hc.1]⟩
          rcases h1 with rfl | rfl
          · rw [← this]; exact Int.le_of_lt hc.2
          · rw [show 2 * r + 2 = k + 1 by omega]; exact Int.le_refl _
        · refine ⟨k, .inl rfl, hkh, fun c h1 h2 => ?_, by simp; omega⟩
          rcases h1 with rfl | rfl
          · rw [← this]; exact Int.le_refl _
          · rw [show 2 * r + 2 = k + 1 by omega] at h2 ⊢
            have h3 := fun h => hc ⟨h2, h⟩
            rw [show f + (k + 1) = f + k + 1 by omega]
            omega
      obtain ⟨j, hj1, hjh, hjb, hjk⟩ := key
      have HJ := Lib.hid (And.intro hj1 hjb)
      have HJk := Lib.hid hjk
      clear hjb hjk
      have hd0 := HD.out
      have c1 := cell_regrown (hd0.cell (k := fk) hfkn)
      obtain ⟨x, hx⟩ : ∃ x, x = at_ ys fk := ⟨_, rfl⟩
      rw [← hx] at c1
      have HX := Lib.hid hx
      clear hx
      by_cases hk1 : k + 1 < hi
      · have c2 := cell_regrown (hd0.cell (k := fk + 1) (by have := HFk.out; omega))
        obtain ⟨y, hy⟩ : ∃ y, y = at_ ys (fk + 1) := ⟨_, rfl⟩
        rw [← hy] at c2
        have HY := Lib.hid hy
        clear hy hd0
        have HLs := Lib.hid (fun X => sless_any x y X)
        obtain ⟨q, hq⟩ : ∃ q, decide (x < y) = q := ⟨_, rfl⟩
        rw [hq] at HLs
        have HQ1 := Lib.hid hq
        clear hq
        have hg : decide ((k : Int) + 1 < (hi : Int)) = true := by simp; omega
        have hfk1 : fk + 1 < n := by have := HFk.out; omega
        refine wp_region_quiet_below (by kernel_rfl) (by kernel_rfl) ?_
        repeat (go_big_quiet_step ((first | (go_at_call 106; exact regE fun X _ => HLs.out X) | fail)))
        refine wpQuiet_nil ?_
        intro W1 hW1
        have HQ := mod_of_regrown hW1
        clear hW1
        have HDw := Lib.hid (HD.out.mod HQ id)
        have HMw := Lib.hid (HM.out.trans HQ (fun _ h => h.elim))
        clear c1 c2 HQ
        cases q
        · obtain rfl : j = k := by
            rcases HJ.out.1 with h | h
            · exact h
            · exact absurd (HJk.out.1 h).2 (by
                have := of_decide_eq_false HQ1.out
                rw [HX.out, HY.out, HFk.out] at this
                omega)
          go_wp2
          clear ws2 ws3
          obtain ⟨fj, hfj⟩ : ∃ fj, fj = f + j := ⟨_, rfl⟩
          have hrj : r < j := by
            have := HJ.out.1
            omega
          have hfjn : fj < n := by omega
          have hne1 : ¬ fr = fj := by have := HFr.out; omega
          have hne2 : ¬ fj = fr := by have := HFr.out; omega
          have v1 : IntKind.i64.wrap ((f : Int) + (j : Int)) = (fj : Int) := by rw [show (f : Int) + (j : Int) = (fj : Int) by omega]; exact IntWalk.i64_in _ (by omega)
          have v2 : IntKind.i64.wrap ((f : Int) + (r : Int)) = (fr : Int) := by rw [show (f : Int) + (r : Int) = (fr : Int) by have := HFr.out; omega]; exact IntWalk.i64_in _ (by omega)
          have HFj := Lib.hid hfj
          clear hfj
          have e1 := cell_regrown (HDw.out.cell (k := fr) hfrn)
          have e2 := cell_regrown (HDw.out.cell (k := fj) hfjn)
          obtain ⟨a, ha⟩ : ∃ a, a = at_ ys fr := ⟨_, rfl⟩
          obtain ⟨b, hb⟩ : ∃ b, b = at_ ys fj := ⟨_, rfl⟩
          rw [← ha] at e1
          rw [← hb] at e2
          have HAB := Lib.hid (And.intro ha hb)
          clear ha hb
          have HLr := Lib.hid (fun X => sless_any a b X)
          obtain ⟨z, hz⟩ : ∃ z, decide (a < b) = z := ⟨_, rfl⟩
          rw [hz] at HLr
          have HZ := Lib.hid hz
          clear hz
          refine wp_region_quiet_below (by kernel_rfl) (by kernel_rfl) ?_
          repeat (go_big_quiet_step ((first | (go_at_call 106; exact regE fun X _ => HLr.out X) | fail)))
          refine wpQuiet_nil ?_
          intro W1 hW1
          have HQ := mod_of_regrown hW1
          clear hW1
          have hd2 := HDw.out.mod HQ id
          have HD2 := Lib.hid hd2
          have HM2 := Lib.hid (HMw.out.trans HQ (fun _ h => h.elim))
          clear e1 e2 HQ
          have e1 := hd2.cell (k := fr) hfrn
          have e2 := hd2.cell (k := fj) hfjn
          rw [← HAB.out.1] at e1
          rw [← HAB.out.2] at e2
          have fz := (hd2.blk (by omega)).2.2
          have f1 := fz fr
          have f2 := fz fj
          clear hd2 fz
          cases z
          · go_wp2
            refine bodyPost_ret (v := .tuple #[]) (by simp [results, Tryz.results119, go_sem]) rfl ⟨rfl, ys, HD2.out, HS.out, HB.out.done (heap_child (k := j) (by have := HJ.out.1; have := HK.out; omega) HJ.out.2 ?_), HM2.out⟩
            have := of_decide_eq_false HZ.out
            rw [HAB.out.1, HAB.out.2, HFr.out, HFj.out] at this
            omega
          · go_wp2
            go_region
            go_wp2
            have hlt : at_ ys fr < at_ ys fj := by rw [← HAB.out.1, ← HAB.out.2]; exact of_decide_eq_true HZ.out
            have e1 := HFr.out
            have e2 := HFj.out
            have hst := HB.out.step (k := j) (by have := HJ.out.1; have := HK.out; omega) hjh (by rw [← HD2.out.len]; exact hf) HJ.out.2 (by rw [← e1, ← e2]; exact hlt)
            rw [← e1, ← e2] at hst
            exact ⟨⟨j, swp ys fr fj, by omega, .inl hjh, rfl, HD2.out.exchd hfrn hfjn HAB.out.1 HAB.out.2, HS.out.exch HD2.out.len (by omega) (by omega) (by omega) (by omega) hf, hst, (HM2.out.trans' (mod_swp _ _ _ _ _ _)).drew⟩, by simp only [intOf]; omega⟩
        · obtain hjk : j = k + 1 := HJk.out.2 ⟨hk1, by
            have := of_decide_eq_true HQ1.out
            rw [HX.out, HY.out, HFk.out] at this
            exact this⟩
          have ws1j : IntKind.i64.wrap ((k : Int) + 1) = (j : Int) := by rw [ws1]; omega
          have HJJ := Lib.hid hjk
          clear ws1 hjk
          go_wp2
          clear ws2 ws3
          obtain ⟨fj, hfj⟩ : ∃ fj, fj = f + j := ⟨_, rfl⟩
          have hrj : r < j := by
            have := HJ.out.1
            omega
          have hfjn : fj < n := by omega
          have hne1 : ¬ fr = fj := by have := HFr.out; omega
          have hne2 : ¬ fj = fr := by have := HFr.out; omega
          have v1 : IntKind.i64.wrap ((f : Int) + (j : Int)) = (fj : Int) := by rw [show (f : Int) + (j : Int) = (fj : Int) by omega]; exact IntWalk.i64_in _ (by omega)
          have v2 : IntKind.i64.wrap ((f : Int) + (r : Int)) = (fr : Int) := by rw [show (f : Int) + (r : Int) = (fr : Int) by have := HFr.out; omega]; exact IntWalk.i64_in _ (by omega)
          have HFj := Lib.hid hfj
          clear hfj
          have e1 := cell_regrown (HDw.out.cell (k := fr) hfrn)
          have e2 := cell_regrown (HDw.out.cell (k := fj) hfjn)
          obtain ⟨a, ha⟩ : ∃ a, a = at_ ys fr := ⟨_, rfl⟩
          obtain ⟨b, hb⟩ : ∃ b, b = at_ ys fj := ⟨_, rfl⟩
          rw [← ha] at e1
          rw [← hb] at e2
          have HAB := Lib.hid (And.intro ha hb)
          clear ha hb
          have HLr := Lib.hid (fun X => sless_any a b X)
          obtain ⟨z, hz⟩ : ∃ z, decide (a < b) = z := ⟨_, rfl⟩
          rw [hz] at HLr
          have HZ := Lib.hid hz
          clear hz
          refine wp_region_quiet_below (by kernel_rfl) (by kernel_rfl) ?_
          repeat (go_big_quiet_step ((first | (go_at_call 106; exact regE fun X _ => HLr.out X) | fail)))
          refine wpQuiet_nil ?_
          intro W1 hW1
          have HQ := mod_of_regrown hW1
          clear hW1
          have hd2 := HDw.out.mod HQ id
          have HD2 := Lib.hid hd2
          have HM2 := Lib.hid (HMw.out.trans HQ (fun _ h => h.elim))
          clear e1 e2 HQ
          have e1 := hd2.cell (k := fr) hfrn
          have e2 := hd2.cell (k := fj) hfjn
          rw [← HAB.out.1] at e1
          rw [← HAB.out.2] at e2
          have fz := (hd2.blk (by omega)).2.2
          have f1 := fz fr
          have f2 := fz fj
          clear hd2 fz
          cases z
          · go_wp2
            refine bodyPost_ret (v := .tuple #[]) (by simp [results, Tryz.results119, go_sem]) rfl ⟨rfl, ys, HD2.out, HS.out, HB.out.done (heap_child (k := j) (by have := HJ.out.1; have := HK.out; omega) HJ.out.2 ?_), HM2.out⟩
            have := of_decide_eq_false HZ.out
            rw [HAB.out.1, HAB.out.2, HFr.out, HFj.out] at this
            omega
          · go_wp2
            go_region
            go_wp2
            have hlt : at_ ys fr < at_ ys fj := by rw [← HAB.out.1, ← HAB.out.2]; exact of_decide_eq_true HZ.out
            have e1 := HFr.out
            have e2 := HFj.out
            have hst := HB.out.step (k := j) (by have := HJ.out.1; have := HK.out; omega) hjh (by rw [← HD2.out.len]; exact hf) HJ.out.2 (by rw [← e1, ← e2]; exact hlt)
            rw [← e1, ← e2] at hst
            exact ⟨⟨j, swp ys fr fj, by omega, .inl hjh, rfl, HD2.out.exchd hfrn hfjn HAB.out.1 HAB.out.2, HS.out.exch HD2.out.len (by omega) (by omega) (by omega) (by omega) hf, hst, (HM2.out.trans' (mod_swp _ _ _ _ _ _)).drew⟩, by simp only [intOf]; omega⟩
      · clear hd0
        have hg : decide ((k : Int) + 1 < (hi : Int)) = false := by simp; omega
        refine wp_region_quiet_below (by kernel_rfl) (by kernel_rfl) ?_
        repeat (go_big_quiet_step ((first | fail | fail)))
        refine wpQuiet_nil ?_
        intro W1 hW1
        have HQ := mod_of_regrown hW1
        clear hW1
        have HDw := Lib.hid (HD.out.mod HQ id)
        have HMw := Lib.hid (HM.out.trans HQ (fun _ h => h.elim))
        clear c1 HQ
        obtain rfl : j = k := by
          rcases HJ.out.1 with h | h
          · exact h
          · omega
        go_wp2
        clear ws2 ws3
        obtain ⟨fj, hfj⟩ : ∃ fj, fj = f + j := ⟨_, rfl⟩
        have hrj : r < j := by
          have := HJ.out.1
          omega
        have hfjn : fj < n := by omega
        have hne1 : ¬ fr = fj := by have := HFr.out; omega
        have hne2 : ¬ fj = fr := by have := HFr.out; omega
        have v1 : IntKind.i64.wrap ((f : Int) + (j : Int)) = (fj : Int) := by rw [show (f : Int) + (j : Int) = (fj : Int) by omega]; exact IntWalk.i64_in _ (by omega)
        have v2 : IntKind.i64.wrap ((f : Int) + (r : Int)) = (fr : Int) := by rw [show (f : Int) + (r : Int) = (fr : Int) by have := HFr.out; omega]; exact IntWalk.i64_in _ (by omega)
        have HFj := Lib.hid hfj
        clear hfj
        have e1 := cell_regrown (HDw.out.cell (k := fr) hfrn)
        have e2 := cell_regrown (HDw.out.cell (k := fj) hfjn)
        obtain ⟨a, ha⟩ : ∃ a, a = at_ ys fr := ⟨_, rfl⟩
        obtain ⟨b, hb⟩ : ∃ b, b = at_ ys fj := ⟨_, rfl⟩
        rw [← ha] at e1
        rw [← hb] at e2
        have HAB := Lib.hid (And.intro ha hb)
        clear ha hb
        have HLr := Lib.hid (fun X => sless_any a b X)
        obtain ⟨z, hz⟩ : ∃ z, decide (a < b) = z := ⟨_, rfl⟩
        rw [hz] at HLr
        have HZ := Lib.hid hz
        clear hz
        refine wp_region_quiet_below (by kernel_rfl) (by kernel_rfl) ?_
        repeat (go_big_quiet_step ((first | (go_at_call 106; exact regE fun X _ => HLr.out X) | fail)))
        refine wpQuiet_nil ?_
        intro W1 hW1
        have HQ := mod_of_regrown hW1
        clear hW1
        have hd2 := HDw.out.mod HQ id
        have HD2 := Lib.hid hd2
        have HM2 := Lib.hid (HMw.out.trans HQ (fun _ h => h.elim))
        clear e1 e2 HQ
        have e1 := hd2.cell (k := fr) hfrn
        have e2 := hd2.cell (k := fj) hfjn
        rw [← HAB.out.1] at e1
        rw [← HAB.out.2] at e2
        have fz := (hd2.blk (by omega)).2.2
        have f1 := fz fr
        have f2 := fz fj
        clear hd2 fz
        cases z
        · go_wp2
          refine bodyPost_ret (v := .tuple #[]) (by simp [results, Tryz.results119, go_sem]) rfl ⟨rfl, ys, HD2.out, HS.out, HB.out.done (heap_child (k := j) (by have := HJ.out.1; have := HK.out; omega) HJ.out.2 ?_), HM2.out⟩
          have := of_decide_eq_false HZ.out
          rw [HAB.out.1, HAB.out.2, HFr.out, HFj.out] at this
          omega
        · go_wp2
          go_region
          go_wp2
          have hlt : at_ ys fr < at_ ys fj := by rw [← HAB.out.1, ← HAB.out.2]; exact of_decide_eq_true HZ.out
          have e1 := HFr.out
          have e2 := HFj.out
          have hst := HB.out.step (k := j) (by have := HJ.out.1; have := HK.out; omega) hjh (by rw [← HD2.out.len]; exact hf) HJ.out.2 (by rw [← e1, ← e2]; exact hlt)
          rw [← e1, ← e2] at hst
          exact ⟨⟨j, swp ys fr fj, by omega, .inl hjh, rfl, HD2.out.exchd hfrn hfjn HAB.out.1 HAB.out.2, HS.out.exch HD2.out.len (by omega) (by omega) (by omega) (by omega) hf, hst, (HM2.out.trans' (mod_swp _ _ _ _ _ _)).drew⟩, by simp only [intOf]; omega⟩
    · go_wp2
      refine bodyPost_end (v := .tuple #[]) (by simp [results, Tryz.results119, go_sem]) rfl ⟨rfl, ys, HD.out, HS.out, HB.out.done fun c hc hch => ?_, HM.out⟩
      have := HK.out
      omega
/-- The sort by heaps, under way: s stand in the heap yet. -/
structure HsAt (a b s : Nat) (xs : List Int) : Prop where
  heap : Hp a 0 s xs
  done : ∀ p q, a ≤ p → p < q → q < b → a + s ≤ q → at_ xs p ≤ at_ xs q
theorem HsAt.start {a b s : Nat} {xs : List Int} (h : Hp a 0 s xs) (hs : b = a + s) : HsAt a b s xs := ⟨h, fun p q h1 h2 h3 h4 => by omega⟩
theorem HsAt.swap {a b s : Nat} {xs : List Int} (h : HsAt a b (s + 1) xs) (hb : a + s < b) (hl : b ≤ xs.length) :
    HpBut a 0 s 0 (swp xs a (a + s)) ∧ ∀ p q, a ≤ p → p < q → q < b → a + s ≤ q → at_ (swp xs a (a + s)) p ≤ at_ (swp xs a (a + s)) q := by
  have e := at_swp (xs := xs) (i := a) (j := a + s) (by omega) (by omega)
  have ht := h.heap.top
  refine ⟨⟨fun i h1 h2 c hc hch => ?_, fun h1 => by omega, Nat.le_refl _⟩, fun p q h1 h2 h3 h4 => ?_⟩
  · rw [e, e, if_neg (by omega), if_neg (by omega), if_neg (by omega), if_neg (by omega)]
    exact h.heap i h1 c hc (by omega)
  · rw [e, e]
    by_cases hq : q = a + s
    · rw [if_pos hq, if_neg (by omega)]
      by_cases hp : p = a
      · rw [if_pos hp]; exact ht s (by omega)
      · rw [if_neg hp]
        have := ht (p - a) (by omega)
        rwa [show a + (p - a) = p by omega] at this
    · rw [if_neg hq, if_neg (show ¬ q = a by omega)]
      by_cases hp : p = a + s
      · rw [if_pos hp]; exact h.done a q (Nat.le_refl _) (by omega) h3 (by omega)
      · rw [if_neg hp]
        by_cases hpa : p = a
        · rw [if_pos hpa]; exact h.done (a + s) q (by omega) (by omega) h3 (by omega)
        · rw [if_neg hpa]; exact h.done p q h1 h2 h3 (by omega)
theorem HsAt.after {a b s : Nat} {xs ys : List Int} (hd : ∀ p q, a ≤ p → p < q → q < b → a + s ≤ q → at_ xs p ≤ at_ xs q) (hs : Sws a (a + s) xs ys) (hh : Hp a 0 s ys) : HsAt a b s ys := by
  refine ⟨hh, fun p q h1 h2 h3 h4 => ?_⟩
  rw [hs.out (k := q) (.inr h4)]
  by_cases hp : p < a + s
  · exact hs.all (p := fun v => v ≤ at_ xs q) (fun k k1 k2 => hd k q k1 (by omega) h3 h4) p h1 hp
  · rw [hs.out (k := p) (.inr (by omega))]; exact hd p q h1 h2 h3 h4
theorem HsAt.sorted {a b : Nat} {xs : List Int} (h : HsAt a b 0 xs) : SrtOn a b xs := fun i j h1 h2 h3 => h.done i j h1 h2 h3 (by omega)
set_option maxRecDepth 100000 in
set_option maxHeartbeats 4000000 in
theorem sheap_any (base g n c a b : Nat) (xs : List Int) (w : World) (h : DS base g n c w xs) (hab : a < b) (hbn : b ≤ n) (hn : n ≤ 1099511627776) :
    Calls Tryz.prog 101 #[.slice (some ⟨g, 0, none⟩) n c, .int .i64 a, .int .i64 b] w fun e w' => e = .returned (.tuple #[]) ∧ ∃ ys, DS base g n c w' ys ∧ Sws a b xs ys ∧ SrtOn a b ys ∧ Mod (fun x => x = g) w w' := by
  obtain ⟨m, hm⟩ : ∃ m, m = b - a := ⟨_, rfl⟩
  have hwm : IntKind.i64.wrap ((b : Int) - (a : Int)) = (m : Int) := by rw [show (b : Int) - (a : Int) = (m : Int) by omega]; exact IntWalk.i64_in _ (by omega)
  have hb : b = a + m := by omega
  have HBm := Lib.hid hb
  have H := Lib.hid h
  obtain ⟨i0, hi0⟩ : ∃ i0, i0 = (m - 1) / 2 := ⟨_, rfl⟩
  have hw1 : IntKind.i64.wrap ((m : Int) - 1) = (m : Int) - 1 := IntWalk.i64_in _ (by omega)
  have hq : ((m : Int) - 1).tdiv 2 = (i0 : Int) := by
    rw [Int.tdiv_eq_ediv_of_nonneg (by omega)]
    omega
  have hw2 : IntKind.i64.wrap (i0 : Int) = (i0 : Int) := IntWalk.i64_in _ (by omega)
  have HI0 := Lib.hid hi0
  have hm0 : 0 < m := by omega
  have hmn : a + m ≤ n := by omega
  clear h hm hb hi0
  go_enter Tryz.func101, Tryz.ntmps101
  go_wp2
  go_loopw [9] (fun i wr => ∃ (t : Nat) (ys : List Int), t ≤ i0 + 1 ∧ i = .int .i64 ((t : Int) - 1) ∧ DS base g n c wr ys ∧ Sws a (a + m) xs ys ∧ Hp a t m ys ∧ Mod (fun x => x = g) w wr) (fun i _ => (intOf i + 1).toNat)
  case atStart => exact ⟨i0 + 1, xs, Nat.le_refl _, by go_num, H.out, .refl, fun i h1 c hc hch => by have := HI0.out; omega, Mod.refl _ _⟩
  case round =>
    obtain ⟨t, ys, hti, rfl, hd, hs, hh, hm⟩ := hrel
    have HD := Lib.hid hd
    have HS := Lib.hid hs
    have HH := Lib.hid hh
    have HM := Lib.hid hm
    clear hd hs hh hm
    cases t with
    | succ t =>
      rw [show (((t + 1 : Nat) : Int) - 1) = (t : Int) from by omega]
      have htm : t ≤ m := by have := HI0.out; omega
      have hc := ssift_any base g n c t m a ys wr HD.out htm hmn hn (HpBut.start HH.out)
      have HC := Lib.hid hc
      have ht1 : IntKind.i64.wrap ((t : Int) - 1) = (t : Int) - 1 := IntWalk.i64_in _ (by omega)
      clear hc
      go_wp2_with (first
        | (go_at_call 119
           (with_reducible refine (HC.out).mono ?_)
           rintro e w2 ⟨rfl, zs, hd2, hs2, hh2, hm2⟩
           have HD2 := Lib.hid hd2
           have HS2 := Lib.hid hs2
           have HH2 := Lib.hid hh2
           have HM2 := Lib.hid hm2
           clear hd2 hs2 hh2 hm2)
        | fail)
      exact ⟨⟨t, zs, by omega, rfl, HD2.out, HS.out.trans HS2.out, HH2.out, HM.out.trans' HM2.out⟩, by simp only [intOf]; omega⟩
    | zero =>
      rw [show (((0 : Nat) : Int) - 1) = -1 from rfl]
      go_wp2
      go_loopw [10] (fun i wr => ∃ (s : Nat) (ys : List Int), s ≤ m ∧ i = .int .i64 ((s : Int) - 1) ∧ DS base g n c wr ys ∧ Sws a (a + m) xs ys ∧ HsAt a b s ys ∧ Mod (fun x => x = g) w wr) (fun i _ => (intOf i + 1).toNat)
      case atStart => exact ⟨m, ys, Nat.le_refl _, rfl, HD.out, HS.out, .start HH.out HBm.out, HM.out⟩
      case round =>
        obtain ⟨s, ys, hsm, rfl, hd, hs, hh, hm⟩ := hrel
        have HD := Lib.hid hd
        have HS := Lib.hid hs
        have HH := Lib.hid hh
        have HM := Lib.hid hm
        clear hd hs hh hm
        cases s with
        | succ s =>
          rw [show (((s + 1 : Nat) : Int) - 1) = (s : Int) from by omega]
          obtain ⟨z, hz⟩ : ∃ z, z = a + s := ⟨_, rfl⟩
          have hzn : z < n := by omega
          have han : a < n := by omega
          have hw3 : IntKind.i64.wrap ((a : Int) + (s : Int)) = (z : Int) := by rw [show (a : Int) + (s : Int) = (z : Int) by omega]; exact IntWalk.i64_in _ (by omega)
          have hw4 : IntKind.i64.wrap ((s : Int) - 1) = (s : Int) - 1 := IntWalk.i64_in _ (by omega)
          have HZ := Lib.hid hz
          clear hz
          have hd0 := HD.out
          have e1 := hd0.cell (k := a) han
          have e2 := hd0.cell (k := z) hzn
          have fz := (hd0.blk (by omega)).2.2
          have f1 := fz a
          have f2 := fz z
          obtain ⟨x, hx⟩ : ∃ x, x = at_ ys a := ⟨_, rfl⟩
          obtain ⟨y, hy⟩ : ∃ y, y = at_ ys z := ⟨_, rfl⟩
          rw [← hx] at e1
          rw [← hy] at e2
          have HXY := Lib.hid (And.intro hx hy)
          clear hx hy hd0 fz
          obtain ⟨W1, hW1⟩ : ∃ W1, W1 = ((wr.setCell ⟨g, a, none⟩ (.int .u64 y)).setCell ⟨g, z, none⟩ (.int .u64 x)).drew := ⟨_, rfl⟩
          have hd1 := HD.out.exchd han hzn HXY.out.1 HXY.out.2
          have hsw := HsAt.swap HH.out (by have := HBm.out; omega) (by rw [← HD.out.len]; exact hbn)
          rw [← HZ.out] at hsw
          have hm1 := (mod_swp wr g a z (.int .u64 y) (.int .u64 x)).drew
          rw [← hW1] at hd1 hm1
          have hc := ssift_any base g n c 0 s a _ W1 hd1 (Nat.zero_le _) (by omega) hn hsw.1
          rw [show ((0 : Nat) : Int) = 0 from rfl] at hc
          have HC := Lib.hid hc
          have HSw := Lib.hid (show ∀ p q, a ≤ p → p < q → q < b → a + s ≤ q → at_ (swp ys a z) p ≤ at_ (swp ys a z) q from fun p q h1 h2 h3 h4 => hsw.2 p q h1 h2 h3 (by have := HZ.out; omega))
          have HM1 := Lib.hid hm1
          have HW := Lib.hid hW1
          clear hc hsw hm1 hd1 hW1
          have HFin := Lib.hid (show ∀ zs, Sws a (a + s) (swp ys a z) zs → Sws a (a + m) xs zs from fun zs h => (HS.out.exch HD.out.len (by omega) (by omega) (by have := HZ.out; omega) (by have := HZ.out; omega) hmn).trans (h.mono (Nat.le_refl _) (by omega)))
          by_cases hs0 : s = 0
          · have hza : z = a := by have := HZ.out; omega
            have hyx : y = x := by rw [HXY.out.1, HXY.out.2, hza]
            subst hyx
            subst hza
            clear hs0
            go_wp2
            go_region
            rw [← HW.out]
            go_wp2_with (first
              | (go_at_call 119
                 (with_reducible refine (HC.out).mono ?_)
                 rintro e w2 ⟨rfl, zs, hd2, hs2, hh2, hm2⟩
                 have HD2 := Lib.hid hd2
                 have HS2 := Lib.hid hs2
                 have HH2 := Lib.hid hh2
                 have HM2 := Lib.hid hm2
                 clear hd2 hs2 hh2 hm2)
              | fail)
            exact ⟨⟨s, zs, by omega, rfl, HD2.out, HFin.out _ HS2.out, HsAt.after HSw.out HS2.out HH2.out, (HM.out.trans' HM1.out).trans' HM2.out⟩, by simp only [intOf]; omega⟩
          · have hne1 : ¬ a = z := by have := HZ.out; omega
            have hne2 : ¬ z = a := by have := HZ.out; omega
            go_wp2
            go_region
            rw [← HW.out]
            go_wp2_with (first
              | (go_at_call 119
                 (with_reducible refine (HC.out).mono ?_)
                 rintro e w2 ⟨rfl, zs, hd2, hs2, hh2, hm2⟩
                 have HD2 := Lib.hid hd2
                 have HS2 := Lib.hid hs2
                 have HH2 := Lib.hid hh2
                 have HM2 := Lib.hid hm2
                 clear hd2 hs2 hh2 hm2)
              | fail)
            exact ⟨⟨s, zs, by omega, rfl, HD2.out, HFin.out _ HS2.out, HsAt.after HSw.out HS2.out HH2.out, (HM.out.trans' HM1.out).trans' HM2.out⟩, by simp only [intOf]; omega⟩
        | zero =>
          rw [show (((0 : Nat) : Int) - 1) = -1 from rfl]
          have HBs := Lib.hid (show Sws a b xs ys by rw [HBm.out]; exact HS.out)
          go_wp2
          exact bodyPost_end (v := .tuple #[]) (by simp [results, Tryz.results101, go_sem]) rfl ⟨rfl, ys, HD.out, HBs.out, HH.out.sorted, HM.out⟩
end Go.Proofs.YtmalclclopnlnaaGreat
