/-
  Texts of this claim, one behind the other: SortD, SortE.
-/
import Derived.Test.YtmalclclopnlnaaGreatPk25
import Derived.Test.YtmalclclopnlnaaGreatSnShelf
import Derived.Sort.LotD5
import Derived.Laws.Bits64b
/-
  The library's sort of numbers: a range turned about, pivots.
-/
namespace Go.Proofs.YtmalclclopnlnaaGreat
open Go.RowKit Go.Shelf
attribute [local go_sem] Oper.semAt_some

set_option maxRecDepth 100000 in
set_option maxHeartbeats 4000000 in
theorem srev_any (base g n c a b : Nat) (xs : List Int) (w : World) (h : DS base g n c w xs) (hab : a < b) (hbn : b ≤ n) (hn : n ≤ 1099511627776) :
    Calls Tryz.prog 104 #[.slice (some ⟨g, 0, none⟩) n c, .int .i64 a, .int .i64 b] w fun e w' => e = .returned (.tuple #[]) ∧ ∃ ys, DS base g n c w' ys ∧ Sws a b xs ys ∧ Mod (fun x => x = g) w w' := by
  obtain ⟨d, hd⟩ : ∃ d, b = d + 1 := ⟨b - 1, by omega⟩
  have hwd : IntKind.i64.wrap ((b : Int) - 1) = (d : Int) := by rw [show (b : Int) - 1 = (d : Int) by omega]; exact IntWalk.i64_in _ (by omega)
  have HBd := Lib.hid hd
  have had : a ≤ d := by omega
  have hdb : d < b := by omega
  have HD0 := Lib.hid h
  clear h hd
  go_enter Tryz.func104, Tryz.ntmps104
  go_wp2
  go_loopw [6, 7] (fun v u wr => ∃ (i j : Nat) (ys : List Int), v = .int .i64 i ∧ u = .int .i64 j ∧ a ≤ i ∧ i ≤ j + 1 ∧ j < b ∧ DS base g n c wr ys ∧ Sws a b xs ys ∧ Mod (fun x => x = g) w wr) (fun v u _ => (intOf u + 1 - intOf v).toNat)
  case atStart => exact ⟨a, d, xs, rfl, rfl, Nat.le_refl _, by omega, hdb, HD0.out, .refl, Mod.refl _ _⟩
  case round =>
    obtain ⟨i, j, ys, rfl, rfl, hai, hij, hjb, hd, hs, hm⟩ := hrel
    have HD := Lib.hid hd
    have HS := Lib.hid hs
    have HM := Lib.hid hm
    clear hd hs hm HD0
    by_cases hlt : i < j
    · obtain ⟨j1, hj1⟩ : ∃ j1, j = j1 + 1 := ⟨j - 1, by omega⟩
      have hin : i < n := by omega
      have hjn : j < n := by omega
      have hne1 : ¬ i = j := by omega
      have hne2 : ¬ j = i := by omega
      have wi : IntKind.i64.wrap ((i : Int) + 1) = ((i + 1 : Nat) : Int) := by rw [show (i : Int) + 1 = ((i + 1 : Nat) : Int) by omega]; exact IntWalk.i64_in _ (by omega)
      have wj : IntKind.i64.wrap ((j : Int) - 1) = (j1 : Int) := by rw [show (j : Int) - 1 = (j1 : Int) by omega]; exact IntWalk.i64_in _ (by omega)
      have HSs := Lib.hid (HS.out.exch (i := i) (j := j) HD.out.len (by omega) (by omega) (by omega) (by omega) hbn)
      have HJ1 := Lib.hid hj1
      clear hj1
      have e1 := HD.out.cell (k := i) hin
      have e2 := HD.out.cell (k := j) hjn
      have f1 := (HD.out.blk (by omega)).2.2 i
      have f2 := (HD.out.blk (by omega)).2.2 j
      have hdq := HD.out.exchd hin hjn rfl rfl
      have hmq := (HM.out.trans' (mod_swp wr g i j (.int .u64 (at_ ys j)) (.int .u64 (at_ ys i)))).drew
      obtain ⟨W1, hW1⟩ : ∃ W1, W1 = ((wr.setCell ⟨g, i, none⟩ (.int .u64 (at_ ys j))).setCell ⟨g, j, none⟩ (.int .u64 (at_ ys i))).drew := ⟨_, rfl⟩
      rw [← hW1] at hdq hmq
      have HW := Lib.hid hW1
      clear HD HM hW1
      have HD := Lib.hid hdq
      have HM := Lib.hid hmq
      clear hdq hmq
      go_wp2
      go_region
      rw [← HW.out]
      clear e1 e2 f1 f2 HW
      go_wp2
      have hj1 := HJ1.out
      exact ⟨⟨i + 1, j1, _, by go_num, rfl, by omega, by omega, by omega, HD.out, HSs.out, HM.out⟩, by simp only [intOf]; omega⟩
    · go_wp2
      exact bodyPost_end (v := .tuple #[]) (by simp [results, Tryz.results104, go_sem]) rfl ⟨rfl, ys, HD.out, HS.out, HM.out⟩

/-! ### Pivots -/
/-- The box that counts exchanges. -/
def Box (w : World) (s k : Nat) : Prop := w.heap[s]? = some (.cells #[.int .i64 (k : Int)] 3 (0, 0))
set_option maxRecDepth 100000 in
set_option maxHeartbeats 4000000 in
theorem sorder_any (base g n c a b s k : Nat) (ys : List Int) (w : World) (h : DS base g n c w ys) (ha : a < n) (hb : b < n) (hk : k ≤ 1000) (hs : Box w s k) (hsg : s ≠ g) :
    Calls Tryz.prog 131 #[.slice (some ⟨g, 0, none⟩) n c, .int .i64 a, .int .i64 b, .pointer (some ⟨s, 0, none⟩)] w fun e w' => ∃ x y k' : Nat, e = .returned (.tuple #[.int .i64 x, .int .i64 y]) ∧ (x = a ∧ y = b ∨ x = b ∧ y = a) ∧ k' ≤ k + 1 ∧ Box w' s k' ∧ Mod (fun x => x = s) w w' := by
  have HD := Lib.hid h
  have HM := Lib.hid (Mod.refl (fun x => x = g) w)
  have HB := Lib.hid hs
  have hwk : IntKind.i64.wrap ((k : Int) + 1) = ((k + 1 : Nat) : Int) := by rw [show (k : Int) + 1 = ((k + 1 : Nat) : Int) by omega]; exact IntWalk.i64_in _ (by omega)
  have HM0 := Lib.hid (Mod.refl (fun _ => False) w)
  clear h hs
  go_enter Tryz.func131, Tryz.ntmps131
  go_wp2
  have c1 := cell_regrown (HD.out.cell (k := b) hb)
  have c2 := cell_regrown (HD.out.cell (k := a) ha)
  have HLs := Lib.hid (fun X => sless_any (at_ ys b) (at_ ys a) X)
  obtain ⟨r, hr⟩ : ∃ r, decide (at_ ys b < at_ ys a) = r := ⟨_, rfl⟩
  rw [hr] at HLs
  clear hr
  refine wp_region_quiet_below (by kernel_rfl) (by kernel_rfl) ?_
  repeat (go_big_quiet_step ((first | (go_at_call 106; exact regE fun X _ => HLs.out X) | fail)))
  refine wpQuiet_nil ?_
  intro W1 hW1
  have HQ := mod_of_regrown hW1
  clear hW1
  have hb1 := hp_mod HB.out HQ id
  have hc := hp_cell hb1 0
  have hf := hp_free hb1 0
  have HMq := Lib.hid HQ
  have HBq := Lib.hid hb1
  simp only [List.getElem?_toArray, List.getElem?_cons_zero] at hc
  clear c1 c2 HQ HLs hb1
  cases r
  · go_wp2
    go_ret2
    exact ⟨a, b, k, rfl, .inl ⟨rfl, rfl⟩, by omega, HBq.out, HMq.out.mono fun _ _ h => h.elim⟩
  · go_wp2
    go_ret2
    refine ⟨b, a, k + 1, rfl, .inr ⟨rfl, rfl⟩, by omega, ?_, (HMq.out.mono (C' := fun x => x = s) fun _ _ h => h.elim).setCell (p := ⟨s, 0, none⟩) (.inl rfl) _⟩
    have := hp_set HBq.out 0 (.int .i64 ((k + 1 : Nat) : Int))
    unfold Box
    simpa using this
theorem DS.box {base g n c s : Nat} {w w' : World} {ys : List Int} (h : DS base g n c w ys) (hm : Mod (fun x => x = s) w w') (hsg : s ≠ g) : DS base g n c w' ys := h.mod hm (fun e => hsg e.symm)
set_option maxRecDepth 100000 in
set_option maxHeartbeats 4000000 in
theorem smedian_any (base g n c a b d s k : Nat) (ys : List Int) (w : World) (h : DS base g n c w ys) (ha : a < n) (hb : b < n) (hd : d < n) (hk : k ≤ 900) (hs : Box w s k) (hsg : s ≠ g) :
    Calls Tryz.prog 123 #[.slice (some ⟨g, 0, none⟩) n c, .int .i64 a, .int .i64 b, .int .i64 d, .pointer (some ⟨s, 0, none⟩)] w fun e w' => ∃ x k' : Nat, e = .returned (.int .i64 x) ∧ (x = a ∨ x = b ∨ x = d) ∧ k' ≤ k + 3 ∧ Box w' s k' ∧ Mod (fun x => x = s) w w' := by
  have H0 := Lib.hid (fun (X : World) a b k (hX : DS base g n c X ys) (ha : a < n) (hb : b < n) (hk : k ≤ 1000) (hs : Box X s k) => sorder_any base g n c a b s k ys X hX ha hb hk hs hsg)
  have h1 := H0.out w a b k h ha hb (by omega) hs
  have H1 := Lib.hid h1
  have HD := Lib.hid h
  have HG := Lib.hid hsg
  clear h1 h hs hsg
  go_enter Tryz.func123, Tryz.ntmps123
  go_wp2_with (first
    | (go_at_call 131
       (with_reducible refine H1.out.mono ?_)
       rintro e w1 ⟨x1, y1, k1, rfl, hxy1, hk1, hs1, hm1⟩
       have hx1 : x1 < n := by rcases hxy1 with ⟨rfl, rfl⟩ | ⟨rfl, rfl⟩ <;> assumption
       have hy1 : y1 < n := by rcases hxy1 with ⟨rfl, rfl⟩ | ⟨rfl, rfl⟩ <;> assumption
       have HX1 := Lib.hid hxy1
       have HM1 := Lib.hid hm1
       have hd1 := HD.out.box hm1 HG.out
       have h2 := H0.out w1 y1 d k1 hd1 hy1 hd (by omega) hs1
       have H2 := Lib.hid h2
       have HD1 := Lib.hid hd1
       clear hxy1 hm1 hd1 h2 hs1)
    | (go_at_call 131
       (with_reducible refine H2.out.mono ?_)
       rintro e w2 ⟨x2, y2, k2, rfl, hxy2, hk2, hs2, hm2⟩
       have hx2 : x2 < n := by rcases hxy2 with ⟨rfl, rfl⟩ | ⟨rfl, rfl⟩ <;> assumption
       have HX2 := Lib.hid hxy2
       have HM2 := Lib.hid hm2
       have hd2 := HD1.out.box hm2 HG.out
       have h3 := H0.out w2 x1 x2 k2 hd2 hx1 hx2 (by omega) hs2
       have H3 := Lib.hid h3
       clear hxy2 hm2 hd2 h3 hs2)
    | (go_at_call 131
       (with_reducible refine H3.out.mono ?_)
       rintro e w3 ⟨x3, y3, k3, rfl, hxy3, hk3, hs3, hm3⟩
       have HX3 := Lib.hid hxy3
       have HM3 := Lib.hid hm3
       have HS3 := Lib.hid hs3
       clear hxy3 hm3 hs3)
    | fail)
  go_ret
  refine ⟨y3, k3, rfl, ?_, by omega, HS3.out, (HM1.out.trans' HM2.out).trans' HM3.out⟩
  have e1 := HX1.out
  have e2 := HX2.out
  have e3 := HX3.out
  omega
set_option maxRecDepth 100000 in
set_option maxHeartbeats 4000000 in
theorem smedadj_any (base g n c a s k : Nat) (ys : List Int) (w : World) (h : DS base g n c w ys) (ha0 : 0 < a) (ha : a + 1 < n) (hk : k ≤ 900) (hs : Box w s k) (hsg : s ≠ g) (hn : n ≤ 1099511627776) :
    Calls Tryz.prog 122 #[.slice (some ⟨g, 0, none⟩) n c, .int .i64 a, .pointer (some ⟨s, 0, none⟩)] w fun e w' => ∃ x k' : Nat, e = .returned (.int .i64 x) ∧ a ≤ x + 1 ∧ x ≤ a + 1 ∧ k' ≤ k + 3 ∧ Box w' s k' ∧ Mod (fun x => x = s) w w' := by
  obtain ⟨d, hd⟩ : ∃ d, a = d + 1 := ⟨a - 1, by omega⟩
  have w1 : IntKind.i64.wrap ((a : Int) - 1) = (d : Int) := by rw [show (a : Int) - 1 = (d : Int) by omega]; exact IntWalk.i64_in _ (by omega)
  obtain ⟨a1, ha1⟩ : ∃ a1, a1 = a + 1 := ⟨_, rfl⟩
  have w2 : IntKind.i64.wrap ((a : Int) + 1) = (a1 : Int) := by rw [show (a : Int) + 1 = (a1 : Int) by omega]; exact IntWalk.i64_in _ (by omega)
  have H1 := Lib.hid (smedian_any base g n c d a a1 s k ys w h (by omega) (by omega) (by omega) hk hs hsg)
  have HE := Lib.hid (And.intro hd ha1)
  clear hd ha1 h hs hsg
  go_enter Tryz.func122, Tryz.ntmps122
  go_wp2_with (first
    | (go_at_call 123
       (with_reducible refine H1.out.mono ?_)
       rintro e w1 ⟨x1, k1, rfl, hx1, hk1, hs1, hm1⟩
       have HX1 := Lib.hid hx1
       have HM1 := Lib.hid hm1
       have HS1 := Lib.hid hs1
       clear hx1 hm1 hs1)
    | fail)
  go_ret
  have e1 := HX1.out
  have e2 := HE.out.1
  have e3 := HE.out.2
  exact ⟨x1, k1, rfl, by omega, by omega, hk1, HS1.out, HM1.out⟩
set_option maxRecDepth 100000 in
set_option maxHeartbeats 4000000 in
theorem schoose_any (base g n c a b : Nat) (ys : List Int) (w : World) (h : DS base g n c w ys) (hl : a + 12 < b) (hbn : b ≤ n) (hn : n ≤ 1099511627776) :
    Calls Tryz.prog 103 #[.slice (some ⟨g, 0, none⟩) n c, .int .i64 a, .int .i64 b] w fun e w' => ∃ (p : Nat) (q : Int), e = .returned (.tuple #[.int .i64 p, .int .i64 q]) ∧ a < p ∧ p + 1 < b ∧ Mod (fun _ => False) w w' := by
  obtain ⟨l, hll⟩ : ∃ l, b = a + l := ⟨b - a, by omega⟩
  obtain ⟨q, hq⟩ : ∃ q, q = l / 4 := ⟨_, rfl⟩
  obtain ⟨i, hi⟩ : ∃ i, i = a + q := ⟨_, rfl⟩
  obtain ⟨j, hj⟩ : ∃ j, j = a + q * 2 := ⟨_, rfl⟩
  obtain ⟨k, hk⟩ : ∃ k, k = a + q * 3 := ⟨_, rfl⟩
  have v1 : IntKind.i64.wrap ((b : Int) - (a : Int)) = (l : Int) := by rw [show (b : Int) - (a : Int) = (l : Int) by omega]; exact IntWalk.i64_in _ (by omega)
  have v2 : (l : Int).tdiv 4 = (q : Int) := by rw [Int.tdiv_eq_ediv_of_nonneg (by omega)]; omega
  have v3 : IntKind.i64.wrap (q : Int) = (q : Int) := IntWalk.i64_in _ (by omega)
  have v4 : IntKind.i64.wrap ((q : Int) * 2) = (q : Int) * 2 := IntWalk.i64_in _ (by omega)
  have v5 : IntKind.i64.wrap ((q : Int) * 3) = (q : Int) * 3 := IntWalk.i64_in _ (by omega)
  have v6 : IntKind.i64.wrap ((a : Int) + (q : Int)) = (i : Int) := by rw [show (a : Int) + (q : Int) = (i : Int) by omega]; exact IntWalk.i64_in _ (by omega)
  have v7 : IntKind.i64.wrap ((a : Int) + (q : Int) * 2) = (j : Int) := by rw [show (a : Int) + (q : Int) * 2 = (j : Int) by omega]; exact IntWalk.i64_in _ (by omega)
  have v8 : IntKind.i64.wrap ((a : Int) + (q : Int) * 3) = (k : Int) := by rw [show (a : Int) + (q : Int) * 3 = (k : Int) by omega]; exact IntWalk.i64_in _ (by omega)
  have hl8 : 12 < l := by omega
  have hgw := (h.blk (by omega)).2.1
  have HE := Lib.hid (And.intro hll (And.intro hq (And.intro hi (And.intro hj hk))))
  have HD := Lib.hid h
  have hne : w.heap.size ≠ g := by omega
  clear hll hq hi hj hk h
  have hd0 := HD.out.mod ((Mod.refl (fun _ => False) w).alloc (.cells #[.int .i64 0] 3)) id
  have hb0 : Box (w.alloc (.cells #[.int .i64 0] 3)) w.heap.size 0 := hp_new _ _
  have hs0 := smedian_any base g n c i j k w.heap.size 0 ys _ hd0 (by have := HE.out; omega) (by have := HE.out; omega) (by have := HE.out; omega) (by omega) hb0 hne
  have ha0 := smedadj_any base g n c i w.heap.size 0 ys _ hd0 (by have := HE.out; omega) (by have := HE.out; omega) (by omega) hb0 hne hn
  have HS0 := Lib.hid hs0
  have HA0 := Lib.hid ha0
  have HD0 := Lib.hid hd0
  have HN := Lib.hid hne
  have HM0 := Lib.hid ((Mod.refl (fun x => x = w.heap.size) w).alloc (.cells #[.int .i64 0] 3))
  have HFin := Lib.hid (show ∀ w', Mod (fun x => x = w.heap.size) w w' → Mod (fun _ => False) w w' from fun w' hm => hm.mono fun b hb e => by omega)
  clear hd0 hb0 hs0 ha0 hne
  by_cases h50 : 50 ≤ l
  · go_enter Tryz.func103, Tryz.ntmps103
    go_wp2_with (first
      | (go_at_call 122
         (with_reducible refine HA0.out.mono ?_)
         rintro e w1 ⟨x1, k1, rfl, hx1a, hx1b, hk1, hs1, hm1⟩
         have hd1 := HD0.out.box hm1 HN.out
         have ha1 := smedadj_any base g n c j w.heap.size k1 ys w1 hd1 (by have := HE.out; omega) (by have := HE.out; omega) (by omega) hs1 HN.out hn
         have HA1 := Lib.hid ha1
         have HD1 := Lib.hid hd1
         have HM1 := Lib.hid (HM0.out.trans' hm1)
         clear hm1 hs1 hd1 ha1)
      | (go_at_call 122
         (with_reducible refine HA1.out.mono ?_)
         rintro e w2 ⟨x2, k2, rfl, hx2a, hx2b, hk2, hs2, hm2⟩
         have hd2 := HD1.out.box hm2 HN.out
         have ha2 := smedadj_any base g n c k w.heap.size k2 ys w2 hd2 (by have := HE.out; omega) (by have := HE.out; omega) (by omega) hs2 HN.out hn
         have HA2 := Lib.hid ha2
         have HD2 := Lib.hid hd2
         have HM2 := Lib.hid (HM1.out.trans' hm2)
         clear hm2 hs2 hd2 ha2)
      | (go_at_call 122
         (with_reducible refine HA2.out.mono ?_)
         rintro e w3 ⟨x3, k3, rfl, hx3a, hx3b, hk3, hs3, hm3⟩
         have hd3 := HD2.out.box hm3 HN.out
         have hs3' := smedian_any base g n c x1 x2 x3 w.heap.size k3 ys w3 hd3 (by have := HE.out; omega) (by have := HE.out; omega) (by have := HE.out; omega) (by omega) hs3 HN.out
         have HA3 := Lib.hid hs3'
         have HM3 := Lib.hid (HM2.out.trans' hm3)
         clear hm3 hs3 hs3' hd3)
      | (go_at_call 123
         (with_reducible refine HA3.out.mono ?_)
         rintro e w4 ⟨x4, k4, rfl, hx4, hk4, hs4, hm4⟩
         have hc4 := hp_cell hs4 0
         simp only [List.getElem?_toArray, List.getElem?_cons_zero] at hc4
         have HX4 := Lib.hid hx4
         have HM4 := Lib.hid (HM3.out.trans' hm4)
         clear hm4 hs4 hx4)
      | fail)
    all_goals
      go_ret2
      have e0 := HE.out
      have e4 := HX4.out
      exact ⟨x4, _, rfl, by omega, by omega, HFin.out _ HM4.out⟩
  · go_enter Tryz.func103, Tryz.ntmps103
    go_wp2_with (first
      | (go_at_call 123
         (with_reducible refine HS0.out.mono ?_)
         rintro e w4 ⟨x4, k4, rfl, hx4, hk4, hs4, hm4⟩
         have hc4 := hp_cell hs4 0
         simp only [List.getElem?_toArray, List.getElem?_cons_zero] at hc4
         have HX4 := Lib.hid hx4
         have HM4 := Lib.hid (HM0.out.trans' hm4)
         clear hm4 hs4 hx4)
      | fail)
    all_goals
      go_ret2
      have e0 := HE.out
      have e4 := HX4.out
      exact ⟨x4, _, rfl, by omega, by omega, HFin.out _ HM4.out⟩
end Go.Proofs.YtmalclclopnlnaaGreat
/-
  The library's sort of numbers: patterns broken, equals parted.
-/
namespace Go.Proofs.YtmalclclopnlnaaGreat
open Go.RowKit Go.Shelf Go.Sort
attribute [local go_sem] Oper.semAt_some

/-- Which other place: below twice the range's length. -/
theorem other_lt {l X : Nat} (hl : 0 < l) (hl2 : l ≤ 1099511627776) : X &&& (1 <<< bitsLen l) - 1 < 2 * l ∧ 1 ≤ 1 <<< bitsLen l ∧ 1 <<< bitsLen l < 4611686018427387904 := by
  have h1 : ¬ bitsLen l ≤ bitsLen l - 1 := by
    have : 0 < bitsLen l := by unfold bitsLen; rw [if_neg (by omega)]; omega
    omega
  have h2 := fun h => h1 ((bitsLen_le_iff l (bitsLen l - 1)).2 h)
  have h40 : bitsLen l ≤ 41 := (bitsLen_le_iff l 41).2 (by omega)
  obtain ⟨k, hk⟩ : ∃ k, bitsLen l = k + 1 := ⟨bitsLen l - 1, by omega⟩
  rw [hk] at h2 h40 ⊢
  rw [Nat.add_sub_cancel] at h2
  have hp : 2 ^ k ≤ l := Nat.not_lt.1 h2
  have hpp : 1 ≤ 2 ^ k := Nat.one_le_two_pow
  have h61 : 2 ^ (k + 1) ≤ 2 ^ 41 := Nat.pow_le_pow_right (by decide) h40
  rw [Nat.one_shiftLeft]
  refine ⟨?_, by rw [Nat.pow_succ]; omega, by omega⟩
  have : X &&& 2 ^ (k + 1) - 1 ≤ 2 ^ (k + 1) - 1 := Nat.and_le_right
  rw [Nat.pow_succ] at this ⊢
  omega
set_option maxRecDepth 100000 in
set_option maxHeartbeats 4000000 in
theorem sbreak_any (base g n c a b : Nat) (xs : List Int) (w : World) (h : DS base g n c w xs) (hl : a + 12 < b) (hbn : b ≤ n) (hn : n ≤ 1099511627776) :
    Calls Tryz.prog 102 #[.slice (some ⟨g, 0, none⟩) n c, .int .i64 a, .int .i64 b] w fun e w' => e = .returned (.tuple #[]) ∧ ∃ ys, DS base g n c w' ys ∧ Sws a b xs ys ∧ Mod (fun x => x = g) w w' := by
  obtain ⟨l, hll⟩ : ∃ l, b = a + l := ⟨b - a, by omega⟩
  obtain ⟨q, hq⟩ : ∃ q, q = l / 4 := ⟨_, rfl⟩
  obtain ⟨i0, hi0⟩ : ∃ i0, i0 + 1 = a + q * 2 := ⟨a + q * 2 - 1, by omega⟩
  obtain ⟨M, hM⟩ : ∃ M, M = 1 <<< bitsLen l := ⟨_, rfl⟩
  have hMb := other_lt (l := l) (X := 0) (by omega) (by omega)
  rw [← hM] at hMb
  have v1 : IntKind.i64.wrap ((b : Int) - (a : Int)) = (l : Int) := by rw [show (b : Int) - (a : Int) = (l : Int) by omega]; exact IntWalk.i64_in _ (by omega)
  have v2 : (l : Int).tdiv 4 = (q : Int) := by rw [Int.tdiv_eq_ediv_of_nonneg (by omega)]; omega
  have v3 : IntKind.i64.wrap (q : Int) = (q : Int) := IntWalk.i64_in _ (by omega)
  have v4 : IntKind.i64.wrap ((q : Int) * 2) = (q : Int) * 2 := IntWalk.i64_in _ (by omega)
  have v5 : IntKind.i64.wrap ((a : Int) + (q : Int) * 2) = (i0 : Int) + 1 := by rw [show (a : Int) + (q : Int) * 2 = (i0 : Int) + 1 by omega]; exact IntWalk.i64_in _ (by omega)
  have v6 : IntKind.i64.wrap (i0 : Int) = (i0 : Int) := IntWalk.i64_in _ (by omega)
  have v7 : IntKind.i64.wrap ((i0 : Int) + 1 + 1) = ((i0 + 2 : Nat) : Int) := by rw [show (i0 : Int) + 1 + 1 = ((i0 + 2 : Nat) : Int) by omega]; exact IntWalk.i64_in _ (by omega)
  have v8 : IntKind.u64.wrap (l : Int) = l := by rw [IntKind.wrap_u64]; omega
  obtain ⟨m1, hm1⟩ : ∃ m1, M = m1 + 1 := ⟨M - 1, by rw [hM]; omega⟩
  have v9 : IntKind.u64.wrap ((M : Int) - 1) = (m1 : Int) := by rw [IntKind.wrap_u64]; omega
  have hm1lt : m1 < 18446744073709551616 := by omega
  have hO : ∀ X, X &&& m1 < 2 * l := fun X => by
    have := (other_lt (l := l) (X := X) (by omega) (by omega)).1
    rwa [← hM, hm1, Nat.add_sub_cancel] at this
  have HO := Lib.hid hO
  clear hm1 hO
  have hl8 : 12 < l := by omega
  have hp : ∀ X, Calls Tryz.prog 120 #[.int .i64 l] X fun e w' => e = .returned (.int .u64 (M : Int)) ∧ w' = X := fun X => by
    have := AnyF.nextPowerOfTwo Tryz.powRg l (by omega) X
    rw [← hM] at this
    exact this
  have HP := Lib.hid hp
  clear hp
  have HE := Lib.hid (And.intro hll (And.intro hq (And.intro hi0 hM)))
  have HMb := Lib.hid hMb
  have hgw := (h.blk (by omega)).2.1
  have HD := Lib.hid h
  have hne : w.heap.size ≠ g := by omega
  have hln : l ≤ 1099511627776 := by omega
  clear hll hq hi0 hM hMb h
  go_enter Tryz.func102, Tryz.ntmps102
  go_wp2_with (first | (go_at_call 120; (with_reducible refine (HP.out _).mono ?_); rintro e w' ⟨rfl, rfl⟩) | fail)
  have hd0 := HD.out.mod ((Mod.refl (fun _ => False) w).alloc (.cells #[.int .u64 l] 172)) id
  have hb0 := hp_new w (.cells #[.int .u64 l] 172)
  have HD0 := Lib.hid hd0
  have HB0 := Lib.hid hb0
  have HM0 := Lib.hid ((Mod.refl (fun x => x = g ∨ x = w.heap.size) w).alloc (.cells #[.int .u64 l] 172))
  clear hd0 hb0
  go_loopw [9] (fun v wr => ∃ (i X : Nat) (ys : List Int), v = .int .i64 i ∧ i0 ≤ i ∧ i ≤ i0 + 3 ∧ X < 18446744073709551616 ∧ wr.heap[w.heap.size]? = some (.cells #[.int .u64 (X : Int)] 172 (0, 0)) ∧ DS base g n c wr ys ∧ Sws a b xs ys ∧ Mod (fun x => x = g ∨ x = w.heap.size) w wr) (fun v _ => i0 + 3 - (intOf v).toNat)
  case atStart => exact ⟨i0, l, xs, rfl, Nat.le_refl _, by omega, by omega, HB0.out, HD0.out, .refl, HM0.out⟩
  case round =>
    obtain ⟨i, X, ys, rfl, hii, hi3, hX, hb, hd, hs, hm⟩ := hrel
    have HB := Lib.hid hb
    have HD := Lib.hid hd
    have HS := Lib.hid hs
    have HM := Lib.hid hm
    clear hb hd hs hm
    by_cases hlt : i ≤ i0 + 2
    · have hib : i < b := by have := HE.out; omega
      have hai : a ≤ i := by have := HE.out; omega
      have hin : i < n := by omega
      have hsn : w.heap.size ≠ g := hne
      obtain ⟨Y, hY⟩ : ∃ Y, Y = xorNextN X := ⟨_, rfl⟩
      have hYl : Y < 18446744073709551616 := by rw [hY]; exact xorNextN_lt X hX
      obtain ⟨o, ho⟩ : ∃ o, o = Y &&& m1 := ⟨_, rfl⟩
      have ho2 : o < 2 * l := by rw [ho]; exact HO.out Y
      have hA : bits .and .u64 (Y : Int) (m1 : Int) = (o : Int) := by rw [bits_and_u64_nat _ _ hYl hm1lt, ho]
      have ho3 : IntKind.i64.wrap (o : Int) = (o : Int) := IntWalk.i64_in _ (by omega)
      have wi : IntKind.i64.wrap ((i : Int) + 1) = ((i + 1 : Nat) : Int) := by rw [show (i : Int) + 1 = ((i + 1 : Nat) : Int) by omega]; exact IntWalk.i64_in _ (by omega)
      have hc0 := hp_cell HB.out 0
      simp only [List.getElem?_toArray, List.getElem?_cons_zero] at hc0
      have hNx : Calls Tryz.prog 121 #[.pointer (some ⟨w.heap.size, 0, none⟩)] wr fun e w' => e = .returned (.int .u64 (Y : Int)) ∧ w'.heap[w.heap.size]? = some (.cells #[.int .u64 (Y : Int)] 172 (0, 0)) ∧ Mod (fun x => x = w.heap.size) wr w' := by
        refine (AnyF.xorshift_Next Tryz.nextRg w.heap.size 0 X hX wr hc0 (hp_free HB.out 0)).mono ?_
        rintro e w' ⟨rfl, rfl⟩
        rw [← hY]
        refine ⟨rfl, ?_, ((Mod.refl (fun x => x = w.heap.size) wr).setCell (p := ⟨w.heap.size, 0, none⟩) (.inl rfl) _).drewN 3⟩
        have := hp_set HB.out 0 (.int .u64 (Y : Int))
        simpa using this
      have HNx := Lib.hid hNx
      clear hNx hc0 hY ho
      by_cases hol : l ≤ o
      · obtain ⟨o1, ho1⟩ : ∃ o1, o1 = o - l := ⟨_, rfl⟩
        obtain ⟨z, hz⟩ : ∃ z, z = a + o1 := ⟨_, rfl⟩
        have wo : IntKind.i64.wrap ((o : Int) - (l : Int)) = (o1 : Int) := by rw [show (o : Int) - (l : Int) = (o1 : Int) by omega]; exact IntWalk.i64_in _ (by omega)
        have wz : IntKind.i64.wrap ((a : Int) + (o1 : Int)) = (z : Int) := by rw [show (a : Int) + (o1 : Int) = (z : Int) by omega]; exact IntWalk.i64_in _ (by omega)
        have hzb : z < b := by have := HE.out.1; omega
        have haz : a ≤ z := by omega
        clear ho1 hz
        have hzn : z < n := by omega
        go_wp2_with (first
          | (go_at_call 121
             (with_reducible refine HNx.out.mono ?_)
             rintro e w1 ⟨rfl, hb1, hm1⟩
             have HB1 := Lib.hid hb1
             have HD1 := Lib.hid (HD.out.mod hm1 (fun e => hsn e.symm))
             have HM1 := Lib.hid (HM.out.trans hm1 (fun x hx => .inl (.inr hx)))
             clear hb1 hm1)
          | fail)
        clear HB HD HM HNx
        have HD := HD1
        have HM := HM1
        have HSs := Lib.hid (HS.out.exch (i := i) (j := z) HD.out.len hai hib haz hzb hbn)
        clear HD1 HM1
        by_cases hzi : z = i
        · subst hzi
          have e1 := HD.out.cell (k := z) hzn
          have e2 := HD.out.cell (k := z) hzn
          have f1 := (HD.out.blk (by omega)).2.2 z
          have f2 := (HD.out.blk (by omega)).2.2 z
          have hdq := HD.out.exchd hzn hzn rfl rfl
          have hmq0 := (mod_swp w1 g z z (.int .u64 (at_ ys z)) (.int .u64 (at_ ys z))).drew
          have hbq := hp_mod HB1.out hmq0 hsn
          have hmq := HM.out.trans hmq0 (fun x hx => .inl (.inl hx))
          obtain ⟨W1, hW1⟩ : ∃ W1, W1 = ((w1.setCell ⟨g, z, none⟩ (.int .u64 (at_ ys z))).setCell ⟨g, z, none⟩ (.int .u64 (at_ ys z))).drew := ⟨_, rfl⟩
          rw [← hW1] at hdq hmq hbq
          have HW := Lib.hid hW1
          clear HD HM hW1 hmq0
          have HD := Lib.hid hdq
          have HM := Lib.hid hmq
          have HBf := Lib.hid hbq
          clear hdq hmq hbq
          go_wp2
          go_region
          rw [← HW.out]
          clear e1 e2 f1 f2 HW
          go_wp2
          exact ⟨⟨z + 1, Y, _, by go_num, by omega, by omega, hYl, HBf.out, HD.out, HSs.out, HM.out⟩, by simp only [intOf]; omega⟩
        · have hne1 : ¬ i = z := fun e => hzi e.symm
          have e1 := HD.out.cell (k := i) hin
          have e2 := HD.out.cell (k := z) hzn
          have f1 := (HD.out.blk (by omega)).2.2 i
          have f2 := (HD.out.blk (by omega)).2.2 z
          have hdq := HD.out.exchd hin hzn rfl rfl
          have hmq0 := (mod_swp w1 g i z (.int .u64 (at_ ys z)) (.int .u64 (at_ ys i))).drew
          have hbq := hp_mod HB1.out hmq0 hsn
          have hmq := HM.out.trans hmq0 (fun x hx => .inl (.inl hx))
          obtain ⟨W1, hW1⟩ : ∃ W1, W1 = ((w1.setCell ⟨g, i, none⟩ (.int .u64 (at_ ys z))).setCell ⟨g, z, none⟩ (.int .u64 (at_ ys i))).drew := ⟨_, rfl⟩
          rw [← hW1] at hdq hmq hbq
          have HW := Lib.hid hW1
          clear HD HM hW1 hmq0
          have HD := Lib.hid hdq
          have HM := Lib.hid hmq
          have HBf := Lib.hid hbq
          clear hdq hmq hbq
          go_wp2
          go_region
          rw [← HW.out]
          clear e1 e2 f1 f2 HW
          go_wp2
          exact ⟨⟨i + 1, Y, _, by go_num, by omega, by omega, hYl, HBf.out, HD.out, HSs.out, HM.out⟩, by simp only [intOf]; omega⟩
      · obtain ⟨z, hz⟩ : ∃ z, z = a + o := ⟨_, rfl⟩
        have wz : IntKind.i64.wrap ((a : Int) + (o : Int)) = (z : Int) := by rw [show (a : Int) + (o : Int) = (z : Int) by omega]; exact IntWalk.i64_in _ (by omega)
        have hzb : z < b := by have := HE.out.1; omega
        have haz : a ≤ z := by omega
        clear hz
        have hzn : z < n := by omega
        go_wp2_with (first
          | (go_at_call 121
             (with_reducible refine HNx.out.mono ?_)
             rintro e w1 ⟨rfl, hb1, hm1⟩
             have HB1 := Lib.hid hb1
             have HD1 := Lib.hid (HD.out.mod hm1 (fun e => hsn e.symm))
             have HM1 := Lib.hid (HM.out.trans hm1 (fun x hx => .inl (.inr hx)))
             clear hb1 hm1)
          | fail)
        clear HB HD HM HNx
        have HD := HD1
        have HM := HM1
        have HSs := Lib.hid (HS.out.exch (i := i) (j := z) HD.out.len hai hib haz hzb hbn)
        clear HD1 HM1
        by_cases hzi : z = i
        · subst hzi
          have e1 := HD.out.cell (k := z) hzn
          have e2 := HD.out.cell (k := z) hzn
          have f1 := (HD.out.blk (by omega)).2.2 z
          have f2 := (HD.out.blk (by omega)).2.2 z
          have hdq := HD.out.exchd hzn hzn rfl rfl
          have hmq0 := (mod_swp w1 g z z (.int .u64 (at_ ys z)) (.int .u64 (at_ ys z))).drew
          have hbq := hp_mod HB1.out hmq0 hsn
          have hmq := HM.out.trans hmq0 (fun x hx => .inl (.inl hx))
          obtain ⟨W1, hW1⟩ : ∃ W1, W1 = ((w1.setCell ⟨g, z, none⟩ (.int .u64 (at_ ys z))).setCell ⟨g, z, none⟩ (.int .u64 (at_ ys z))).drew := ⟨_, rfl⟩
          rw [← hW1] at hdq hmq hbq
          have HW := Lib.hid hW1
          clear HD HM hW1 hmq0
          have HD := Lib.hid hdq
          have HM := Lib.hid hmq
          have HBf := Lib.hid hbq
          clear hdq hmq hbq
          go_wp2
          go_region
          rw [← HW.out]
          clear e1 e2 f1 f2 HW
          go_wp2
          exact ⟨⟨z + 1, Y, _, by go_num, by omega, by omega, hYl, HBf.out, HD.out, HSs.out, HM.out⟩, by simp only [intOf]; omega⟩
        · have hne1 : ¬ i = z := fun e => hzi e.symm
          have e1 := HD.out.cell (k := i) hin
          have e2 := HD.out.cell (k := z) hzn
          have f1 := (HD.out.blk (by omega)).2.2 i
          have f2 := (HD.out.blk (by omega)).2.2 z
          have hdq := HD.out.exchd hin hzn rfl rfl
          have hmq0 := (mod_swp w1 g i z (.int .u64 (at_ ys z)) (.int .u64 (at_ ys i))).drew
          have hbq := hp_mod HB1.out hmq0 hsn
          have hmq := HM.out.trans hmq0 (fun x hx => .inl (.inl hx))
          obtain ⟨W1, hW1⟩ : ∃ W1, W1 = ((w1.setCell ⟨g, i, none⟩ (.int .u64 (at_ ys z))).setCell ⟨g, z, none⟩ (.int .u64 (at_ ys i))).drew := ⟨_, rfl⟩
          rw [← hW1] at hdq hmq hbq
          have HW := Lib.hid hW1
          clear HD HM hW1 hmq0
          have HD := Lib.hid hdq
          have HM := Lib.hid hmq
          have HBf := Lib.hid hbq
          clear hdq hmq hbq
          go_wp2
          go_region
          rw [← HW.out]
          clear e1 e2 f1 f2 HW
          go_wp2
          exact ⟨⟨i + 1, Y, _, by go_num, by omega, by omega, hYl, HBf.out, HD.out, HSs.out, HM.out⟩, by simp only [intOf]; omega⟩
    · go_wp2
      exact bodyPost_end (v := .tuple #[]) (by simp [results, Tryz.results102, go_sem]) rfl ⟨rfl, ys, HD.out, HS.out, HM.out.mono fun x hx h => by rcases h with h | h; exact h; omega⟩
end Go.Proofs.YtmalclclopnlnaaGreat
