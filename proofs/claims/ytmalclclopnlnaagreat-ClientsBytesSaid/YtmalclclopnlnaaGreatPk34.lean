/-
  Texts of this claim, one behind the other: RefT.
-/
import Derived.Test.YtmalclclopnlnaaGreatPk17
import Derived.Test.YtmalclclopnlnaaGreatPk22
import Derived.Test.YtmalclclopnlnaaGreatPk33
/-
  The document's table: a client's place, how a request is.
-/
namespace Go.Proofs.YtmalclclopnlnaaGreat
open Go.RowKit Go.Shelf
attribute [local go_sem] Oper.semAt_some

theorem rdAC {D : Nat → Prop} {w : World} {A : Option Addr} {xs : List AC} (h : Rd D w 6 AC.cs A xs) {k : Nat} (hk : k < xs.length) :
    ∃ b off, A = some ⟨b, off, none⟩ ∧ D b ∧ w.cell? ⟨b, off + k * 6, none⟩ = some (.int .u64 (xs[k].c : Int)) ∧ w.cell? ⟨b, off + k * 6 + 1, none⟩ = some (.int .u64 (xs[k].n : Int)) ∧ w.cell? ⟨b, off + k * 6 + 2, none⟩ = some (.int .i64 xs[k].r.code) ∧
      w.cell? ⟨b, off + k * 6 + 3, none⟩ = some (.bool xs[k].r.yes) ∧ w.cell? ⟨b, off + k * 6 + 4, none⟩ = some (.slice xs[k].r.A xs[k].r.es.length xs[k].r.cA) ∧ w.cell? ⟨b, off + k * 6 + 5, none⟩ = some (.slice xs[k].r.B xs[k].r.cur.length xs[k].r.cB) := by
  obtain ⟨b, off, rfl, hd, hc⟩ := h (by omega)
  refine ⟨b, off, rfl, hd, ?_, hc k hk 1 _ rfl, hc k hk 2 _ rfl, hc k hk 3 _ rfl, hc k hk 4 _ rfl, hc k hk 5 _ rfl⟩
  have := hc k hk 0 _ rfl
  simpa using this
theorem idxT_map (c : Nat) (xs : List AC) : idxT c (xs.map AC.told) = match xs.findIdx? fun x => decide (x.c = c) with
    | some i => (i : Int)
    | none => -1 := by
  unfold idxT
  rw [List.findIdx?_map]
  rfl
set_option maxRecDepth 100000 in
set_option maxHeartbeats 1000000 in
theorem rat_any (q T : Nat) (A : Option Addr) (cp c : Nat) (D : Nat → Prop) (xs : List AC) (w : World) (hq : w.heap[q]? = some (.cells #[.slice A xs.length cp] T (0, 0))) (hA : Rd D w 6 AC.cs A xs) (hl : xs.length ≤ 16) :
    Calls Tryz.prog 31 #[.pointer (some ⟨q, 0, none⟩), .int .u64 (c : Int)] w fun e w' => e = .returned (.int .i64 (idxT c (xs.map AC.told))) ∧ w' = w := by
  obtain ⟨n, hn⟩ : ∃ n, n = xs.length := ⟨_, rfl⟩
  rw [← hn] at hl hq
  have x0 : w.cell? ⟨q, 0, none⟩ = some (.slice A n cp) := by rw [hp_cell hq]; rfl
  obtain ⟨z, hz⟩ : ∃ z, z = idxT c (xs.map AC.told) := ⟨_, rfl⟩
  rw [← hz]
  have HN := Lib.hid hn
  have HA := Lib.hid hA
  have HZ := Lib.hid (hz.trans (idxT_map c xs))
  clear hn hq hA hz
  go_enter Tryz.func31, Tryz.ntmps31
  go_wp2
  go_loopw [5] (fun i wr => ∃ k : Nat, k ≤ n ∧ i = .int .i64 (k : Int) ∧ (∀ j, ∀ h : j < xs.length, j < k → ¬ xs[j].c = c) ∧ wr = w) (fun i _ => n - (intOf i).toNat)
  case atStart => exact ⟨0, Nat.zero_le _, rfl, fun j h h0 => by omega, rfl⟩
  case round =>
    obtain ⟨k, hk, rfl, hall, rfl⟩ := hrel
    have HAll := Lib.hid hall
    clear hall
    by_cases hkn : k < n
    · have hkx : k < xs.length := by rw [← HN.out]; exact hkn
      obtain ⟨b, off, rfl, -, p0, -⟩ := rdAC HA.out hkx
      by_cases hc : xs[k].c = c
      · have hzk : z = (k : Int) := by
          rw [HZ.out, List.findIdx?_eq_some_iff_getElem.2 ⟨hkx, by simpa using hc, fun j hj => by simpa using HAll.out j (by omega) hj⟩]
        rw [hc] at p0
        subst hzk
        clear hc
        go_wp2
        go_ret
        exact ⟨rfl, rfl⟩
      · obtain ⟨y, hy⟩ : ∃ y, y = xs[k].c := ⟨_, rfl⟩
        rw [← hy] at p0 hc
        have HY := Lib.hid hy
        have HC := Lib.hid hc
        have hne : decide (y = c) = false := decide_eq_false hc
        clear hy
        go_wp2
        go_roundw
        case rel =>
          refine ⟨k + 1, by omega, by go_num, fun j h hj => ?_, trivial⟩
          rcases Nat.lt_or_ge j k with h1 | h1
          · exact HAll.out j h h1
          · obtain rfl : j = k := by omega
            rw [← HY.out]; exact HC.out
        case measure => simp only [intOf]; omega
    · obtain rfl : k = n := by omega
      have hzk : z = -1 := by
        rw [HZ.out, List.findIdx?_eq_none_iff.2 fun x hx => ?_]
        obtain ⟨j, hj, rfl⟩ := List.getElem_of_mem hx
        simpa using HAll.out j hj (by rw [HN.out]; exact hj)
      subst hzk
      go_wp2
      go_ret
      exact ⟨rfl, rfl⟩
/-- How the document answers a request: its result is one of the table's, or nothing. -/
def RaskEnds (a : Nat × Res) (D : Nat → Prop) (w : World) (e : Ending) (w' : World) : Prop :=
  (∃ r : RC, e = .returned (.tuple #[.int .i64 (a.1 : Int), r.val]) ∧ r.res = a.2 ∧ r.Ok D w') ∧ Mod (fun _ => False) w w'
set_option maxRecDepth 100000 in
set_option maxHeartbeats 2000000 in
theorem rask_any (q T : Nat) (A : Option Addr) (cp c n : Nat) (D : Nat → Prop) (xs : List AC) (w : World) (hq : w.heap[q]? = some (.cells #[.slice A xs.length cp] T (0, 0))) (hA : Rd D w 6 AC.cs A xs) (hl : xs.length ≤ 16) (hok : ∀ x ∈ xs, x.Ok D w) (hD : ∀ b, D b → b < w.heap.size) :
    Calls Tryz.prog 30 #[.pointer (some ⟨q, 0, none⟩), .int .u64 (c : Int), .int .u64 (n : Int)] w (RaskEnds (askT c n (xs.map AC.told)) D w) := by
  have hAt := fun X (hX : Mod (fun _ => False) w X) => rat_any q T A cp c D xs X (hp_mod hq hX id) (hA.mod hX fun b hb => ⟨hD b hb, id⟩) hl
  obtain ⟨W1, hW1⟩ : ∃ W1, W1 = w.alloc (.cells #[.int .i64 0, .bool false, .slice none 0 0, .slice none 0 0] 37) := ⟨_, rfl⟩
  have hb1 : W1.heap[w.heap.size]? = some (.cells #[.int .i64 0, .bool false, .slice none 0 0, .slice none 0 0] 37 (0, 0)) := by rw [hW1]; exact hp_new _ _
  have hm1 : Mod (fun _ => False) w W1 := by rw [hW1]; (repeat' (first | exact Mod.refl _ _ | assumption | refine Mod.alloc ?_ _ | refine Mod.drew ?_ | refine Mod.drewN ?_ _ | refine Mod.setCell ?_ (by first | exact Or.inl rfl | (right; simp; done) | (right; simp; omega) | (left; simp; done)) _))
  have hAt1 := hAt W1 hm1
  obtain ⟨l, hll⟩ : ∃ l, l = xs.length := ⟨_, rfl⟩
  have hq1 := hp_mod hq hm1 id
  rw [← hll] at hq1
  have x0 : W1.cell? ⟨q, 0, none⟩ = some (.slice A l cp) := by rw [hp_cell hq1]; rfl
  have y0 : W1.cell? ⟨w.heap.size, 0, none⟩ = some (.int .i64 0) := by rw [hp_cell hb1]; rfl
  have y1 : W1.cell? ⟨w.heap.size, 1, none⟩ = some (.bool false) := by rw [hp_cell hb1]; rfl
  have y2 : W1.cell? ⟨w.heap.size, 2, none⟩ = some (.slice none 0 0) := by rw [hp_cell hb1]; rfl
  have y3 : W1.cell? ⟨w.heap.size, 3, none⟩ = some (.slice none 0 0) := by rw [hp_cell hb1]; rfl
  have g0 : W1.frozen? ⟨w.heap.size, 0, none⟩ = false := hp_free hb1 _
  have g1 : W1.frozen? ⟨w.heap.size, 1, none⟩ = false := hp_free hb1 _
  have g2 : W1.frozen? ⟨w.heap.size, 2, none⟩ = false := hp_free hb1 _
  have g3 : W1.frozen? ⟨w.heap.size, 3, none⟩ = false := hp_free hb1 _
  have hlt := hp_lt hb1
  have e1 : ¬ W1.heap.size = w.heap.size := by omega
  have e2 : ¬ w.heap.size = W1.heap.size := by omega
  cases h2 : atT c (xs.map AC.told) with
  | none =>
    rw [idxT_none h2] at hAt1
    have ha : askT c n (xs.map AC.told) = (1, res0) := by unfold askT; rw [h2]
    rw [ha]
    have HAt := Lib.hid hAt1
    have HB1 := Lib.hid hb1
    have HM1 := Lib.hid hm1
    have HW1 := Lib.hid hW1
    clear hAt hAt1 hb1 hm1 hq hA hok hD hl h2 ha hq1 hll hW1
    go_enter Tryz.func30, Tryz.ntmps30
    go_upto_region 1 with fail
    rw [← HW1.out]
    go_wp2_with (first
      | (go_at_call 31
         (with_reducible refine HAt.out.mono ?_)
         rintro e w2 ⟨rfl, rfl⟩)
      | fail)
    have h9 := st4_at HB1.out (.int .i64 0) (.bool false) (.slice none 0 0) (.slice none 0 0)
    have hm9 := st4_mod w2 w.heap.size (.int .i64 0) (.bool false) (.slice none 0 0) (.slice none 0 0)
    change bodyPost _ _ _ _ _ (st4 w2 w.heap.size (.int .i64 0) (.bool false) (.slice none 0 0) (.slice none 0 0))
    obtain ⟨W9, hW9⟩ : ∃ W9, W9 = st4 w2 w.heap.size (.int .i64 0) (.bool false) (.slice none 0 0) (.slice none 0 0) := ⟨_, rfl⟩
    rw [← hW9] at h9 hm9 ⊢
    have M9 := HM1.out.trans hm9 fun b hb => by right; omega
    have k0 := hp_cell h9 0
    have k1 := hp_cell h9 1
    have k2 := hp_cell h9 2
    have k3 := hp_cell h9 3
    clear h9 hm9 hW9
    refine bodyPost_ret (v := .tuple #[.int .i64 1, .agg #[.int .i64 0, .bool false, .slice none 0 0, .slice none 0 0]]) (by simp [results, Tryz.results30, go_sem] at k0 k1 k2 k3 ⊢; simp [k0, k1, k2, k3]) rfl ⟨⟨RC.nil 0, rfl, rfl, RC.nil_ok (by omega)⟩, M9⟩
  | some x =>
    obtain ⟨i, hi, hix, hxi⟩ := idxT_some h2
    rw [List.length_map] at hi
    rw [List.getElem_map] at hxi
    rw [hix] at hAt1
    obtain ⟨y, hy⟩ : ∃ y, y = xs[i] := ⟨_, rfl⟩
    have hym : y ∈ xs := by rw [hy]; exact List.getElem_mem _
    have hA1 := hA.mod hm1 fun b hb => ⟨hD b hb, id⟩
    obtain ⟨b, off, rfl, hbD, p0, p1, p2, p3, p4, p5⟩ := rdAC hA1 hi
    rw [← hy] at hxi p0 p1 p2 p3 p4 p5
    have ha : askT c n (xs.map AC.told) = if y.n < n then (1, res0) else if n < y.n then (3, res0) else (2, y.r.res) := by unfold askT; rw [h2, ← hxi]; rfl
    rw [ha]
    obtain ⟨yn, hyn⟩ : ∃ yn, yn = y.n := ⟨_, rfl⟩
    rw [← hyn] at p1 ⊢
    have hil : i < l := by rw [hll]; exact hi
    have HAt := Lib.hid hAt1
    have HB1 := Lib.hid hb1
    have HM1 := Lib.hid hm1
    have HW1 := Lib.hid hW1
    by_cases hn1 : yn < n
    · rw [if_pos hn1]
      have i1 : decide (yn < n) = true := decide_eq_true hn1
      clear hAt hAt1 hb1 hm1 hq hA hok hD hl h2 ha hq1 hll hW1 hi hix hxi hy hym hA1 hbD hyn hn1
      go_enter Tryz.func30, Tryz.ntmps30
      go_upto_region 1 with fail
      rw [← HW1.out]
      go_wp2_with (first
        | (go_at_call 31
           (with_reducible refine HAt.out.mono ?_)
           rintro e w2 ⟨rfl, rfl⟩)
        | fail)
      have h9 := st4_at HB1.out (.int .i64 0) (.bool false) (.slice none 0 0) (.slice none 0 0)
      have hm9 := st4_mod w2 w.heap.size (.int .i64 0) (.bool false) (.slice none 0 0) (.slice none 0 0)
      change bodyPost _ _ _ _ _ (st4 w2 w.heap.size (.int .i64 0) (.bool false) (.slice none 0 0) (.slice none 0 0))
      obtain ⟨W9, hW9⟩ : ∃ W9, W9 = st4 w2 w.heap.size (.int .i64 0) (.bool false) (.slice none 0 0) (.slice none 0 0) := ⟨_, rfl⟩
      rw [← hW9] at h9 hm9 ⊢
      have M9 := HM1.out.trans hm9 fun b hb => by right; omega
      have k0 := hp_cell h9 0
      have k1 := hp_cell h9 1
      have k2 := hp_cell h9 2
      have k3 := hp_cell h9 3
      clear h9 hm9 hW9
      refine bodyPost_ret (v := .tuple #[.int .i64 1, .agg #[.int .i64 0, .bool false, .slice none 0 0, .slice none 0 0]]) (by simp [results, Tryz.results30, go_sem] at k0 k1 k2 k3 ⊢; simp [k0, k1, k2, k3]) rfl ⟨⟨RC.nil 0, rfl, rfl, RC.nil_ok (by omega)⟩, M9⟩
    rw [if_neg hn1]
    have i1 : decide (yn < n) = false := decide_eq_false hn1
    by_cases hn2 : n < yn
    · rw [if_pos hn2]
      have i2 : decide (n < yn) = true := decide_eq_true hn2
      clear hAt hAt1 hb1 hm1 hq hA hok hD hl h2 ha hq1 hll hW1 hi hix hxi hy hym hA1 hbD hyn hn1 hn2
      go_enter Tryz.func30, Tryz.ntmps30
      go_upto_region 1 with fail
      rw [← HW1.out]
      go_wp2_with (first
        | (go_at_call 31
           (with_reducible refine HAt.out.mono ?_)
           rintro e w2 ⟨rfl, rfl⟩)
        | fail)
      have h9 := st4_at HB1.out (.int .i64 0) (.bool false) (.slice none 0 0) (.slice none 0 0)
      have hm9 := st4_mod w2 w.heap.size (.int .i64 0) (.bool false) (.slice none 0 0) (.slice none 0 0)
      change bodyPost _ _ _ _ _ (st4 w2 w.heap.size (.int .i64 0) (.bool false) (.slice none 0 0) (.slice none 0 0))
      obtain ⟨W9, hW9⟩ : ∃ W9, W9 = st4 w2 w.heap.size (.int .i64 0) (.bool false) (.slice none 0 0) (.slice none 0 0) := ⟨_, rfl⟩
      rw [← hW9] at h9 hm9 ⊢
      have M9 := HM1.out.trans hm9 fun b hb => by right; omega
      have k0 := hp_cell h9 0
      have k1 := hp_cell h9 1
      have k2 := hp_cell h9 2
      have k3 := hp_cell h9 3
      clear h9 hm9 hW9
      refine bodyPost_ret (v := .tuple #[.int .i64 3, .agg #[.int .i64 0, .bool false, .slice none 0 0, .slice none 0 0]]) (by simp [results, Tryz.results30, go_sem] at k0 k1 k2 k3 ⊢; simp [k0, k1, k2, k3]) rfl ⟨⟨RC.nil 0, rfl, rfl, RC.nil_ok (by omega)⟩, M9⟩
    rw [if_neg hn2]
    have i2 : decide (n < yn) = false := decide_eq_false hn2
    have HOk := Lib.hid (((hok y hym).mod hm1 fun b hb => ⟨hD b hb, id⟩).r)
    have HD := Lib.hid hD
    obtain ⟨r, hr⟩ : ∃ r, r = y.r := ⟨_, rfl⟩
    rw [← hr] at p2 p3 p4 p5 HOk ⊢
    obtain ⟨rn, hrn⟩ : ∃ k, k = r.es.length := ⟨_, rfl⟩
    obtain ⟨rm, hrm⟩ : ∃ k, k = r.cur.length := ⟨_, rfl⟩
    have HVal := Lib.hid (show r.val = .agg #[.int .i64 r.code, .bool r.yes, .slice r.A rn r.cA, .slice r.B rm r.cB] by rw [hrn, hrm]; rfl)
    rw [← hrn] at p4
    rw [← hrm] at p5
    have hs1 := hm1.size
    clear hAt hAt1 hb1 hm1 hq hA hok hl h2 ha hq1 hll hW1 hi hix hxi hy hym hA1 hbD hyn hn1 hn2 hD hr hrn hrm
    go_enter Tryz.func30, Tryz.ntmps30
    go_upto_region 1 with fail
    rw [← HW1.out]
    go_upto_region 6 with (first
      | (go_at_call 31
         (with_reducible refine HAt.out.mono ?_)
         rintro e w2 ⟨rfl, rfl⟩)
      | fail)
    go_region
    all_goals
      go_wp2
      have h9 := hp_drew (st4_at HB1.out (.int .i64 r.code) (.bool r.yes) (.slice r.A rn r.cA) (.slice r.B rm r.cB))
      have hm9 := (st4_mod w2 w.heap.size (.int .i64 r.code) (.bool r.yes) (.slice r.A rn r.cA) (.slice r.B rm r.cB)).drew
      change bodyPost _ _ _ _ _ ((st4 w2 w.heap.size (.int .i64 r.code) (.bool r.yes) (.slice r.A rn r.cA) (.slice r.B rm r.cB)).drew)
      obtain ⟨W9, hW9⟩ : ∃ W9, W9 = (st4 w2 w.heap.size (.int .i64 r.code) (.bool r.yes) (.slice r.A rn r.cA) (.slice r.B rm r.cB)).drew := ⟨_, rfl⟩
      rw [← hW9] at h9 hm9 ⊢
      have M9 := HM1.out.trans hm9 fun b hb => by right; omega
      have hok9 := HOk.out.mod hm9 (fun b hb => ⟨by have := HD.out b hb; omega, by have := HD.out b hb; omega⟩)
      have k0 := hp_cell h9 0
      have k1 := hp_cell h9 1
      have k2 := hp_cell h9 2
      have k3 := hp_cell h9 3
      clear h9 hm9 hW9
      refine bodyPost_ret (v := .tuple #[.int .i64 2, .agg #[.int .i64 r.code, .bool r.yes, .slice r.A rn r.cA, .slice r.B rm r.cB]]) (by simp [results, Tryz.results30, go_sem] at k0 k1 k2 k3 ⊢; simp [k0, k1, k2, k3]) rfl ⟨⟨r, by rw [HVal.out]; rfl, rfl, hok9⟩, M9⟩
end Go.Proofs.YtmalclclopnlnaaGreat
