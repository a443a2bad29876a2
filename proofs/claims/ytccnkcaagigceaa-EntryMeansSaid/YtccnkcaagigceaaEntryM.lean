/-
  The document's Change.
-/
import Derived.Test.YtccnkcaagigceaaEntryL
namespace Go.Proofs.Ytccnkcaagigceaa
open Go.RowKit Go.Shelf
attribute [local go_sem] Oper.semAt_some

def RchgEnds (w : World) (xs ys : List At) (e : Ending) (w' : World) : Prop :=
  ∃ v, e = .returned (.tuple #[v, .int .i64 (chgE xs ys : Nat)]) ∧ Sl w' v (chgR xs ys) ∧ Mod (fun _ => False) w w'
theorem rchg_bad {w w' : World} {xs ys : List At} {n : Nat} (h : chgE xs ys = n) (hn : n ≠ 0) (hm : Mod (fun _ => False) w w') : RchgEnds w xs ys (.returned (.tuple #[.slice none 0 0, .int .i64 (n : Int)])) w' := by
  have hr : chgR xs ys = [] := by unfold chgR; rw [if_neg (by omega)]
  exact ⟨_, by rw [h], by rw [hr]; exact Sl.nil _, hm⟩
theorem stay_snoc (xs ys : List At) (k : Nat) (h : k < xs.length) : stay (xs.take (k + 1)) ys = stay (xs.take k) ys ++ (if tyIn ys xs[k] then [] else [xs[k]]) := by
  unfold stay
  rw [List.take_succ_eq_append_getElem h, List.filter_append]
  cases hv : tyIn ys xs[k] <;> simp [hv]
theorem tyIn_snoc (ys : List At) (x : At) (k : Nat) (h : k < ys.length) : tyIn (ys.take (k + 1)) x = (tyIn (ys.take k) x || decide (x.T = ys[k].T)) := by
  unfold tyIn
  rw [List.take_succ_eq_append_getElem h, List.any_append]; simp
set_option maxRecDepth 100000 in
set_option maxHeartbeats 8000000 in
theorem rchange_any (A By : Option Addr) (c cy : Nat) (xs ys : List At) (w : World) (hA : Rd (fun b => b < w.heap.size) w 2 At.cs A xs) (hB : Rd (fun b => b < w.heap.size) w 2 At.cs By ys)
    (hl : xs.length ≤ 1099511627776) (hl2 : ys.length ≤ 1099511627776) (hf : ∀ a ∈ xs, FitA a) (hf2 : ∀ a ∈ ys, FitA a) :
    Calls Try.prog 23 #[.slice A xs.length c, .slice By ys.length cy] w (RchgEnds w xs ys) := by
  have HA := Lib.hid (fun X (hX : Mod (fun _ => False) w X) => (hA.mod hX (fun b hb => ⟨hb, id⟩)).mono (D' := fun b => b < X.heap.size) fun b hb => Nat.lt_of_lt_of_le hb hX.size)
  have HB := Lib.hid (fun X (hX : Mod (fun _ => False) w X) => hB.mod hX (fun b hb => ⟨hb, id⟩))
  have HMy := Lib.hid (rmays_any A c xs w hA hl hf)
  have HAt := Lib.hid (fun y (hy : y ∈ ys) X => rattr_any y X (hf2 y hy).1 (hf2 y hy).2)
  have HP := Lib.hid (fun v zs a X h h2 => rputS_any v zs a X h h2)
  unfold At.val at HP HAt
  obtain ⟨n, hn⟩ : ∃ n, n = xs.length := ⟨_, rfl⟩
  obtain ⟨m, hm⟩ : ∃ m, m = ys.length := ⟨_, rfl⟩
  rw [← hn] at HMy hl ⊢
  rw [← hm] at hl2 ⊢
  have HN := Lib.hid hn
  have HM0 := Lib.hid hm
  obtain ⟨m1, hm1⟩ : ∃ z, z = mayAs xs := ⟨_, rfl⟩
  have HX50 := Lib.hid (show m1 = true → n ≤ 50 from fun h => by rw [hn]; exact ((mayAs_iff xs).1 (by rw [← hm1]; exact h)).1)
  rw [← hm1] at HMy
  have HE := Lib.hid (show chgE xs ys = if !m1 || decide (50 < m) || ys.any (fun a => !mayA a) then 2 else if 50 < (chgA xs ys).length then 10 else 0 by unfold chgE; rw [← hm1, ← hm])
  clear hn hm hm1 hA hB hf hf2
  cases m1
  · have hbad := Lib.hid (show chgE xs ys = 2 by rw [HE.out]; rfl)
    go_enter Try.func23, Try.ntmps23
    go_wp2_with (first
      | (go_at_call 17; refine HMy.out.mono ?_; rintro e w' ⟨rfl, hm⟩)
      | fail)
    go_ret2
    exact rchg_bad (n := 2) hbad.out (by decide) hm
  by_cases h50 : 50 < m
  · have hbad := Lib.hid (show chgE xs ys = 2 by rw [HE.out]; simp [h50])
    go_enter Try.func23, Try.ntmps23
    go_wp2_with (first
      | (go_at_call 17; refine HMy.out.mono ?_; rintro e w' ⟨rfl, hm⟩)
      | fail)
    go_ret2
    exact rchg_bad (n := 2) hbad.out (by decide) hm
  have hm50 : decide (50 < (m : Int)) = false := by rw [decide_eq_false_iff_not]; omega
  have hn50 := HX50.out rfl
  clear HX50
  go_enter Try.func23, Try.ntmps23
  go_wp2_with (first
    | (go_at_call 17; refine HMy.out.mono ?_; rintro e w1 ⟨rfl, hm⟩; have HM1 := Lib.hid hm; clear hm)
    | fail)
  go_loopw [6] (fun i wr => ∃ k : Nat, k ≤ m ∧ i = .int .i64 k ∧ (∀ y ∈ ys.take k, mayA y = true) ∧ Mod (fun _ => False) w wr) (fun i _ => m - (intOf i).toNat)
  case atStart => exact ⟨0, by omega, rfl, by simp, HM1.out⟩
  case round =>
    obtain ⟨k, hk, rfl, h1, hm⟩ := hrel
    have H1 := Lib.hid h1
    have HM := Lib.hid hm
    clear h1 hm HM1
    by_cases hlt : k < m
    · have hky : k < ys.length := by rw [← HM0.out]; exact hlt
      obtain ⟨b1, o1, rfl, -, p0, p1⟩ := rd2 (HB.out _ HM.out) hky
      obtain ⟨y, hy⟩ : ∃ y, y = ys[k] := ⟨_, rfl⟩
      rw [← hy] at p0 p1
      have hym : y ∈ ys := by rw [hy]; exact List.getElem_mem hky
      have HC := Lib.hid (HAt.out y hym wr)
      have HX := Lib.hid (show ys.take (k + 1) = ys.take k ++ [y] by rw [hy]; exact List.take_succ_eq_append_getElem hky)
      obtain ⟨z, hz⟩ : ∃ z, z = mayA y := ⟨_, rfl⟩
      rw [← hz] at HC
      have HZ := Lib.hid hz
      clear hy hz
      cases z
      · have hbad := Lib.hid (show chgE xs ys = 2 by
          rw [HE.out]
          have : (ys.any fun a => !mayA a) = true := List.any_eq_true.2 ⟨y, hym, by rw [← HZ.out]; rfl⟩
          rw [this]; simp)
        go_wp2_with (first
          | ((with_reducible refine HC.out.mono ?_); rintro e w2 ⟨rfl, hm2⟩)
          | fail)
        go_ret2
        exact rchg_bad (n := 2) hbad.out (by decide) (HM.out.trans' hm2)
      · have hall := Lib.hid (show ∀ z ∈ ys.take (k + 1), mayA z = true from fun z hz => by
          rw [HX.out, List.mem_append, List.mem_singleton] at hz
          rcases hz with h | rfl
          · exact H1.out z h
          · exact HZ.out.symm)
        go_wp2_with (first
          | ((with_reducible refine HC.out.mono ?_); rintro e w2 ⟨rfl, hm2⟩)
          | fail)
        exact ⟨⟨k + 1, by omega, by go_num, hall.out, HM.out.trans' hm2⟩, by simp only [intOf]; omega⟩
    · obtain rfl : k = m := by omega
      have HE2 := Lib.hid (show chgE xs ys = if 50 < (chgA xs ys).length then 10 else 0 by
        rw [HE.out]
        have : (ys.any fun a => !mayA a) = false := by
          rw [List.any_eq_false]
          intro y hy
          rw [H1.out y (by rwa [List.take_of_length_le (by rw [← HM0.out]; exact Nat.le_refl _)])]; simp
        rw [this]; simp [h50])
      have hkk : decide ((k : Int) < (k : Int)) = false := by simp
      clear HE H1
      go_wp2
      go_loopw [7, 8, 9, 10] (fun o i _ _ wr => ∃ j : Nat, j ≤ n ∧ i = .int .i64 j ∧ Sl wr o (sortA (stay (xs.take j) ys)) ∧ Mod (fun _ => False) w wr) (fun _ i _ _ _ => n - (intOf i).toNat)
      case atStart => exact ⟨0, by omega, rfl, Sl.nil _, HM.out⟩
      case round =>
        obtain ⟨j, hj, rfl, hs, hm⟩ := hrel
        have HS := Lib.hid hs
        have HM2 := Lib.hid hm
        clear hs hm
        by_cases hjn : j < n
        · have hjx : j < xs.length := by rw [← HN.out]; exact hjn
          obtain ⟨b1, o1, rfl, hbl, p0, p1⟩ := rd2 (HA.out _ HM2.out) hjx
          obtain ⟨x, hx⟩ : ∃ x, x = xs[j] := ⟨_, rfl⟩
          rw [← hx] at p0 p1
          have HX := Lib.hid (show stay (xs.take (j + 1)) ys = stay (xs.take j) ys ++ (if tyIn ys x then [] else [x]) by rw [hx]; exact stay_snoc xs ys j hjx)
          clear hx
          have P0 := Lib.hid (fun X (hX : Mod (fun _ => False) _ X) => (hX.cell (p := ⟨b1, o1 + j * 2, none⟩) hbl id).trans p0)
          have P1 := Lib.hid (fun X (hX : Mod (fun _ => False) _ X) => (hX.cell (p := ⟨b1, o1 + j * 2 + 1, none⟩) hbl id).trans p1)
          have hjj : decide ((j : Int) < (n : Int)) = true := by rw [decide_eq_true_eq]; omega
          clear p0 p1
          go_wp2
          obtain ⟨wo, rfl⟩ : ∃ wo : World, wo = wr := ⟨_, rfl⟩
          go_loopw [9, 10] (fun s q wr2 => ∃ i : Nat, i ≤ k ∧ q = .int .i64 i ∧ s = .bool (!tyIn (ys.take i) x) ∧ Mod (fun _ => False) wo wr2) (fun _ q _ => k - (intOf q).toNat)
          case atStart => exact ⟨0, by omega, rfl, rfl, Mod.refl _ _⟩
          case round =>
            obtain ⟨i, hi, rfl, rfl, hm⟩ := hrel
            have HM3 := Lib.hid hm
            have p0 := P0.out _ hm
            have p1 := P1.out _ hm
            clear hm
            obtain ⟨xT, xV⟩ := x
            simp only at p0 p1
            by_cases hik : i < k
            · have hiy : i < ys.length := by rw [← HM0.out]; exact hik
              obtain ⟨b2, o2, rfl, -, q0, q1⟩ := rd2 (HB.out _ (HM2.out.trans' HM3.out)) hiy
              obtain ⟨y, hy⟩ : ∃ y, y = ys[i] := ⟨_, rfl⟩
              rw [← hy] at q0 q1
              have HY := Lib.hid (show tyIn (ys.take (i + 1)) ⟨xT, xV⟩ = (tyIn (ys.take i) ⟨xT, xV⟩ || decide (xT = y.T)) by rw [hy]; exact tyIn_snoc ys ⟨xT, xV⟩ i hiy)
              clear hy
              obtain ⟨d, hd⟩ : ∃ d, d = decide (xT = y.T) := ⟨_, rfl⟩
              have e1 : (y.T == xT) = d := by rw [hd, Bool.eq_iff_iff, beq_iff_eq, decide_eq_true_eq]; exact eq_comm
              have e2 : (y.T != xT) = !d := by rw [bne, e1]
              rw [← hd] at HY
              generalize tyIn (ys.take i) ⟨xT, xV⟩ = z at *
              clear hd q1 p1
              cases z <;> cases d
              all_goals
                go_wp2
                go_quiet (fail)
                go_wp2
                exact ⟨⟨i + 1, by omega, by go_num, by rw [HY.out]; rfl, by have := HM3.out; (repeat' (first | exact Mod.refl _ _ | assumption | refine Mod.alloc ?_ _ | refine Mod.drew ?_ | refine Mod.drewN ?_ _ | refine Mod.setCell ?_ (by first | exact Or.inl rfl | (right; simp; done) | (right; simp; omega) | (left; simp; done)) _))⟩, by simp only [intOf]; omega⟩
            · obtain rfl : i = k := by omega
              have hys : ys.take i = ys := List.take_of_length_le (by rw [← HM0.out]; exact Nat.le_refl _)
              rw [hys]
              have HMo := Lib.hid (HM2.out.trans' HM3.out)
              have HSo := Lib.hid (HS.out.mod HM3.out)
              have hlen : (sortA (stay (xs.take j) ys)).length ≤ 50 := by
                have h1 := sortA_len (stay (xs.take j) ys)
                have h2 : (stay (xs.take j) ys).length ≤ (xs.take j).length := List.length_filter_le _ _
                rw [List.length_take] at h2
                omega
              obtain ⟨z, hz⟩ : ∃ z, z = tyIn ys ⟨xT, xV⟩ := ⟨_, rfl⟩
              rw [← hz] at HX ⊢
              clear hz hys
              cases z
              · have HSn := Lib.hid (show sortA (stay (xs.take (j + 1)) ys) = putA ⟨xT, xV⟩ (sortA (stay (xs.take j) ys)) by rw [HX.out]; exact sortA_snoc _ _)
                have HC := Lib.hid (fun X h => HP.out u7 (sortA (stay (xs.take j) ys)) ⟨xT, xV⟩ X h (by omega))
                go_wp2_with (first
                  | ((with_reducible refine (HC.out _ HSo.out).mono ?_)
                     rintro e w3 ⟨v3, rfl, hs3, hm3⟩
                     have HS3 := Lib.hid hs3
                     have HM4 := Lib.hid (HMo.out.trans' hm3)
                     clear hs3 hm3)
                  | fail)
                exact ⟨⟨j + 1, by omega, by go_num, by rw [HSn.out]; exact HS3.out, HM4.out⟩, by simp only [intOf]; omega⟩
              · have hst := HX.out
                simp only [if_true, List.append_nil] at hst
                have HSt := Lib.hid hst
                clear hst
                go_wp2
                exact ⟨⟨j + 1, by omega, by go_num, by rw [HSt.out]; exact HSo.out, HMo.out⟩, by simp only [intOf]; omega⟩
        · obtain rfl : j = n := by omega
          have hxs : xs.take j = xs := List.take_of_length_le (by rw [← HN.out]; exact Nat.le_refl _)
          rw [hxs] at HS
          have hjj : decide ((j : Int) < (j : Int)) = false := by simp
          clear hxs
          go_wp2
          go_loopw [7, 11] (fun o i wr => ∃ q : Nat, q ≤ k ∧ i = .int .i64 q ∧ Sl wr o (sortA (stay xs ys ++ adds (ys.take q))) ∧ Mod (fun _ => False) w wr) (fun _ i _ => k - (intOf i).toNat)
          case atStart => exact ⟨0, by omega, rfl, by simpa [adds] using HS.out, HM2.out⟩
          case round =>
            obtain ⟨q, hq, rfl, hs, hm⟩ := hrel
            have HS5 := Lib.hid hs
            have HM5 := Lib.hid hm
            clear hs hm
            by_cases hqk : q < k
            · have hqy : q < ys.length := by rw [← HM0.out]; exact hqk
              obtain ⟨b2, o2, rfl, -, q0, q1⟩ := rd2 (HB.out _ HM5.out) hqy
              obtain ⟨y, hy⟩ : ∃ y, y = ys[q] := ⟨_, rfl⟩
              rw [← hy] at q0 q1
              have HY := Lib.hid (show adds (ys.take (q + 1)) = adds (ys.take q) ++ (if y.V = [] then [] else [y]) by rw [hy]; exact adds_snoc ys q hqy)
              have hlen : (sortA (stay xs ys ++ adds (ys.take q))).length ≤ 200 := by
                have h1 := sortA_len (stay xs ys ++ adds (ys.take q))
                have h2 : (stay xs ys).length ≤ xs.length := List.length_filter_le _ _
                have h3 : (adds (ys.take q)).length ≤ (ys.take q).length := List.length_filter_le _ _
                rw [List.length_take] at h3
                have := HN.out
                simp at h1; omega
              clear hy
              obtain ⟨yT, yV⟩ := y
              simp only at q0 q1 HY
              by_cases hv : yV = []
              · subst hv
                have hst := HY.out
                simp only [if_true, List.append_nil] at hst
                have HSt := Lib.hid hst
                clear hst
                go_wp2
                exact ⟨⟨q + 1, by omega, by go_num, by rw [HSt.out]; exact HS5.out, HM5.out⟩, by simp only [intOf]; omega⟩
              · have hst := HY.out
                rw [if_neg hv] at hst
                have HSn := Lib.hid (show sortA (stay xs ys ++ adds (ys.take (q + 1))) = putA ⟨yT, yV⟩ (sortA (stay xs ys ++ adds (ys.take q))) by rw [hst, ← List.append_assoc]; exact sortA_snoc _ _)
                have HC := Lib.hid (HP.out u7 (sortA (stay xs ys ++ adds (ys.take q))) ⟨yT, yV⟩ wr HS5.out (by omega))
                have hne : (yV != ([] : Bs)) = true := by simpa using hv
                have hne2 : yV.isEmpty = false := by cases yV with | nil => exact absurd rfl hv | cons a l => rfl
                have hne3 : (yV == ([] : Bs)) = false := by simpa using hv
                clear hst hv
                go_wp2_with (first
                  | ((with_reducible refine HC.out.mono ?_)
                     rintro e w3 ⟨v3, rfl, hs3, hm3⟩
                     have HS3 := Lib.hid hs3
                     have HM4 := Lib.hid (HM5.out.trans' hm3)
                     clear hs3 hm3)
                  | fail)
                exact ⟨⟨q + 1, by omega, by go_num, by rw [HSn.out]; exact HS3.out, HM4.out⟩, by simp only [intOf]; omega⟩
            · obtain rfl : q = k := by omega
              have hys : ys.take q = ys := List.take_of_length_le (by rw [← HM0.out]; exact Nat.le_refl _)
              rw [hys] at HS5
              have hcg : sortA (stay xs ys ++ adds ys) = chgA xs ys := rfl
              rw [hcg] at HS5
              obtain ⟨A5, c5, hv5, hr5, hc5⟩ := HS5.out
              subst hv5
              obtain ⟨r, hr⟩ : ∃ r, r = (chgA xs ys).length := ⟨_, rfl⟩
              rw [← hr] at HE2 ⊢
              have HR := Lib.hid hr
              clear hys hcg hr hr5 hc5
              by_cases h50q : 50 < r
              · have hbad := Lib.hid (show chgE xs ys = 10 by rw [HE2.out, if_pos h50q])
                go_wp2
                go_ret2
                exact rchg_bad (n := 10) hbad.out (by decide) HM5.out
              · have hok : chgE xs ys = 0 := by rw [HE2.out, if_neg h50q]
                have hR : chgR xs ys = chgA xs ys := by unfold chgR; rw [if_pos hok]
                have HOk := Lib.hid (And.intro hok hR)
                have HSf := Lib.hid (show Sl wr (.slice A5 r c5) (chgA xs ys) by rw [HR.out]; exact HS5.out)
                clear hok hR
                go_wp2
                go_ret2
                exact ⟨_, by rw [HOk.out.1]; rfl, by rw [HOk.out.2]; exact HSf.out, HM5.out⟩
end Go.Proofs.Ytccnkcaagigceaa
