/-
  The law EntryLooks: its walk.
-/
import Derived.Test.YtccnkcaagigceaaEntryT
namespace Go.Proofs.Ytccnkcaagigceaa
open Go.RowKit Go.Shelf
attribute [local go_sem] Oper.semAt_some

theorem cmp_lt {x y : At} (h : ltA x y = true) : cmpA x y = -1 := by unfold ltA at h; simpa using h
theorem cmp_gt {x y : At} (h : ltA y x = true) : cmpA x y = 1 := by
  have := cmp_lt h
  rw [cmpA_anti x y] at this; omega
theorem cmp_eq {x y : At} (h1 : ltA x y = false) (h2 : ltA y x = false) : cmpA x y = 0 := by
  rcases ltA_tri x y with h | h | h
  · rw [h1] at h; cases h
  · rw [h]; exact cmpA_self y
  · rw [h2] at h; cases h
set_option maxRecDepth 100000 in
set_option maxHeartbeats 16000000 in
theorem entryLooks_any (A By : Option Addr) (c cy : Nat) (xs ys : List At) (nm : Bs) (w : World) (hA : Rd (fun b => b < w.heap.size) w 2 At.cs A xs) (hB : Rd (fun b => b < w.heap.size) w 2 At.cs By ys) (hlx : xs.length ≤ maxLen) (hly : ys.length ≤ maxLen) (_hnm : nm.length ≤ 9223372036854775807) :
    Calls Try.prog 6 #[.slice A xs.length c, .slice By ys.length cy, .string ⟨nm.toArray⟩] w fun e w' => e = .returned (.bool true) ∧ Mod (fun _ => False) w w' := by
  have HK := Lib.hid (fun X => known_any X)
  have HA := Lib.hid (fun X (hX : Mod (fun _ => False) w X) => (hA.mod hX (fun b hb => ⟨hb, id⟩)).mono (D' := fun b => b < X.heap.size) fun b hb => Nat.lt_of_lt_of_le hb hX.size)
  have HB := Lib.hid (fun X (hX : Mod (fun _ => False) w X) => (hB.mod hX (fun b hb => ⟨hb, id⟩)).mono (D' := fun b => b < X.heap.size) fun b hb => Nat.lt_of_lt_of_le hb hX.size)
  have HMx := Lib.hid (rmuch_any A c xs w hA hlx)
  have HMy := Lib.hid (fun X (hX : Mod (fun _ => False) w X) => rmuch_any By cy ys X (HB.out X hX) hly)
  have hFx := Lib.hid (kat1 xs)
  have hFy := Lib.hid (kat1 ys)
  obtain ⟨n, hn⟩ : ∃ n, n = xs.length := ⟨_, rfl⟩
  obtain ⟨m, hm⟩ : ∃ m, m = ys.length := ⟨_, rfl⟩
  obtain ⟨z1, hz1⟩ : ∃ z, z = muchB xs := ⟨_, rfl⟩
  obtain ⟨z2, hz2⟩ : ∃ z, z = muchB ys := ⟨_, rfl⟩
  rw [← hn] at HMx ⊢
  rw [← hm] at HMy ⊢
  rw [← hz1] at HMx hFx
  rw [← hz2] at HMy hFy
  have HN := Lib.hid hn
  have HM' := Lib.hid hm
  clear hn hm hz1 hz2 hA hB hlx hly
  cases z1
  case' true =>
    go_enter Try.func6, Try.ntmps6
    go_wp2_with (first
      | (go_at_call 14; (with_reducible refine HMx.out.mono ?_); rintro e w1 ⟨rfl, hm1⟩)
      | (go_at_call 13; refine (HK.out _).mono ?_; rintro e w' ⟨rfl, hm⟩)
      | fail)
    go_ret
    exact ⟨rfl, hm1.trans' hm⟩
  have hfx := hFx.out rfl
  have hn120 : n ≤ 120 := by have := HN.out; have := hfx.1; omega
  cases z2
  case' true =>
    clear hfx
    go_enter Try.func6, Try.ntmps6
    go_wp2_with (first
      | (go_at_call 14; (with_reducible refine HMx.out.mono ?_); rintro e w1 ⟨rfl, hm1⟩)
      | (go_at_call 14; (with_reducible refine (HMy.out _ hm1).mono ?_); rintro e w2 ⟨rfl, hm2⟩)
      | (go_at_call 13; refine (HK.out _).mono ?_; rintro e w' ⟨rfl, hm⟩)
      | fail)
    go_ret
    exact ⟨rfl, (hm1.trans' hm2).trans' hm⟩
  have hfy := hFy.out rfl
  have hm120 : m ≤ 120 := by have := HM'.out; have := hfy.1; omega
  by_cases h9 : 9000 < nm.length
  · clear hfx hfy
    go_enter Try.func6, Try.ntmps6
    go_wp2_with (first
      | (go_at_call 14; (with_reducible refine HMx.out.mono ?_); rintro e w1 ⟨rfl, hm1⟩)
      | (go_at_call 14; (with_reducible refine (HMy.out _ hm1).mono ?_); rintro e w2 ⟨rfl, hm2⟩)
      | (go_at_call 13; refine (HK.out _).mono ?_; rintro e w' ⟨rfl, hm⟩)
      | fail)
    go_ret
    exact ⟨rfl, (hm1.trans' hm2).trans' hm⟩
  have hd9 : decide (9000 < (nm.length : Int)) = false := by rw [decide_eq_false_iff_not]; omega
  have hxl : xs.length ≤ 1099511627776 := by have := hfx.1; omega
  have hyl : ys.length ≤ 1099511627776 := by have := hfy.1; omega
  have hxm : xs.length ≤ maxLen := by unfold maxLen; omega
  have hym : ys.length ≤ maxLen := by unfold maxLen; omega
  obtain ⟨E, hE⟩ : ∃ E, E = chgE xs ys := ⟨_, rfl⟩
  obtain ⟨R, hR⟩ : ∃ R, R = chgR xs ys := ⟨_, rfl⟩
  obtain ⟨S, hS⟩ : ∃ S, S = sortA xs := ⟨_, rfl⟩
  have hC1 := fun X hX => achange_any A By c cy xs ys X (HA.out X hX) (HB.out X hX) hxl hyl hfx.fitA hfy.fitA
  have hC2 := fun X hX => rchange_any A By c cy xs ys X (HA.out X hX) (HB.out X hX) hxl hyl hfx.fitA hfy.fitA
  have hC3 := fun X hX => asorted_any _ A c xs X (HA.out X hX) hxl
  have hC4 := fun X hX => rsorted_any A c xs X (HA.out X hX) hxl
  unfold ChgEnds at hC1
  unfold RchgEnds at hC2
  rw [← hE, ← hR, ← HN.out, ← HM'.out] at hC1 hC2
  rw [← hS, ← HN.out] at hC3 hC4
  have hRl : R.length ≤ 1000 := by
    rw [hR]
    have h1 := chgA_len xs ys
    have h2 := HN.out
    have h3 := HM'.out
    unfold chgR
    split
    · omega
    · simp
  have hSl : S.length ≤ 1000 := by rw [hS]; have := sortA_len xs; have := HN.out; omega
  obtain ⟨r, hr⟩ : ∃ r, r = R.length := ⟨_, rfl⟩
  obtain ⟨s, hs⟩ : ∃ s, s = S.length := ⟨_, rfl⟩
  rw [← hr] at hC1
  rw [← hs] at hC3
  have HC1 := Lib.hid hC1
  have HC2 := Lib.hid hC2
  have HC3 := Lib.hid hC3
  have HC4 := Lib.hid hC4
  have HRl := Lib.hid (And.intro hr hRl)
  have HSl := Lib.hid (And.intro hs hSl)
  have hEE : ((E : Int) != (E : Int)) = false := by simp
  have hEE2 : ((E : Int) == (E : Int)) = true := by simp
  have HHas := Lib.hid (fun y X (hX : Mod (fun _ => False) w X) => has_any _ A c xs y X (HA.out X hX) hxm (fun b hb => hb))
  have HHe := Lib.hid (fun y X (hX : Mod (fun _ => False) w X) => ehas_any _ A c xs y X (HA.out X hX) (fun b hb => hb) hxm)
  have HLs := Lib.hid (fun x y X => rless_any x y X)
  have HCm := Lib.hid (fun x y X => ecompare_any x y X)
  unfold At.val at HHas HHe HLs HCm
  have HCp := Lib.hid (fun A2 c2 X (h : Rd (fun b => b < X.heap.size) X 2 At.cs A2 xs) => ecopy_any nm A2 c2 xs X h hxl)
  have HSm := Lib.hid (fun A2 c2 X (hX : Mod (fun _ => False) w X) (h : Rd (fun b => b < X.heap.size) X 2 At.cs A2 xs) => sameAttrs_any _ _ A2 A c2 c xs xs X h (HA.out X hX) hxm hxm (fun b hb => hb) (fun b hb => hb))
  have HE1 := Lib.hid (fun A2 c2 X (hX : Mod (fun _ => False) w X) (h : Rd (fun b => b < X.heap.size) X 2 At.cs A2 xs) => esame_any nm nm A2 By c2 cy xs ys X h (HB.out X hX) hxm hym)
  have HE2 := Lib.hid (fun A2 c2 X (hX : Mod (fun _ => False) w X) (h : Rd (fun b => b < X.heap.size) X 2 At.cs A2 xs) => rsame_any nm nm A2 By c2 cy xs ys X h (HB.out X hX) hxm hym)
  have HE3 := Lib.hid (fun A2 c2 X (h : Rd (fun b => b < X.heap.size) X 2 At.cs A2 xs) => esame_any nm nm A2 A2 c2 c2 xs xs X h h hxm hxm)
  have hs3 : sameE nm nm xs xs = true := by unfold sameE; simp
  rw [hs3, ← HN.out] at HE3
  rw [decide_eq_true rfl, ← HN.out] at HSm
  rw [← HN.out, ← HM'.out] at HE1 HE2
  rw [← HN.out] at HHas HHe HCp
  generalize sameE nm nm xs ys = zz at *
  have hzz : (zz == zz) = true := by simp
  clear hC1 hC2 hC3 hC4 hE hR hS hr hs hRl hSl hfx hfy hFx hFy hxl hyl hxm hym hs3
  go_enter Try.func6, Try.ntmps6
  go_wp2_with (first
    | (go_at_call 14; (with_reducible refine HMx.out.mono ?_); rintro e w1 ⟨rfl, hm1⟩; have HM1 := Lib.hid hm1; clear hm1)
    | (go_at_call 14; (with_reducible refine (HMy.out _ HM1.out).mono ?_); rintro e w2 ⟨rfl, hm2⟩; have HM2 := Lib.hid (HM1.out.trans' hm2); clear hm2)
    | (go_at_call 8
       (with_reducible refine (HC1.out _ HM2.out).mono ?_)
       rintro e w3 ⟨A3, c3, rfl, hown, hm3⟩
       have HM3 := Lib.hid (HM2.out.trans' hm3)
       obtain ⟨A3', c3', hv3, hr3, hf3, -⟩ := hown.rd At.cs_len
       injection hv3 with hx1 hx2 hx3
       rw [← hx1] at hr3
       have HRd3 := Lib.hid hr3
       have HFr3 := Lib.hid (fun b hb => (hf3 b hb).2)
       clear hm3 hown hr3 hf3 hx1 hx2 hx3)
    | (go_at_call 23
       (with_reducible refine (HC2.out _ HM3.out).mono ?_)
       rintro e w4 ⟨v4, rfl, ⟨A4, c4, rfl, hr4, -⟩, hm4⟩
       have HM4 := Lib.hid (HM3.out.trans' hm4)
       have hsa := sameAttrs_any _ _ A3 A4 c3 c4 R R w4 (HRd3.out.mod hm4 (fun b hb => ⟨HFr3.out b hb, id⟩)) hr4 (by have := HRl.out.2; unfold maxLen; omega) (by have := HRl.out.2; unfold maxLen; omega) (fun b hb => Nat.lt_of_lt_of_le (HFr3.out b hb) hm4.size) (fun b hb => hb)
       rw [decide_eq_true rfl, ← HRl.out.1] at hsa
       rw [← HRl.out.1]
       have HSa := Lib.hid hsa
       clear hm4 hr4 hsa)
    | (go_at_call 20
       (with_reducible refine HSa.out.mono ?_)
       rintro e w5 ⟨rfl, hm5⟩
       have HM5 := Lib.hid (HM4.out.trans' hm5)
       clear hm5)
    | (go_at_call 12; refine (num_any _ _).mono ?_; rintro e w' ⟨rfl, rfl⟩)
    | (go_at_call 24
       (with_reducible refine (HC3.out _ HM5.out).mono ?_)
       rintro e w6 ⟨A6, c6, rfl, hown, hm6⟩
       have HM6 := Lib.hid (HM5.out.trans' hm6)
       obtain ⟨A6', c6', hv6, hr6, hf6, -⟩ := hown.rd At.cs_len
       injection hv6 with hx1 hx2 hx3
       rw [← hx1] at hr6
       have HRd6 := Lib.hid hr6
       have HFr6 := Lib.hid (fun b hb => (hf6 b hb).2)
       clear hm6 hown hr6 hf6 hx1 hx2 hx3)
    | (go_at_call 25
       (with_reducible refine (HC4.out _ HM6.out).mono ?_)
       rintro e w7 ⟨v7, rfl, ⟨A7, c7, rfl, hr7, -⟩, hm7⟩
       have HM7 := Lib.hid (HM6.out.trans' hm7)
       have hsa := sameAttrs_any _ _ A6 A7 c6 c7 S S w7 (HRd6.out.mod hm7 (fun b hb => ⟨HFr6.out b hb, id⟩)) hr7 (by have := HSl.out.2; unfold maxLen; omega) (by have := HSl.out.2; unfold maxLen; omega) (fun b hb => Nat.lt_of_lt_of_le (HFr6.out b hb) hm7.size) (fun b hb => hb)
       rw [decide_eq_true rfl, ← HSl.out.1] at hsa
       rw [← HSl.out.1]
       have HSb := Lib.hid hsa
       clear hm7 hr7 hsa)
    | (go_at_call 20
       (with_reducible refine HSb.out.mono ?_)
       rintro e w8 ⟨rfl, hm8⟩
       have HM8 := Lib.hid (HM7.out.trans' hm8)
       clear hm8)
    | fail)
  go_loopw [11, 12] (fun i _ wr => ∃ k : Nat, k ≤ n ∧ k ≤ m ∧ i = .int .i64 k ∧ Mod (fun _ => False) w wr) (fun i _ _ => n - (intOf i).toNat)
  case atStart => exact ⟨0, by omega, by omega, rfl, HM8.out⟩
  case round =>
    obtain ⟨k, hkn, hkm, rfl, hm⟩ := hrel
    have HM := Lib.hid hm
    clear hm
    by_cases hlt : k < n ∧ k < m
    · obtain ⟨hlt1, hlt2⟩ := hlt
      have hkx : k < xs.length := by rw [← HN.out]; exact hlt1
      have hky : k < ys.length := by rw [← HM'.out]; exact hlt2
      obtain ⟨b1, o1, rfl, -, p0, p1⟩ := rd2 (HA.out _ HM.out) hkx
      obtain ⟨b2, o2, rfl, -, q0, q1⟩ := rd2 (HB.out _ HM.out) hky
      obtain ⟨x, hx⟩ : ∃ x, x = xs[k] := ⟨_, rfl⟩
      obtain ⟨y, hy⟩ : ∃ y, y = ys[k] := ⟨_, rfl⟩
      rw [← hx] at p0 p1
      rw [← hy] at q0 q1
      have hin : decide (x ∈ xs) = true := by rw [decide_eq_true_eq, hx]; exact List.getElem_mem hkx
      have HH1 := Lib.hid (fun X hX => HHe.out x X hX)
      have HH2 := Lib.hid (fun X hX => HHe.out y X hX)
      have HH3 := Lib.hid (fun X hX => HHas.out y X hX)
      rw [hin] at HH1
      have HL1 := Lib.hid (fun X => HLs.out x y X)
      have HL2 := Lib.hid (fun X => HLs.out y x X)
      have HC := Lib.hid (fun X => HCm.out x y X)
      generalize decide (y ∈ xs) = d at *
      have hdd : (d != d) = false := by simp
      have HP := Lib.hid (fun X (hX : Mod (fun _ => False) wr X) => And.intro (And.intro ((hX.cell (p := ⟨b1, o1 + k * 2, none⟩) (World.block_lt_of_cell? wr _ p0) id).trans p0) ((hX.cell (p := ⟨b1, o1 + k * 2 + 1, none⟩) (World.block_lt_of_cell? wr _ p1) id).trans p1))
        (And.intro ((hX.cell (p := ⟨b2, o2 + k * 2, none⟩) (World.block_lt_of_cell? wr _ q0) id).trans q0) ((hX.cell (p := ⟨b2, o2 + k * 2 + 1, none⟩) (World.block_lt_of_cell? wr _ q1) id).trans q1)))
      clear hx hy hin p0 p1 q0 q1
      obtain ⟨l1, hl1⟩ : ∃ l1, l1 = ltA x y := ⟨_, rfl⟩
      obtain ⟨l2, hl2⟩ : ∃ l2, l2 = ltA y x := ⟨_, rfl⟩
      obtain ⟨q, hq⟩ : ∃ q, q = cmpA x y := ⟨_, rfl⟩
      have hqq : q = if l2 then 1 else if l1 then -1 else 0 := by
        rw [hq, hl1, hl2]
        cases h2 : ltA y x
        · cases h1 : ltA x y
          · simp; exact cmp_eq h1 h2
          · simp; exact cmp_lt h1
        · simp; exact cmp_gt h2
      rw [← hl1] at HL1
      rw [← hl2] at HL2
      rw [← hq] at HC
      clear hl1 hl2 hq
      obtain ⟨xT, xV⟩ := x
      obtain ⟨yT, yV⟩ := y
      simp only at HL1 HL2 HC HH1 HH2 HH3
      cases l1 <;> cases l2
      all_goals
        simp only [if_true, if_false, Bool.false_eq_true] at hqq
        subst hqq
        go_wp2
        obtain ⟨⟨p0', p1'⟩, q0', q1'⟩ := HP.out _ (Mod.refl _ _)
        have p0 := cell_regrown p0'
        have p1 := cell_regrown p1'
        have q0 := cell_regrown q0'
        have q1 := cell_regrown q1'
        clear p0' p1' q0' q1'
        refine wp_region_quiet_below (by kernel_rfl) (by kernel_rfl) ?_
        repeat (go_big_quiet_step ((first
          | (go_at_call 26; with_reducible exact regM fun X _ => (HL1.out X).mono fun _ _ ⟨he, hm⟩ => ⟨he, by rw [← hm]; (repeat' (first | exact Mod.refl _ _ | assumption | refine Mod.alloc ?_ _ | refine Mod.drew ?_ | refine Mod.drewN ?_ _ | refine Mod.setCell ?_ (by first | exact Or.inl rfl | (right; simp; done) | (right; simp; omega) | (left; simp; done)) _))⟩)
          | fail)))
        refine wpQuiet_nil ?_
        intro W1 hW1
        have HR1 := Lib.hid (mod_of_regrown hW1)
        clear hW1 p0 p1 q0 q1
        go_wp2
        obtain ⟨⟨p0', p1'⟩, q0', q1'⟩ := HP.out _ HR1.out
        have p0 := cell_regrown p0'
        have p1 := cell_regrown p1'
        have q0 := cell_regrown q0'
        have q1 := cell_regrown q1'
        clear p0' p1' q0' q1'
        refine wp_region_quiet_below (by kernel_rfl) (by kernel_rfl) ?_
        repeat (go_big_quiet_step ((first
          | (go_at_call 26; with_reducible exact regM fun X _ => (HL2.out X).mono fun _ _ ⟨he, hm⟩ => ⟨he, by rw [← hm]; (repeat' (first | exact Mod.refl _ _ | assumption | refine Mod.alloc ?_ _ | refine Mod.drew ?_ | refine Mod.drewN ?_ _ | refine Mod.setCell ?_ (by first | exact Or.inl rfl | (right; simp; done) | (right; simp; omega) | (left; simp; done)) _))⟩)
          | fail)))
        refine wpQuiet_nil ?_
        intro W2 hW2
        have HR2 := Lib.hid (HR1.out.trans' (mod_of_regrown hW2))
        clear hW2 p0 p1 q0 q1
        go_wp2
        obtain ⟨⟨p0', p1'⟩, q0', q1'⟩ := HP.out _ HR2.out
        have p0 := cell_regrown p0'
        have p1 := cell_regrown p1'
        have q0 := cell_regrown q0'
        have q1 := cell_regrown q1'
        clear p0' p1' q0' q1'
        refine wp_region_quiet_below (by kernel_rfl) (by kernel_rfl) ?_
        repeat (go_big_quiet_step ((first
          | (go_at_call 27; with_reducible exact regM fun X _ => (HC.out X).mono fun _ _ ⟨he, hm⟩ => ⟨he, by rw [← hm]; (repeat' (first | exact Mod.refl _ _ | assumption | refine Mod.alloc ?_ _ | refine Mod.drew ?_ | refine Mod.drewN ?_ _ | refine Mod.setCell ?_ (by first | exact Or.inl rfl | (right; simp; done) | (right; simp; omega) | (left; simp; done)) _))⟩)
          | (go_at_call 21; with_reducible exact regM fun X hX => HH1.out X ((HM.out.trans' HR2.out).trans' hX))
          | (go_at_call 21; with_reducible exact regM fun X hX => HH2.out X ((HM.out.trans' HR2.out).trans' hX))
          | (go_at_call 22; with_reducible exact regM fun X hX => HH3.out X ((HM.out.trans' HR2.out).trans' hX))
          | fail)))
        refine wpQuiet_nil ?_
        intro W3 hW3
        have HR3 := Lib.hid (HM.out.trans' (HR2.out.trans' (mod_of_regrown hW3)))
        clear hW3 p0 p1 q0 q1
        go_wp2
        exact ⟨⟨k + 1, by omega, by omega, by go_num, HR3.out⟩, by simp only [intOf]; omega⟩
    · have hlt0 := hlt
      rcases (show k = n ∨ (k < n ∧ k = m) by omega) with he | ⟨he1, he⟩
      case' inl => have hx1 : ¬ k < n := by omega
      case' inr =>
        have hx1 : k < n := by omega
        have hx2 : ¬ k < m := by omega
      all_goals
        clear hlt hlt0
        try clear he1
        clear he
        have HRx := Lib.hid (HA.out _ HM.out)
        go_wp2_with (first
          | (at_builtin
             refine wpList_app (base := w.heap.size) (xs := []) (ys := xs) (D := fun b => b < wr.heap.size) (v := .slice none 0 0) rfl (.const (.slice none 0 0)) (.tmp 125) rfl ats_t At.cs_len At.cs_one rfl (OwnS.nil _ _ _ _ _) _ rfl HN.out HRx.out ?_ ?_ HM.out.size ?_
             · rw [List.length_nil, Nat.zero_add, ← HN.out]; unfold maxLen; omega
             · rw [List.length_nil, Nat.zero_add, ← HN.out]; omega
             intro v' w9 hown hm3 hat
             rw [List.nil_append] at hown
             have HM9 := Lib.hid (HM.out.trans hm3 (fun b h => by cases h))
             obtain ⟨A8, c8, hv8, hr8, hf8, -⟩ := hown.rd At.cs_len
             rw [← HN.out] at hv8
             subst hv8
             have HRd8 := Lib.hid hr8
             have HFr8 := Lib.hid (fun b hb => (hf8 b hb).2)
             clear hown hm3 hat hr8 hf8)
          | (go_at_call 28
             refine (HCp.out A8 c8 _ ?_).mono ?_
             · exact (HRd8.out.mod (C := fun _ => False) (by (repeat' (first | exact Mod.refl _ _ | assumption | refine Mod.alloc ?_ _ | refine Mod.drew ?_ | refine Mod.drewN ?_ _ | refine Mod.setCell ?_ (by first | exact Or.inl rfl | (right; simp; done) | (right; simp; omega) | (left; simp; done)) _))) (fun b hb => ⟨HFr8.out b hb, id⟩)).mono fun b hb => by have := HFr8.out b hb; simp; omega
             rintro e w10 ⟨A10, c10, rfl, hown, hm10⟩
             have HO10 := Lib.hid hown
             have HM10 := Lib.hid hm10
             clear hown hm10)
          | fail)
        have hz10 : w9.heap.size + 2 ≤ w10.heap.size := by have h5 := HM10.out.size; simp at h5; omega
        have HBa := Lib.hid (hp_mod (show ((w9.alloc (.cells #[.string ⟨nm.toArray⟩, .slice A8 n c8] 35)).alloc (.cells #[.string ⟨nm.toArray⟩, .slice By m cy] 35)).heap[w9.heap.size]? = some (.cells #[.string ⟨nm.toArray⟩, .slice A8 n c8] 35 (0, 0)) by (repeat' (first | exact hp_new _ _ | exact hp_at _ _ (by simp; done) | refine hp_alloc ?_ _ | refine hp_drew ?_ | refine hp_drewN ?_ _ | apply hp_set | refine hp_far ?_ (by first | (simp; omega) | (simp; done)) _))) HM10.out id)
        have HBb := Lib.hid (hp_mod (show ((w9.alloc (.cells #[.string ⟨nm.toArray⟩, .slice A8 n c8] 35)).alloc (.cells #[.string ⟨nm.toArray⟩, .slice By m cy] 35)).heap[w9.heap.size + 1]? = some (.cells #[.string ⟨nm.toArray⟩, .slice By m cy] 35 (0, 0)) by (repeat' (first | exact hp_new _ _ | exact hp_at _ _ (by simp; done) | refine hp_alloc ?_ _ | refine hp_drew ?_ | refine hp_drewN ?_ _ | apply hp_set | refine hp_far ?_ (by first | (simp; omega) | (simp; done)) _))) HM10.out id)
        have HMw := Lib.hid (((HM9.out.alloc _).alloc _).trans' HM10.out)
        have HR9 := Lib.hid ((((Mod.refl (fun _ => False) w9).alloc _).alloc _).trans' HM10.out)
        refine wp_asE (fun W => W.heap[w9.heap.size]? = some (.cells #[.string ⟨nm.toArray⟩, .slice A8 n c8] 35 (0, 0)) ∧ W.heap[w9.heap.size + 1]? = some (.cells #[.string ⟨nm.toArray⟩, .slice By m cy] 35 (0, 0)) ∧ W.heap[w10.heap.size]? = some (.cells #[.string ⟨nm.toArray⟩, .slice A10 n c10] 35 (0, 0)) ∧
          OwnS (w9.heap.size + 2) 25 2 At.cs W (.slice A10 n c10) xs ∧ Mod (fun _ => False) w10 W) ⟨by (repeat' (first | exact HBa.out | exact hp_new _ _ | refine hp_alloc ?_ _ | refine hp_drew ?_ | refine hp_drewN ?_ _ | apply hp_set | refine hp_far ?_ (by first | (simp; omega) | (simp; done)) _)), by (repeat' (first | exact HBb.out | exact hp_new _ _ | refine hp_alloc ?_ _ | refine hp_drew ?_ | refine hp_drewN ?_ _ | apply hp_set | refine hp_far ?_ (by first | (simp; omega) | (simp; done)) _)), by (repeat' (first | exact hp_new _ _ | exact hp_at _ _ (by simp; done) | refine hp_alloc ?_ _ | refine hp_drew ?_ | refine hp_drewN ?_ _ | apply hp_set | refine hp_far ?_ (by first | (simp; omega) | (simp; done)) _)), (HO10.out.mod ((Mod.refl (fun _ => False) w10).alloc _) (fun b _ => id)).less (by simp), by (repeat' (first | exact Mod.refl _ _ | assumption | refine Mod.alloc ?_ _ | refine Mod.drew ?_ | refine Mod.drewN ?_ _ | refine Mod.setCell ?_ (by first | exact Or.inl rfl | (right; simp; done) | (right; simp; omega) | (left; simp; done)) _))⟩ ?_
        rintro W ⟨ha, hb, hc, hown, hm11⟩
        have HA' := Lib.hid ha
        have HB' := Lib.hid hb
        have HC' := Lib.hid hc
        have HO' := Lib.hid hown
        have HM11 := Lib.hid (HMw.out.trans' hm11)
        have HR11 := Lib.hid (HR9.out.trans' hm11)
        have HFo := Lib.hid (fun b (hb : (Value.slice A10 n c10).ownBlock = some b) => And.intro (HO10.out.fresh b hb) (hown.fresh b hb).1)
        clear ha hb hc hown hm11
        go_loopw [16] (fun i wr2 => ∃ (q : Nat) (zs : List At), q ≤ n ∧ i = .int .i64 q ∧ zs.length = n ∧ OwnS (w9.heap.size + 2) 25 2 At.cs wr2 (.slice A10 n c10) zs ∧ Mod (fun b => (Value.slice A10 n c10).ownBlock = some b) W wr2) (fun i _ => n - (intOf i).toNat)
        case atStart => exact ⟨0, xs, by omega, rfl, HN.out.symm, HO'.out, Mod.refl _ _⟩
        case round =>
          obtain ⟨q, zs, hq, rfl, hzl, hown, hm⟩ := hrel
          have HOw := Lib.hid hown
          have HMq := Lib.hid hm
          have HZl := Lib.hid hzl
          have hna : ∀ b, b < w9.heap.size + 2 → ¬ (Value.slice A10 n c10).ownBlock = some b := fun b hb h => by have := (HFo.out b h).2; omega
          have hnc : ¬ (Value.slice A10 n c10).ownBlock = some w10.heap.size := fun h => by have := (HFo.out _ h).1.2; omega
          have hbc := hp_mod HC'.out hm hnc
          have t0 := hp_cell hbc 0
          have t1 := hp_cell hbc 1
          simp only [List.getElem?_toArray, List.getElem?_cons_succ, List.getElem?_cons_zero] at t0 t1
          by_cases hqn : q < n
          · obtain ⟨gb, c11, hv, hbg, hgl, hfz⟩ := hown.at_ (by omega)
            injection hv with hv1 hv2 hv3
            clear hv2 hv3
            subst hv1
            have hqz : q < zs.length := by omega
            obtain ⟨z, hz⟩ : ∃ z, z = zs[q] := ⟨_, rfl⟩
            have r0 := hown.cell At.cs_len (by rw [hzl]) (k := q) hqz (j := 0) (u := .string ⟨z.T.toArray⟩) (by rw [hz]; rfl)
            rw [Nat.add_zero] at r0
            have f0 := hfz (q * 2)
            have HZ := Lib.hid (show ∃ h : q < zs.length, z = zs[q] from ⟨hqz, hz⟩)
            clear hz hown hm hzl hfz hna hnc hbc
            go_wp2
            have ho3 := HOw.out.set1 At.cs_len (k := q) (j := 0) HZl.out.symm hqn (by decide) (u := .string ⟨#[120]⟩) (y := ⟨[120], z.V⟩) (by rw [← HZ.out.2]; rfl)
            rw [Nat.add_zero] at ho3
            exact ⟨⟨q + 1, zs.set q ⟨[120], z.V⟩, by omega, by go_num, by rw [List.length_set]; exact HZl.out, ho3, HMq.out.setCell (p := ⟨gb, q * 2, none⟩) (.inl rfl) _⟩, by simp only [intOf]; omega⟩
          · obtain rfl : q = n := by omega
            have HMf := Lib.hid (HM11.out.trans hm (fun b h => .inr (by have := (HFo.out b h).2; have := HM9.out.size; omega)))
            have hba := hp_mod HA'.out hm (hna _ (by omega))
            have hbb := hp_mod HB'.out hm (hna _ (by omega))
            have u0 := cell_regrown (hp_cell hba 0)
            have u1 := cell_regrown (hp_cell hba 1)
            have v0 := cell_regrown (hp_cell hbb 0)
            have v1 := cell_regrown (hp_cell hbb 1)
            have s0 := cell_regrown t0
            have s1 := cell_regrown t1
            have HRd := Lib.hid (((HRd8.out.mod HR11.out (fun b hb => ⟨HFr8.out b hb, id⟩)).mod hm (fun b hb => ⟨Nat.lt_of_lt_of_le (HFr8.out b hb) HR11.out.size, hna b (by have := HFr8.out b hb; omega)⟩)).mono (D' := fun b => b < wr.heap.size) fun b hb => Nat.lt_of_lt_of_le (Nat.lt_of_lt_of_le (HFr8.out b hb) HR11.out.size) hm.size)
            have HRX := Lib.hid (fun X (hX : Mod (fun _ => False) wr X) => (HRd.out.mod hX (fun b hb => ⟨hb, id⟩)).mono (D' := fun b => b < X.heap.size) fun b hb => Nat.lt_of_lt_of_le hb hX.size)
            have hnn : (nm == nm) = true := by simp
            clear hown hm hzl hna hnc hbc hba hbb t0
            go_wp2
            refine wp_region_quiet_below (by kernel_rfl) (by kernel_rfl) ?_
            repeat (go_big_quiet_step ((first
              | (go_at_call 20;  with_reducible exact regM fun X hX => HSm.out A8 c8 X (HMf.out.trans' hX) (HRX.out X hX))
              | (go_at_call 29;  with_reducible exact regM fun X hX => HE1.out A8 c8 X (HMf.out.trans' hX) (HRX.out X hX))
              | (go_at_call 30;  with_reducible exact regM fun X hX => HE2.out A8 c8 X (HMf.out.trans' hX) (HRX.out X hX))
              | (go_at_call 29;  with_reducible exact regM fun X hX => HE3.out A8 c8 X (HRX.out X hX))
              | (go_at_call 13;  with_reducible exact regM fun X _ => HK.out X)
              | fail)))
            refine wpQuiet_nil ?_
            intro W1 hW1
            have HMz := Lib.hid (HMf.out.trans' (mod_of_regrown hW1))
            clear hW1 u0 u1 v0 v1 s0 s1
            go_wp2
            go_ret
            exact ⟨rfl, HMz.out⟩
end Go.Proofs.Ytccnkcaagigceaa
