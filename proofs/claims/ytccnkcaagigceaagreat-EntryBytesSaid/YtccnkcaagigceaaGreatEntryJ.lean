/-
  entry.Change.
-/
import Derived.Test.YtccnkcaagigceaaGreatEntryI
namespace Go.Proofs.YtccnkcaagigceaaGreat
open Go.RowKit Go.Shelf
attribute [local go_sem] Oper.semAt_some

def ChgEnds (w : World) (xs ys : List At) (e : Ending) (w' : World) : Prop :=
  ∃ A' c', e = .returned (.tuple #[.slice A' (chgR xs ys).length c', .int .i64 (chgE xs ys : Nat)]) ∧ OwnS w.heap.size 52 2 At.cs w' (.slice A' (chgR xs ys).length c') (chgR xs ys) ∧ Mod (fun _ => False) w w'
theorem chg_bad {w w' : World} {xs ys : List At} {n : Nat} (h : chgE xs ys = n) (hn : n ≠ 0) (hm : Mod (fun _ => False) w w') : ChgEnds w xs ys (.returned (.tuple #[.slice none 0 0, .int .i64 (n : Int)])) w' := by
  have hr : chgR xs ys = [] := by unfold chgR; rw [if_neg (by omega)]
  refine ⟨none, 0, by rw [hr, h]; rfl, by rw [hr]; exact OwnS.nil _ _ _ _ _, hm⟩
theorem adds_snoc (ys : List At) (k : Nat) (h : k < ys.length) : adds (ys.take (k + 1)) = adds (ys.take k) ++ (if ys[k].V = [] then [] else [ys[k]]) := by
  unfold adds
  rw [List.take_succ_eq_append_getElem h, List.filter_append]
  by_cases hv : ys[k].V = [] <;> simp [hv]
set_option maxRecDepth 100000 in
set_option maxHeartbeats 4000000 in
theorem achange_any (A By : Option Addr) (c cy : Nat) (xs ys : List At) (w : World) (hA : Rd (fun b => b < w.heap.size) w 2 At.cs A xs) (hB : Rd (fun b => b < w.heap.size) w 2 At.cs By ys)
    (hl : xs.length ≤ 1099511627776) (hl2 : ys.length ≤ 1099511627776) (hf : ∀ a ∈ xs, FitA a) (hf2 : ∀ a ∈ ys, FitA a) :
    Calls Tryz.prog 21 #[.slice A xs.length c, .slice By ys.length cy] w (ChgEnds w xs ys) := by
  have HA := Lib.hid (fun X (hX : Mod (fun _ => False) w X) => (hA.mod hX (fun b hb => ⟨hb, id⟩)).mono (D' := fun b => b < X.heap.size) fun b hb => Nat.lt_of_lt_of_le hb hX.size)
  have HB := Lib.hid (fun X (hX : Mod (fun _ => False) w X) => hB.mod hX (fun b hb => ⟨hb, id⟩))
  have HMy := Lib.hid (fun X (hX : Mod (fun _ => False) w X) => emays_any A c xs X (HA.out X hX) hl hf)
  have HBad := Lib.hid (fun X (hX : Mod (fun _ => False) w X) => acontains_any 41 #[] (fun a => !mayA a) _ By cy ys (fun _ => False) X X enters1 (fun x hx Y _ => bad_any x Y (hf2 x hx)) (Mod.refl _ _) (HB.out X hX) (fun b hb => Nat.lt_of_lt_of_le hb hX.size) (by unfold maxLen; omega))
  have HCl := Lib.hid (fun X (hX : Mod (fun _ => False) w X) => aclone_any _ A c xs X (HA.out X hX) hl)
  obtain ⟨n, hn⟩ : ∃ n, n = xs.length := ⟨_, rfl⟩
  obtain ⟨m, hm⟩ : ∃ m, m = ys.length := ⟨_, rfl⟩
  rw [← hn] at HMy HCl ⊢
  rw [← hm] at HBad ⊢
  have HN := Lib.hid hn
  have HM0 := Lib.hid hm
  obtain ⟨m1, hm1⟩ : ∃ z, z = mayAs xs := ⟨_, rfl⟩
  obtain ⟨b1, hb1⟩ : ∃ z, z = ys.any (fun a => !mayA a) := ⟨_, rfl⟩
  have HX50 := Lib.hid (show m1 = true → xs.length ≤ 50 from fun h => ((mayAs_iff xs).1 (by rw [← hm1]; exact h)).1)
  rw [← hm1] at HMy
  rw [← hb1] at HBad
  have HE := Lib.hid (show chgE xs ys = if !m1 || decide (50 < m) || b1 then 2 else if 50 < (chgA xs ys).length then 10 else 0 by unfold chgE; rw [← hm1, ← hb1, ← hm])
  have HL := Lib.hid hl
  have HL2 := Lib.hid hl2
  rw [← hn] at hl
  rw [← hm] at hl2
  clear hn hm hm1 hb1 hA hB hf hf2
  cases m1
  · have hbad := Lib.hid (show chgE xs ys = 2 by rw [HE.out]; rfl)
    go_enter Tryz.func21, Tryz.ntmps21
    go_wp2_with (first
      | (go_at_call 36; refine (HMy.out _ (by (repeat' (first | exact Mod.refl _ _ | assumption | refine Mod.alloc ?_ _ | refine Mod.drew ?_ | refine Mod.drewN ?_ _ | refine Mod.setCell ?_ (by first | exact Or.inl rfl | (right; simp; done) | (right; simp; omega) | (left; simp; done)) _)))).mono ?_; rintro e w' ⟨rfl, hm⟩)
      | fail)
    go_ret2
    exact chg_bad (n := 2) hbad.out (by decide) (Mod.trans' ((Mod.refl _ w).alloc _) hm)
  by_cases h50 : 50 < m
  · have hbad := Lib.hid (show chgE xs ys = 2 by rw [HE.out]; simp [h50])
    go_enter Tryz.func21, Tryz.ntmps21
    go_wp2_with (first
      | (go_at_call 36
         refine (HMy.out _ (by (repeat' (first | exact Mod.refl _ _ | assumption | refine Mod.alloc ?_ _ | refine Mod.drew ?_ | refine Mod.drewN ?_ _ | refine Mod.setCell ?_ (by first | exact Or.inl rfl | (right; simp; done) | (right; simp; omega) | (left; simp; done)) _)))).mono ?_
         rintro e w' ⟨rfl, hm⟩
         have c0 := (hm.cell (p := ⟨w.heap.size, 0, none⟩) (by simp) id).trans (hp_cell (hp_new _ _) 0)
         simp only [List.getElem?_toArray, List.getElem?_cons_zero] at c0)
      | fail)
    go_ret2
    exact chg_bad (n := 2) hbad.out (by decide) (Mod.trans' ((Mod.refl _ w).alloc _) hm)
  cases b1
  case' true =>
    have hbad := Lib.hid (show chgE xs ys = 2 by rw [HE.out]; simp)
    go_enter Tryz.func21, Tryz.ntmps21
    go_wp2_with (first
      | (go_at_call 36
         refine (HMy.out _ (by (repeat' (first | exact Mod.refl _ _ | assumption | refine Mod.alloc ?_ _ | refine Mod.drew ?_ | refine Mod.drewN ?_ _ | refine Mod.setCell ?_ (by first | exact Or.inl rfl | (right; simp; done) | (right; simp; omega) | (left; simp; done)) _)))).mono ?_
         rintro e w1 ⟨rfl, hm⟩
         have c0 := (hm.cell (p := ⟨w.heap.size, 0, none⟩) (by simp) id).trans (hp_cell (hp_new _ _) 0)
         simp only [List.getElem?_toArray, List.getElem?_cons_zero] at c0
         have HM1 := Lib.hid (Mod.trans' ((Mod.refl _ w).alloc _) hm)
         clear hm)
      | (go_at_call 43; refine (HBad.out _ HM1.out).mono ?_; rintro e w2 ⟨rfl, hm⟩)
      | fail)
    go_ret2
    exact chg_bad (n := 2) hbad.out (by decide) (HM1.out.trans' hm)
  have HE2 := Lib.hid (show chgE xs ys = if 50 < (chgA xs ys).length then 10 else 0 by rw [HE.out]; simp [h50])
  have hm50 : decide (50 < (m : Int)) = false := by rw [decide_eq_false_iff_not]; omega
  clear HE
  go_enter Tryz.func21, Tryz.ntmps21
  go_wp2_with (first
    | (go_at_call 36
       refine (HMy.out _ (by (repeat' (first | exact Mod.refl _ _ | assumption | refine Mod.alloc ?_ _ | refine Mod.drew ?_ | refine Mod.drewN ?_ _ | refine Mod.setCell ?_ (by first | exact Or.inl rfl | (right; simp; done) | (right; simp; omega) | (left; simp; done)) _)))).mono ?_
       rintro e w1 ⟨rfl, hm⟩
       have c0 := (hm.cell (p := ⟨w.heap.size, 0, none⟩) (by simp) id).trans (hp_cell (hp_new _ _) 0)
       simp only [List.getElem?_toArray, List.getElem?_cons_zero] at c0
       have hlt := World.block_lt_of_cell? w1 _ c0
       have HM1 := Lib.hid (Mod.trans' ((Mod.refl _ w).alloc _) hm)
       have hsz1 : w.heap.size + 1 ≤ w1.heap.size := by have := hm.size; simp at this; omega
       clear hm)
    | (go_at_call 43
       refine (HBad.out _ HM1.out).mono ?_
       rintro e w2 ⟨rfl, hm⟩
       have c1 := (hm.cell (p := ⟨w.heap.size, 0, none⟩) hlt id).trans c0
       have hsz2 : w.heap.size + 1 ≤ w2.heap.size := by have := hm.size; omega
       have HM2 := Lib.hid (HM1.out.trans' hm)
       clear hm)
    | (go_at_call 45
       refine (HCl.out _ HM2.out).mono ?_
       rintro e w3 ⟨A3, c3, rfl, hown, hm⟩
       have c2 := (hm.cell (p := ⟨w.heap.size, 0, none⟩) (by show w.heap.size < _; omega) id).trans c1
       have HM3 := Lib.hid (HM2.out.trans' hm)
       have HF3 := Lib.hid hown.fresh
       have hsz3 : w.heap.size + 1 ≤ w3.heap.size := by have := hm.size; omega
       have hde := adelete_any 46 #[.pointer (some ⟨w.heap.size, 0, none⟩)] (tyIn ys) w2.heap.size A3 c3 xs w3 enters2 (by rw [← HN.out]; exact hown)
         (fun x _ X hX => by
           have hD : ∀ b, b < w.heap.size → b < w3.heap.size ∧ ¬ (Value.slice A3 xs.length c3).ownBlock = some b := fun b hb => ⟨by omega, fun h => by rw [← HN.out] at h; have := (HF3.out b h).1; omega⟩
           have hc : X.cell? ⟨w.heap.size, 0, none⟩ = some (.slice By m cy) := (hX.cell (p := ⟨w.heap.size, 0, none⟩) (by show w.heap.size < _; omega) (fun h => by rw [← HN.out] at h; have := (HF3.out _ h).1; simp only at this; omega)).trans c2
           rw [HM0.out] at hc
           exact tyin_any _ By cy ys w.heap.size x X hc ((HB.out w3 HM3.out).mod hX hD) (fun b hb => Nat.lt_of_lt_of_le (hD b hb).1 hX.size) (by have := HL2.out; unfold maxLen; omega)) HL.out
       rw [← HN.out] at hde
       have HDe := Lib.hid hde
       have C2 := Lib.hid c2
       clear hm hown hde c0 c1 c2)
    | (go_at_call 44
       refine HDe.out.mono ?_
       rintro e w4 ⟨A4, c4, rfl, hown, hob, hm⟩
       have hn4 : ¬ (Value.slice A3 n c3).ownBlock = some w.heap.size := fun h => by have := (HF3.out _ h).1; omega
       have c4x := (hm.cell (p := ⟨w.heap.size, 0, none⟩) (by show w.heap.size < _; omega) hn4).trans C2.out
       have HM4 := Lib.hid (HM3.out.trans hm (fun b h => .inr (by have := (HF3.out b h).1; omega)))
       have HO4 := Lib.hid (hown.less (base' := w.heap.size + 1) (by omega))
       have hsz4 : w.heap.size + 1 ≤ w4.heap.size := by have := hm.size; omega
       clear hm hown hob HDe)
    | fail)
  have hfl : xs.filter (fun x => !tyIn ys x) = stay xs ys := rfl
  rw [hfl] at HO4 ⊢
  have HSt := Lib.hid (show (stay xs ys).length ≤ xs.length from List.length_filter_le _ _)
  obtain ⟨o0, ho0⟩ : ∃ o0, o0 = Value.slice A4 (stay xs ys).length c4 := ⟨_, rfl⟩
  rw [← ho0] at HO4 ⊢
  have HO5 := Lib.hid (HO4.out.less (base' := w.heap.size) (by omega))
  clear hfl ho0 HO4 HF3
  have hc4 := World.block_lt_of_cell? w4 _ c4x
  go_loopw [7, 29] (fun o i wr => ∃ k : Nat, k ≤ m ∧ i = .int .i64 k ∧ OwnS w.heap.size 52 2 At.cs wr o (stay xs ys ++ adds (ys.take k)) ∧ Mod (fun _ => False) w wr) (fun _ i _ => m - (intOf i).toNat)
  case atStart => exact ⟨0, by omega, rfl, by simpa [adds] using HO5.out, HM4.out⟩
  case round =>
    obtain ⟨k, hk, rfl, hown, hm⟩ := hrel
    have HM := Lib.hid hm
    have HO := Lib.hid hown
    clear hm hown
    by_cases hlt : k < m
    · have hky : k < ys.length := by rw [← HM0.out]; exact hlt
      obtain ⟨b1, o1, rfl, -, p0, p1⟩ := rd2 (HB.out _ HM.out) hky
      obtain ⟨x, hx⟩ : ∃ x, x = ys[k] := ⟨_, rfl⟩
      rw [← hx] at p0 p1
      have HAd := Lib.hid (show adds (ys.take (k + 1)) = adds (ys.take k) ++ (if x.V = [] then [] else [x]) by rw [hx]; exact adds_snoc ys k hky)
      have HLn := Lib.hid (show (stay xs ys ++ adds (ys.take k)).length ≤ n + k by
        have h1 : (adds (ys.take k)).length ≤ (ys.take k).length := List.length_filter_le _ _
        have := HSt.out
        have := HN.out
        simp at h1 ⊢; omega)
      clear hx
      obtain ⟨xT, xV⟩ := x
      simp only at p0 p1 HAd
      by_cases hv : xV = []
      · subst hv
        have hAd := HAd.out
        simp only [if_true, List.append_nil] at hAd
        have HAd2 := Lib.hid hAd
        clear hAd HAd
        go_wp2
        exact ⟨⟨k + 1, by omega, by go_num, by rw [HAd2.out]; exact HO.out.mod (C := fun _ => False) (by (repeat' (first | exact Mod.refl _ _ | assumption | refine Mod.alloc ?_ _ | refine Mod.drew ?_ | refine Mod.drewN ?_ _ | refine Mod.setCell ?_ (by first | exact Or.inl rfl | (right; simp; done) | (right; simp; omega) | (left; simp; done)) _))) (fun b _ => id), by have := HM.out; (repeat' (first | exact Mod.refl _ _ | assumption | refine Mod.alloc ?_ _ | refine Mod.drew ?_ | refine Mod.drewN ?_ _ | refine Mod.setCell ?_ (by first | exact Or.inl rfl | (right; simp; done) | (right; simp; omega) | (left; simp; done)) _))⟩, by simp only [intOf]; omega⟩
      · have hAd := HAd.out
        rw [if_neg hv] at hAd
        have HAd2 := Lib.hid (show stay xs ys ++ adds (ys.take (k + 1)) = (stay xs ys ++ adds (ys.take k)) ++ [⟨xT, xV⟩] by rw [hAd, List.append_assoc])
        have hne : (xV != ([] : Bs)) = true := by simpa using hv
        have hne2 : xV.isEmpty = false := by cases xV with | nil => exact absurd rfl hv | cons a l => rfl
        have hne3 : (xV == ([] : Bs)) = false := by simpa using hv
        have HOx := Lib.hid (HO.out.mod ((Mod.refl (fun _ => False) wr).alloc (.cells #[.string ⟨xT.toArray⟩, .string ⟨xV.toArray⟩] 52 (0, 0))) (fun b _ => id))
        have HMx := Lib.hid (HM.out.alloc (.cells #[.string ⟨xT.toArray⟩, .string ⟨xV.toArray⟩] 52 (0, 0)))
        clear hAd HAd hv
        go_wp2_with (first
          | (at_builtin
             refine wpList_app1 (w0 := w) (xs := stay xs ys ++ adds (ys.take k)) (y := ⟨xT, xV⟩) rfl (.tmp 36) (.tmp 38) rfl ats_t At.cs_len At.cs_one rfl HOx.out HMx.out (by rw [World.size_alloc]; rfl) ?_ ?_ ?_ ?_
             · rfl
             · have := HLn.out; unfold maxLen; omega
             · have := HLn.out; omega
             intro v' w6 hown2 hm2 _ _
             have HO2 := Lib.hid hown2
             have HM2 := Lib.hid hm2
             clear hown2 hm2)
          | fail)
        exact ⟨⟨k + 1, by omega, by go_num, by rw [HAd2.out]; exact HO2.out, HM2.out⟩, by simp only [intOf]; omega⟩
    · obtain rfl : k = m := by omega
      have hys : ys.take k = ys := List.take_of_length_le (by rw [← HM0.out]; omega)
      rw [hys] at HO
      obtain ⟨A5, c5, hv5, hrd, hfr, hml⟩ := OwnS.rd HO.out At.cs_len
      subst hv5
      have hlen : (stay xs ys ++ adds ys).length ≤ 1099511627776 * 2 := by
        have h1 : (adds ys).length ≤ ys.length := List.length_filter_le _ _
        have := HSt.out
        have := HN.out
        have := HM0.out
        simp; omega
      have hso := asorted_any _ A5 c5 _ wr hrd (by have := HX50.out trivial; have := HN.out; have h1 : (adds ys).length ≤ ys.length := List.length_filter_le _ _; have := HSt.out; have := HM0.out; simp; omega)
      have hcg : sortA (stay xs ys ++ adds ys) = chgA xs ys := rfl
      rw [hcg] at hso
      have HSo := Lib.hid hso
      obtain ⟨q, hq⟩ : ∃ q, q = (chgA xs ys).length := ⟨_, rfl⟩
      rw [← hq] at HSo HE2
      have hq2 : q ≤ 1099511627776 := by
        have h1 := chgA_len xs ys
        have := HX50.out trivial
        have := HM0.out
        omega
      have HQ := Lib.hid hq
      obtain ⟨s5, hs5⟩ : ∃ s5, s5 = (stay xs ys ++ adds ys).length := ⟨_, rfl⟩
      rw [← hs5] at HSo ⊢
      clear hso hcg hq hs5 hrd hfr hml hlen hys HO
      by_cases h50q : 50 < q
      · have hbad := Lib.hid (show chgE xs ys = 10 by rw [HE2.out, if_pos h50q])
        go_wp2_with (first
          | (go_at_call 48
             refine HSo.out.mono ?_
             rintro e w7 ⟨A7, c7, rfl, hown, hm7⟩
             have HM7 := Lib.hid (HM.out.trans' hm7)
             clear hown hm7)
          | fail)
        go_ret2
        exact chg_bad (n := 10) hbad.out (by decide) HM7.out
      · have hok : chgE xs ys = 0 := by rw [HE2.out, if_neg h50q]
        have hR : chgR xs ys = chgA xs ys := by unfold chgR; rw [if_pos hok]
        have HOk := Lib.hid (And.intro hok hR)
        clear hok hR
        go_wp2_with (first
          | (go_at_call 48
             refine HSo.out.mono ?_
             rintro e w7 ⟨A7, c7, rfl, hown, hm7⟩
             have HM7 := Lib.hid (HM.out.trans' hm7)
             have HO7 := Lib.hid (hown.less HM.out.size)
             clear hown hm7)
          | fail)
        go_ret2
        exact ⟨A7, c7, by rw [HOk.out.2, HOk.out.1, ← HQ.out]; rfl, by rw [HOk.out.2, ← HQ.out]; exact HO7.out, HM7.out⟩
end Go.Proofs.YtccnkcaagigceaaGreat
