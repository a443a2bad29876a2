/-
  The law FoldNames.
-/
import Derived.Test.YtidbgfmknhlmnaaGreatDoorFoldM
namespace Go.Proofs.YtidbgfmknhlmnaaGreatDoor
open Go.RowKit Go.Shelf Go.Sort
attribute [local go_sem] Oper.semAt_some

theorem full_unnamed {ls : List FL} {r : Int} (h : ls.any (cfP r) = false) : fullL ls r = [r] := by
  have hn : ls.find? (fun x => decide ((x.R : Int) = r) && isCF x) = none := by
    rw [List.find?_eq_none]
    intro x hx
    have := List.any_eq_false.1 h x hx
    exact this
  unfold fullL
  rw [hn]
theorem any_take {ls : List FL} {r : Int} {k : Nat} (h : k < ls.length) : (ls.take (k + 1)).any (cfP r) = ((ls.take k).any (cfP r) || cfP r ls[k]) := by
  rw [List.take_succ_eq_append_getElem h, List.any_append]; simp
theorem same_blk (A : Option Addr) (c0 n : Nat) (xs : List Int) {c : Array Value} (hc : c.toList = xs.flatMap csI) (hx : xs.length ≤ 1000 ∧ n = xs.length) (w X : World) (hr : Rd (fun b => b < w.heap.size) w 1 csI A xs) (hX : Mod (fun _ => False) w X) (b : Nat) (hw : X.heap[b]? = some (.cells c 21 (0, 0))) :
    Calls Tryz.prog 13 #[.slice A n c0, .slice (some ⟨b, 0, none⟩) n n] X fun e w' => e = .returned (.bool true) ∧ Mod (fun _ => False) X w' := by
  obtain ⟨hx, rfl⟩ := hx
  have h := same_any _ (fun q => q = b) A (some ⟨b, 0, none⟩) c0 xs.length xs xs X (hr.mod hX fun b hb => ⟨hb, id⟩) (Rd.blk csI_len hw hc) (by unfold maxLen; omega) (by unfold maxLen; omega) (fun b hb => Nat.lt_of_lt_of_le hb hX.size) (fun q hq => by have hq : q = b := hq; subst hq; exact hp_lt hw)
  rw [show decide (xs = xs) = true by simp] at h
  exact h
set_option maxRecDepth 100000 in
set_option maxHeartbeats 32000000 in
theorem foldNames_any (l : Bs) (A : Option Addr) (c : Nat) (xs : List Int) (w : World) (hmx : MaxVar w) (het : ErrT w) (hA : Rd (fun b => b < w.heap.size) w 1 csI A xs) :
    Calls Tryz.prog 3 #[.string ⟨l.toArray⟩, .slice A xs.length c] w fun e w' => e = .returned (.bool true) ∧ Mod (fun _ => False) w w' := by
  have HK := Lib.hid (fun X (hX : Mod (fun _ => False) w X) => known_any X (hmx.mod hX id) (het.mod hX id))
  obtain ⟨na, hna⟩ : ∃ n, n = xs.length := ⟨_, rfl⟩
  rw [← hna]
  have HNa := Lib.hid hna
  have HA := Lib.hid hA
  clear hna hA
  by_cases hl : 6000 < l.length
  · have hd : decide (6000 < (l.length : Int)) = true := by simp; omega
    clear hl
    clear hmx het
    go_enter Tryz.func3, Tryz.ntmps3
    go_wp2_with (first
      | (go_at_call 8; (with_reducible refine (HK.out _ (by (repeat' (with_reducible (first | exact Mod.refl _ _ | assumption | refine Mod.alloc ?_ _ | refine Mod.drew ?_ | refine Mod.drewN ?_ _ | refine Mod.setCell ?_ (by first | exact Or.inl rfl | (right; simp; done) | (right; simp; omega) | (left; simp; done)) _))))).mono ?_); rintro e w2 ⟨rfl, hm2⟩)
      | fail)
    go_ret
    exact ⟨rfl, hm2⟩
  have hd1 : decide (6000 < (l.length : Int)) = false := by simp; omega
  by_cases ha : 200 < na
  · have hd : decide (200 < (na : Int)) = true := by simp; omega
    clear hl ha
    clear hmx het
    go_enter Tryz.func3, Tryz.ntmps3
    go_wp2_with (first
      | (go_at_call 8; (with_reducible refine (HK.out _ (by (repeat' (with_reducible (first | exact Mod.refl _ _ | assumption | refine Mod.alloc ?_ _ | refine Mod.drew ?_ | refine Mod.drewN ?_ _ | refine Mod.setCell ?_ (by first | exact Or.inl rfl | (right; simp; done) | (right; simp; omega) | (left; simp; done)) _))))).mono ?_); rintro e w2 ⟨rfl, hm2⟩)
      | fail)
    go_ret
    exact ⟨rfl, hm2⟩
  have hd2 : decide (200 < (na : Int)) = false := by simp; omega
  have HOf := Lib.hid (dof_any l w (by omega) hmx het)
  have HG := Lib.hid (fun X => gfof_any l X (by omega))
  have HLs := Lib.hid (fun ls (h : foldT l = .inl ls) => (show ls.length ≤ 6001 from by have := foldT_len h; omega))
  clear hmx het hl
  obtain ⟨o, ho⟩ : ∃ o, o = foldT l := ⟨_, rfl⟩
  rw [← ho] at HOf HG
  have HO := Lib.hid ho.symm
  clear ho
  cases o with
  | inr n =>
    go_enter Tryz.func3, Tryz.ntmps3
    go_wp2_with (first
      | (go_at_call 9; (with_reducible refine HOf.out.mono ?_); rintro e w1 ⟨rfl, hm1⟩)
      | (go_at_call 10; (with_reducible refine (HG.out _).mono ?_); rintro e w2 ⟨rfl, hm2⟩
         have M2 := hm1.trans' hm2)
      | (go_at_call 11; refine (lnum_any _ _).mono ?_; rintro e w4 ⟨rfl, rfl⟩)
      | (go_at_call 8; (with_reducible refine (HK.out _ (by (repeat' (with_reducible (first | exact Mod.refl _ _ | assumption | refine Mod.alloc ?_ _ | refine Mod.drew ?_ | refine Mod.drewN ?_ _ | refine Mod.setCell ?_ (by first | exact Or.inl rfl | (right; simp; done) | (right; simp; omega) | (left; simp; done)) _))))).mono ?_); rintro e w3 ⟨rfl, hm3⟩)
      | fail)
    go_ret
    exact ⟨rfl, M2.trans' hm3⟩
  | inl ls =>
    have hls := HLs.out ls HO.out
    have hcl := chgL_len ls
    obtain ⟨nc, hnc⟩ : ∃ n, n = (chgL ls).length := ⟨_, rfl⟩
    rw [← hnc] at hcl
    have HNc := Lib.hid hnc
    obtain ⟨nl, hnl⟩ : ∃ n, n = ls.length := ⟨_, rfl⟩
    rw [← hnl] at hls hcl
    have HNl := Lib.hid hnl
    clear hnc HLs hnl
    go_enter Tryz.func3, Tryz.ntmps3
    go_wp2_with (first
      | (go_at_call 9; (with_reducible refine HOf.out.mono ?_); rintro e w1 ⟨⟨fb, hs, rfl, hlh, hF, -⟩, hm1⟩
         have HF := Lib.hid hF
         clear hF)
      | (go_at_call 10; (with_reducible refine (HG.out _).mono ?_); rintro e w2 ⟨⟨rf, hr, rfl, hlr, hR⟩, hm2⟩
         have hR2 := hR.mono (D' := fun b => b < w2.heap.size) fun b hb => hb.2
         have HBo := Lib.hid (foldBoth hlh hlr ((HF.out.mod hm2 fun b hb => ⟨hb.2, id⟩).mono (D' := fun b => b < w2.heap.size) fun b hb => Nat.lt_of_lt_of_le hb.2 hm2.size) hR2 (by rw [← HNl.out]; omega))
         have HRef := Lib.hid hR2
         have HLr := Lib.hid hlr
         have M2 := hm1.trans' hm2
         have HRa := Lib.hid (rdKeep HA.out M2)
         have MM2 := Mod.refl (fun _ => False) w2
         clear hlh hlr hR hm1 hm2 hR2)
      | (go_at_call 11; refine (lnum_any _ _).mono ?_; rintro e w4 ⟨rfl, rfl⟩)
      | (go_at_call 12; (with_reducible refine (HBo.out.chg _ (by (repeat' (with_reducible (first | exact Mod.refl _ _ | assumption | refine Mod.alloc ?_ _ | refine Mod.drew ?_ | refine Mod.drewN ?_ _ | refine Mod.setCell ?_ (by first | exact Or.inl rfl | (right; simp; done) | (right; simp; omega) | (left; simp; done)) _))))).mono ?_); rintro e w4 ⟨A4, c4, rfl, hr4, hm4⟩
         have HR4 := Lib.hid hr4
         rw [← HNc.out]
         clear hr4 MM2)
      | fail)
    have H0 := Lib.hid (OwnS.nil w4.heap.size 21 1 csI w4)
    go_loopw [10, 11] (fun u i wr => ∃ (k : Nat) (ys : List Int), k ≤ na ∧ i = .int .i64 k ∧ OwnS w4.heap.size 21 1 csI wr u ys ∧ ys.length = k ∧ textL ls ys = textL ls (xs.take k) ∧ Mod (fun _ => False) w4 wr) (fun _ i _ => na - (intOf i).toNat)
    case atStart => exact ⟨0, [], Nat.zero_le _, rfl, H0.out, rfl, rfl, Mod.refl _ _⟩
    case round =>
      obtain ⟨wo, rfl⟩ : ∃ wo : World, wo = wr := ⟨_, rfl⟩
      obtain ⟨k, ys, hk, rfl, hown, hyl, hty, hm⟩ := hrel
      have HO1 := Lib.hid hown
      have HYl := Lib.hid hyl
      have HTy := Lib.hid hty
      have M2o := hm4.trans' hm
      have HMo := Lib.hid hm
      clear hown hyl hty hm
      by_cases hlt : k < na
      · have hkx : k < xs.length := by rw [← HNa.out]; exact hlt
        obtain ⟨ba, oa, hAe, hba, qa⟩ := rdI (HRa.out.mod M2o fun b hb => ⟨hb, id⟩) hkx
        subst hAe
        have hba2 : ba < w4.heap.size := Nat.lt_of_lt_of_le hba hm4.size
        obtain ⟨x, hx⟩ : ∃ x, x = xs[k] := ⟨_, rfl⟩
        rw [← hx] at qa
        have HTk := Lib.hid (show textL ls (xs.take (k + 1)) = textL ls (xs.take k) ++ fullL ls x by rw [hx]; exact textL_take hkx)
        clear hx
        go_wp2
        go_loopw [12, 13] (fun r i wr => ∃ j : Nat, j ≤ nc ∧ i = .int .i64 j ∧ r = .int .i32 x ∧ Mod (fun _ => False) wo wr) (fun _ i _ => nc - (intOf i).toNat)
        case atStart => exact ⟨0, Nat.zero_le _, rfl, rfl, Mod.refl _ _⟩
        case round =>
          obtain ⟨wp, rfl⟩ : ∃ wp : World, wp = wr := ⟨_, rfl⟩
          obtain ⟨j, hj, rfl, rfl, hmp⟩ := hrel
          have HMp := Lib.hid hmp
          have M2p := M2o.trans' hmp
          have qap := cell_mod qa hmp id
          clear hmp
          by_cases hlj : j < nc
          · have hjx : j < (chgL ls).length := by rw [← HNc.out]; exact hlj
            have hR4p := HR4.out.mod (HMo.out.trans' HMp.out) fun b hb => ⟨hb, id⟩
            obtain ⟨bc, oc, hAe, hbc, qc⟩ := rdI hR4p hjx
            subst hAe
            obtain ⟨y, hy⟩ : ∃ y, y = (chgL ls)[j] := ⟨_, rfl⟩
            rw [← hy] at qc
            obtain ⟨nf, hnf⟩ : ∃ n, n = (fullL ls x).length := ⟨_, rfl⟩
            obtain ⟨ny, hny⟩ : ∃ n, n = (fullL ls y).length := ⟨_, rfl⟩
            have hfl := HBo.out.le x
            have hfy := HBo.out.le y
            have HGx := Lib.hid (HBo.out.gfull x)
            have HGy := Lib.hid (HBo.out.gfull y)
            rw [← hnf] at HGx hfl
            rw [← hny] at HGy hfy
            have HNf := Lib.hid hnf
            have HNy := Lib.hid hny
            obtain ⟨z, hz⟩ : ∃ z, z = (fullL ls y == fullL ls x) := ⟨_, rfl⟩
            have HZ := Lib.hid hz
            clear hy hnf hny hz hR4p
            cases z
            · go_wp2
              go_region_held3 (fun W => W.cell? ⟨bc, oc + j, none⟩ = some (.int .i32 y) ∧ W.cell? ⟨ba, oa + k, none⟩ = some (.int .i32 x)) (first | exact ⟨qc, qap⟩ | exact ⟨qc7, qa7⟩ | exact ⟨qc8, qa8⟩ | exact ⟨qc9, qa9⟩ | fail) (first
                | (go_at_call 14; (with_reducible refine (HGy.out _ (by first | exact M2p | exact M2p.drew)).mono ?_); rintro e w7 ⟨A7, c7, rfl, hr7, hm7⟩
                   have M7 : Mod (fun _ => False) wp w7 := Mod.trans' (by (repeat' (first | exact Mod.refl _ _ | assumption | refine Mod.alloc ?_ _ | refine Mod.drew ?_ | refine Mod.drewN ?_ _ | refine Mod.setCell ?_ (by first | exact Or.inl rfl | (right; simp; done) | (right; simp; omega) | (left; simp; done)) _))) hm7
                   have M27 := M2p.trans' M7
                   have qc7 := cell_mod qc M7 id
                   have qa7 := cell_mod qap M7 id
                   have HR7 := Lib.hid hr7
                   clear hr7)
                | (go_at_call 14; (with_reducible refine (HGx.out _ M27).mono ?_); rintro e w8 ⟨A8, c8, rfl, hr8, hm8⟩
                   have M8 := M7.trans' hm8
                   have qc8 := cell_mod qc7 hm8 id
                   have qa8 := cell_mod qa7 hm8 id
                   have HSm := sameD A7 A8 c7 c8 ny nf (fullL ls y) (fullL ls x) w8 (rdKeep HR7.out hm8) hr8 HNy.out HNf.out (by rw [← HNy.out]; omega) (by rw [← HNf.out]; omega)
                   rw [← HZ.out] at HSm
                   have HSm := Lib.hid HSm
                   clear hr8)
                | (go_at_call 13; (with_reducible refine HSm.out.mono ?_); rintro e w9 ⟨rfl, hm9⟩
                   have M9 := HMp.out.trans' (M8.trans' hm9)
                   have qc9 := cell_mod qc8 hm9 id
                   have qa9 := cell_mod qa8 hm9 id)
                | fail)
              all_goals
                go_wp2
                exact ⟨⟨j + 1, by omega, by go_num, rfl, by (repeat refine Mod.drewN ?_ _); exact M9⟩, by simp only [intOf]; omega⟩
            · have HY := Lib.hid (show fullL ls y = fullL ls x by have := HZ.out; simpa using this.symm)
              go_wp2
              go_region_held3 (fun W => W.cell? ⟨bc, oc + j, none⟩ = some (.int .i32 y) ∧ W.cell? ⟨ba, oa + k, none⟩ = some (.int .i32 x)) (first | exact ⟨qc, qap⟩ | exact ⟨qc7, qa7⟩ | exact ⟨qc8, qa8⟩ | exact ⟨qc9, qa9⟩ | fail) (first
                | (go_at_call 14; (with_reducible refine (HGy.out _ (by first | exact M2p | exact M2p.drew)).mono ?_); rintro e w7 ⟨A7, c7, rfl, hr7, hm7⟩
                   have M7 : Mod (fun _ => False) wp w7 := Mod.trans' (by (repeat' (first | exact Mod.refl _ _ | assumption | refine Mod.alloc ?_ _ | refine Mod.drew ?_ | refine Mod.drewN ?_ _ | refine Mod.setCell ?_ (by first | exact Or.inl rfl | (right; simp; done) | (right; simp; omega) | (left; simp; done)) _))) hm7
                   have M27 := M2p.trans' M7
                   have qc7 := cell_mod qc M7 id
                   have qa7 := cell_mod qap M7 id
                   have HR7 := Lib.hid hr7
                   clear hr7)
                | (go_at_call 14; (with_reducible refine (HGx.out _ M27).mono ?_); rintro e w8 ⟨A8, c8, rfl, hr8, hm8⟩
                   have M8 := M7.trans' hm8
                   have qc8 := cell_mod qc7 hm8 id
                   have qa8 := cell_mod qa7 hm8 id
                   have HSm := sameD A7 A8 c7 c8 ny nf (fullL ls y) (fullL ls x) w8 (rdKeep HR7.out hm8) hr8 HNy.out HNf.out (by rw [← HNy.out]; omega) (by rw [← HNf.out]; omega)
                   rw [← HZ.out] at HSm
                   have HSm := Lib.hid HSm
                   clear hr8)
                | (go_at_call 13; (with_reducible refine HSm.out.mono ?_); rintro e w9 ⟨rfl, hm9⟩
                   have M9 := HMp.out.trans' (M8.trans' hm9)
                   have qc9 := cell_mod qc8 hm9 id
                   have qa9 := cell_mod qa8 hm9 id)
                | fail)
              all_goals
                go_upto_region 18 with (fail)
                clear qc qap qc7 qa7 qc8 qa8 qc9 qa9 HGx HGy HNf HNy HZ hfl hfy
                refine wp_as9 (fun W => Mod (fun _ => False) wo W) M9 ?_
                rintro W1 M1
                have hown1 := HO1.out.mod M1 fun _ _ => id
                have qa1 := cell_mod qa M1 id
                have hs1 := M1.size
                have hso := HMo.out.size
                have HO2 := Lib.hid hown1
                clear hown1
                go_wp2_with (first
                  | (at_builtin
                     refine wpList_app (base := w4.heap.size) (xs := ys) (ys := [y]) (D := fun b => b = W1.heap.size) rfl (.tmp 78) (.tmp 80) rfl i32s_t csI_len csI_one rfl (HO2.out.mod ((Mod.refl (fun _ => False) W1).alloc _) fun _ _ => id) 1 rfl rfl (Rd.one (hp_new _ _) rfl) ?_ ?_ ?_ ?_
                     · rw [HYl.out]; simp [maxLen]; omega
                     · rw [HYl.out]; simp; omega
                     · simp; omega
                     intro v5 w5 hown5 hm5 _
                     have M5 : Mod (fun _ => False) w4 w5 := ((HMo.out.trans' M1).alloc _).trans hm5 fun b hb => .inr (HO2.out.fresh b hb).1
                     have Mo5 : Mod (fun b => w4.heap.size ≤ b) wo w5 := ((M1.mono (C' := fun b => w4.heap.size ≤ b) fun _ _ h => h.elim).alloc _).trans hm5 fun b hb => .inl (HO2.out.fresh b hb).1
                     have qa5 := cell_mod qa Mo5 (fun h => by have h : w4.heap.size ≤ ba := h; omega)
                     have HO5 := Lib.hid hown5
                     clear hm5 hown5 Mo5)
                  | fail)
                have HY5 := Lib.hid (show textL ls (ys ++ [y]) = textL ls (xs.take (k + 1)) by
                  rw [HTk.out, text_app, HTy.out, show textL ls [y] = fullL ls y by simp [textL], HY.out])
                have M25 := hm4.trans' M5
                clear qa1
                obtain ⟨Ar, cr, rc0, hRl⟩ := (HRef.out.mod M25 fun b hb => ⟨hb, id⟩).ls
                obtain ⟨mr, hmr⟩ : ∃ m, m = hr.length := ⟨_, rfl⟩
                rw [← hmr] at rc0
                have hmrl : mr = nl := by rw [hmr, HNl.out, ← HLr.out, List.length_map]
                have HMr := Lib.hid hmr
                have HRl := Lib.hid hRl
                clear hmr hRl
                go_loopw [14, 15] (fun nm i wr => ∃ j : Nat, j ≤ mr ∧ i = .int .i64 j ∧ nm = .bool ((ls.take j).any (cfP x)) ∧ ∃ nq, wr = w5.drewN nq) (fun _ i _ => mr - (intOf i).toNat)
                case atStart => exact ⟨0, Nat.zero_le _, rfl, rfl, 0, rfl⟩
                case round =>
                  obtain ⟨j, hj, rfl, rfl, nq, rfl⟩ := hrel
                  obtain ⟨nb, hnb⟩ : ∃ nb, nb = (ls.take j).any (cfP x) := ⟨_, rfl⟩
                  rw [← hnb]
                  by_cases hlj2 : j < mr
                  · have hjh : j < hr.length := by rw [← HMr.out]; exact hlj2
                    have hjl : j < ls.length := by rw [← HNl.out]; omega
                    have hat := any_take (r := x) hjl
                    rw [← hnb] at hat
                    have HAt := Lib.hid hat
                    clear hat hnb
                    cases nb
                    · obtain ⟨bl, ol, hAl, hbl, hcell⟩ := HRl.out (by omega)
                      subst hAl
                      obtain ⟨z, hz⟩ : ∃ z, z = hr[j] := ⟨_, rfl⟩
                      have d0 : w5.cell? ⟨bl, ol + j * 3, none⟩ = some (.int .i32 (z.x.R : Int)) := by rw [hz]; exact hcell j hjh 0 _ rfl
                      have d1 : w5.cell? ⟨bl, ol + j * 3 + 1, none⟩ = some (.string ⟨z.x.S.toArray⟩) := by rw [hz]; exact hcell j hjh 1 _ rfl
                      have hzl : ls[j] = z.x := by subst hz; simp [← HLr.out]
                      have hys := st_one (aloneL_st (HRef.out.good.alone z.x (List.mem_map_of_mem (by rw [hz]; exact List.getElem_mem _))))
                      rw [hzl, Bool.false_or] at HAt
                      obtain ⟨zA, zc, ⟨zR, zS, zrow⟩⟩ := z
                      simp only at d0 d1 hys HAt
                      clear hcell hz hzl hjl
                      by_cases hR : (zR : Int) = x
                      · subst hR
                        have HAt2 := Lib.hid (show (ls.take (j + 1)).any (cfP (zR : Int)) = isCF ⟨zR, zS, zrow⟩ by rw [HAt.out]; unfold cfP; simp)
                        clear HAt
                        rcases hys with rfl | rfl | rfl | rfl
                        all_goals
                          go_wp2
                          go_quiet (fail)
                          go_wp2
                          exact ⟨⟨j + 1, by omega, by go_num, by rw [HAt2.out]; rfl, _, rfl⟩, by simp only [intOf]; omega⟩
                      · have hRe : ((zR : Int) == x) = false := by simp [hR]
                        have HAt2 := Lib.hid (show (ls.take (j + 1)).any (cfP x) = false by rw [HAt.out]; unfold cfP; simp [hR])
                        clear hys hR HAt
                        go_wp2
                        go_quiet (fail)
                        go_wp2
                        exact ⟨⟨j + 1, by omega, by go_num, by rw [HAt2.out], _, rfl⟩, by simp only [intOf]; omega⟩
                    · go_wp2
                      go_quiet (fail)
                      go_wp2
                      exact ⟨⟨j + 1, by omega, by go_num, by rw [HAt.out]; rfl, _, rfl⟩, by simp only [intOf]; omega⟩
                  · obtain rfl : j = mr := by omega
                    have hnb2 : nb = ls.any (cfP x) := by rw [hnb, hmrl, HNl.out, List.take_length]
                    have HNb := Lib.hid hnb2
                    clear hnb hnb2
                    have hs5 := M5.size
                    cases nb
                    · have HU := Lib.hid (full_unnamed HNb.out.symm)
                      have hfu := HBo.out.full x
                      rw [HU.out] at hfu
                      have HFu := Lib.hid (show ∀ X, Mod (fun _ => False) w2 X → Calls Tryz.prog 15 #[ptrV fb, .int .i32 x] X fun e w' => ∃ A c, e = .returned (.slice A 1 c) ∧ Rd (fun b => b < w'.heap.size) w' 1 csI A [x] ∧ Mod (fun _ => False) X w' from hfu)
                      have hba5 : ba < w5.heap.size := by omega
                      clear hfu
                      go_wp2
                      go_region_held3 (fun W => W.cell? ⟨ba, oa + k, none⟩ = some (.int .i32 x)) (first | exact qa5 | exact qa6 | exact (World.cell?_alloc_lt _ _ _ hba6).trans qa6 | exact qa11 | exact (World.cell?_alloc_lt _ _ _ hba5).trans qa5 | fail) (first
                        | (go_at_call 15; (with_reducible refine (HFu.out _ (by (repeat' (first | exact M25 | refine Mod.alloc ?_ _ | refine Mod.drewN ?_ _ | refine Mod.drew ?_)))).mono ?_); rintro e w6 ⟨A6, c6, rfl, hr6, hm6⟩
                           have M6 : Mod (fun _ => False) w5 w6 := Mod.trans' (by (repeat' (first | exact Mod.refl _ _ | assumption | refine Mod.alloc ?_ _ | refine Mod.drew ?_ | refine Mod.drewN ?_ _ | refine Mod.setCell ?_ (by first | exact Or.inl rfl | (right; simp; done) | (right; simp; omega) | (left; simp; done)) _))) hm6
                           have qa6 := cell_mod qa5 M6 id
                           have hba6 : ba < w6.heap.size := by have := M6.size; omega
                           have HSm := Lib.hid (fun X hX b hw => same_blk A6 c6 1 [x] (c := #[.int .i32 x]) rfl ⟨by simp, rfl⟩ w6 X hr6 hX b hw)
                           clear hr6)
                        | (go_at_call 13; (with_reducible refine (HSm.out _ (by (repeat' (with_reducible (first | exact Mod.refl _ _ | assumption | refine Mod.alloc ?_ _ | refine Mod.drew ?_ | refine Mod.drewN ?_ _ | refine Mod.setCell ?_ (by first | exact Or.inl rfl | (right; simp; done) | (right; simp; omega) | (left; simp; done)) _)))) _ (by first | exact hp_new _ _ | exact hp_drew (hp_new _ _) | exact hp_mod (hp_at _ _ (by simp)) hm6 id | fail)).mono ?_); rintro e w11 ⟨rfl, hm11⟩
                           have M11 : Mod (fun _ => False) w5 w11 := Mod.trans' (by (repeat' (first | exact Mod.refl _ _ | assumption | refine Mod.alloc ?_ _ | refine Mod.drew ?_ | refine Mod.drewN ?_ _ | refine Mod.setCell ?_ (by first | exact Or.inl rfl | (right; simp; done) | (right; simp; omega) | (left; simp; done)) _))) hm11
                           have qa11 := cell_mod qa5 M11 id)
                        | fail)
                      all_goals
                        go_wp2
                        exact ⟨⟨k + 1, ys ++ [y], by omega, by go_num, by (first | exact HO5.out.mod M11 (fun _ _ => id) | exact HO5.out.mod M11.drew (fun _ _ => id)), by rw [List.length_append, HYl.out]; rfl, HY5.out, by (repeat refine Mod.drewN ?_ _); exact M5.trans' M11⟩, by simp only [intOf]; omega⟩
                    · go_wp2
                      go_quiet (fail)
                      go_wp2
                      exact ⟨⟨k + 1, ys ++ [y], by omega, by go_num, HO5.out.mod (C := fun _ => False) (by (repeat' (first | exact Mod.refl _ _ | assumption | refine Mod.alloc ?_ _ | refine Mod.drew ?_ | refine Mod.drewN ?_ _ | refine Mod.setCell ?_ (by first | exact Or.inl rfl | (right; simp; done) | (right; simp; omega) | (left; simp; done)) _))) (fun b _ => id), by rw [List.length_append, HYl.out]; rfl, HY5.out, by (repeat refine Mod.drewN ?_ _); exact M5⟩, by simp only [intOf]; omega⟩
          · obtain ⟨y, hy⟩ : ∃ y, y = x := ⟨_, rfl⟩
            have HY := Lib.hid (show fullL ls y = fullL ls x by rw [hy])
            rw [← hy]
            clear hy qap
            go_upto_region 18 with (fail)
            refine wp_as9 (fun W => Mod (fun _ => False) wo W) HMp.out ?_
            rintro W1 M1
            have hown1 := HO1.out.mod M1 fun _ _ => id
            have qa1 := cell_mod qa M1 id
            have hs1 := M1.size
            have hso := HMo.out.size
            have HO2 := Lib.hid hown1
            clear hown1
            go_wp2_with (first
              | (at_builtin
                 refine wpList_app (base := w4.heap.size) (xs := ys) (ys := [y]) (D := fun b => b = W1.heap.size) rfl (.tmp 78) (.tmp 80) rfl i32s_t csI_len csI_one rfl (HO2.out.mod ((Mod.refl (fun _ => False) W1).alloc _) fun _ _ => id) 1 rfl rfl (Rd.one (hp_new _ _) rfl) ?_ ?_ ?_ ?_
                 · rw [HYl.out]; simp [maxLen]; omega
                 · rw [HYl.out]; simp; omega
                 · simp; omega
                 intro v5 w5 hown5 hm5 _
                 have M5 : Mod (fun _ => False) w4 w5 := ((HMo.out.trans' M1).alloc _).trans hm5 fun b hb => .inr (HO2.out.fresh b hb).1
                 have Mo5 : Mod (fun b => w4.heap.size ≤ b) wo w5 := ((M1.mono (C' := fun b => w4.heap.size ≤ b) fun _ _ h => h.elim).alloc _).trans hm5 fun b hb => .inl (HO2.out.fresh b hb).1
                 have qa5 := cell_mod qa Mo5 (fun h => by have h : w4.heap.size ≤ ba := h; omega)
                 have HO5 := Lib.hid hown5
                 clear hm5 hown5 Mo5)
              | fail)
            have HY5 := Lib.hid (show textL ls (ys ++ [y]) = textL ls (xs.take (k + 1)) by
              rw [HTk.out, text_app, HTy.out, show textL ls [y] = fullL ls y by simp [textL], HY.out])
            have M25 := hm4.trans' M5
            clear qa1
            obtain ⟨Ar, cr, rc0, hRl⟩ := (HRef.out.mod M25 fun b hb => ⟨hb, id⟩).ls
            obtain ⟨mr, hmr⟩ : ∃ m, m = hr.length := ⟨_, rfl⟩
            rw [← hmr] at rc0
            have hmrl : mr = nl := by rw [hmr, HNl.out, ← HLr.out, List.length_map]
            have HMr := Lib.hid hmr
            have HRl := Lib.hid hRl
            clear hmr hRl
            go_loopw [14, 15] (fun nm i wr => ∃ j : Nat, j ≤ mr ∧ i = .int .i64 j ∧ nm = .bool ((ls.take j).any (cfP x)) ∧ ∃ nq, wr = w5.drewN nq) (fun _ i _ => mr - (intOf i).toNat)
            case atStart => exact ⟨0, Nat.zero_le _, rfl, rfl, 0, rfl⟩
            case round =>
              obtain ⟨j, hj, rfl, rfl, nq, rfl⟩ := hrel
              obtain ⟨nb, hnb⟩ : ∃ nb, nb = (ls.take j).any (cfP x) := ⟨_, rfl⟩
              rw [← hnb]
              by_cases hlj2 : j < mr
              · have hjh : j < hr.length := by rw [← HMr.out]; exact hlj2
                have hjl : j < ls.length := by rw [← HNl.out]; omega
                have hat := any_take (r := x) hjl
                rw [← hnb] at hat
                have HAt := Lib.hid hat
                clear hat hnb
                cases nb
                · obtain ⟨bl, ol, hAl, hbl, hcell⟩ := HRl.out (by omega)
                  subst hAl
                  obtain ⟨z, hz⟩ : ∃ z, z = hr[j] := ⟨_, rfl⟩
                  have d0 : w5.cell? ⟨bl, ol + j * 3, none⟩ = some (.int .i32 (z.x.R : Int)) := by rw [hz]; exact hcell j hjh 0 _ rfl
                  have d1 : w5.cell? ⟨bl, ol + j * 3 + 1, none⟩ = some (.string ⟨z.x.S.toArray⟩) := by rw [hz]; exact hcell j hjh 1 _ rfl
                  have hzl : ls[j] = z.x := by subst hz; simp [← HLr.out]
                  have hys := st_one (aloneL_st (HRef.out.good.alone z.x (List.mem_map_of_mem (by rw [hz]; exact List.getElem_mem _))))
                  rw [hzl, Bool.false_or] at HAt
                  obtain ⟨zA, zc, ⟨zR, zS, zrow⟩⟩ := z
                  simp only at d0 d1 hys HAt
                  clear hcell hz hzl hjl
                  by_cases hR : (zR : Int) = x
                  · subst hR
                    have HAt2 := Lib.hid (show (ls.take (j + 1)).any (cfP (zR : Int)) = isCF ⟨zR, zS, zrow⟩ by rw [HAt.out]; unfold cfP; simp)
                    clear HAt
                    rcases hys with rfl | rfl | rfl | rfl
                    all_goals
                      go_wp2
                      go_quiet (fail)
                      go_wp2
                      exact ⟨⟨j + 1, by omega, by go_num, by rw [HAt2.out]; rfl, _, rfl⟩, by simp only [intOf]; omega⟩
                  · have hRe : ((zR : Int) == x) = false := by simp [hR]
                    have HAt2 := Lib.hid (show (ls.take (j + 1)).any (cfP x) = false by rw [HAt.out]; unfold cfP; simp [hR])
                    clear hys hR HAt
                    go_wp2
                    go_quiet (fail)
                    go_wp2
                    exact ⟨⟨j + 1, by omega, by go_num, by rw [HAt2.out], _, rfl⟩, by simp only [intOf]; omega⟩
                · go_wp2
                  go_quiet (fail)
                  go_wp2
                  exact ⟨⟨j + 1, by omega, by go_num, by rw [HAt.out]; rfl, _, rfl⟩, by simp only [intOf]; omega⟩
              · obtain rfl : j = mr := by omega
                have hnb2 : nb = ls.any (cfP x) := by rw [hnb, hmrl, HNl.out, List.take_length]
                have HNb := Lib.hid hnb2
                clear hnb hnb2
                have hs5 := M5.size
                cases nb
                · have HU := Lib.hid (full_unnamed HNb.out.symm)
                  have hfu := HBo.out.full x
                  rw [HU.out] at hfu
                  have HFu := Lib.hid (show ∀ X, Mod (fun _ => False) w2 X → Calls Tryz.prog 15 #[ptrV fb, .int .i32 x] X fun e w' => ∃ A c, e = .returned (.slice A 1 c) ∧ Rd (fun b => b < w'.heap.size) w' 1 csI A [x] ∧ Mod (fun _ => False) X w' from hfu)
                  have hba5 : ba < w5.heap.size := by omega
                  clear hfu
                  go_wp2
                  go_region_held3 (fun W => W.cell? ⟨ba, oa + k, none⟩ = some (.int .i32 x)) (first | exact qa5 | exact qa6 | exact (World.cell?_alloc_lt _ _ _ hba6).trans qa6 | exact qa11 | exact (World.cell?_alloc_lt _ _ _ hba5).trans qa5 | fail) (first
                    | (go_at_call 15; (with_reducible refine (HFu.out _ (by (repeat' (first | exact M25 | refine Mod.alloc ?_ _ | refine Mod.drewN ?_ _ | refine Mod.drew ?_)))).mono ?_); rintro e w6 ⟨A6, c6, rfl, hr6, hm6⟩
                       have M6 : Mod (fun _ => False) w5 w6 := Mod.trans' (by (repeat' (first | exact Mod.refl _ _ | assumption | refine Mod.alloc ?_ _ | refine Mod.drew ?_ | refine Mod.drewN ?_ _ | refine Mod.setCell ?_ (by first | exact Or.inl rfl | (right; simp; done) | (right; simp; omega) | (left; simp; done)) _))) hm6
                       have qa6 := cell_mod qa5 M6 id
                       have hba6 : ba < w6.heap.size := by have := M6.size; omega
                       have HSm := Lib.hid (fun X hX b hw => same_blk A6 c6 1 [x] (c := #[.int .i32 x]) rfl ⟨by simp, rfl⟩ w6 X hr6 hX b hw)
                       clear hr6)
                    | (go_at_call 13; (with_reducible refine (HSm.out _ (by (repeat' (with_reducible (first | exact Mod.refl _ _ | assumption | refine Mod.alloc ?_ _ | refine Mod.drew ?_ | refine Mod.drewN ?_ _ | refine Mod.setCell ?_ (by first | exact Or.inl rfl | (right; simp; done) | (right; simp; omega) | (left; simp; done)) _)))) _ (by first | exact hp_new _ _ | exact hp_drew (hp_new _ _) | exact hp_mod (hp_at _ _ (by simp)) hm6 id | fail)).mono ?_); rintro e w11 ⟨rfl, hm11⟩
                       have M11 : Mod (fun _ => False) w5 w11 := Mod.trans' (by (repeat' (first | exact Mod.refl _ _ | assumption | refine Mod.alloc ?_ _ | refine Mod.drew ?_ | refine Mod.drewN ?_ _ | refine Mod.setCell ?_ (by first | exact Or.inl rfl | (right; simp; done) | (right; simp; omega) | (left; simp; done)) _))) hm11
                       have qa11 := cell_mod qa5 M11 id)
                    | fail)
                  all_goals
                    go_wp2
                    exact ⟨⟨k + 1, ys ++ [y], by omega, by go_num, by (first | exact HO5.out.mod M11 (fun _ _ => id) | exact HO5.out.mod M11.drew (fun _ _ => id)), by rw [List.length_append, HYl.out]; rfl, HY5.out, by (repeat refine Mod.drewN ?_ _); exact M5.trans' M11⟩, by simp only [intOf]; omega⟩
                · go_wp2
                  go_quiet (fail)
                  go_wp2
                  exact ⟨⟨k + 1, ys ++ [y], by omega, by go_num, HO5.out.mod (C := fun _ => False) (by (repeat' (first | exact Mod.refl _ _ | assumption | refine Mod.alloc ?_ _ | refine Mod.drew ?_ | refine Mod.drewN ?_ _ | refine Mod.setCell ?_ (by first | exact Or.inl rfl | (right; simp; done) | (right; simp; omega) | (left; simp; done)) _))) (fun b _ => id), by rw [List.length_append, HYl.out]; rfl, HY5.out, by (repeat refine Mod.drewN ?_ _); exact M5⟩, by simp only [intOf]; omega⟩
      · obtain rfl : k = na := by omega
        obtain ⟨Ao, co, hvo, hro, hfo, -⟩ := HO1.out.rd csI_len
        rw [HYl.out] at hvo
        subst hvo
        have htx : textL ls ys = textL ls xs := by have := HTy.out; rwa [HNa.out, List.take_length] at this
        obtain ⟨nt, hnt⟩ : ∃ n, n = (textL ls xs).length := ⟨_, rfl⟩
        have htl : nt ≤ 600 := by rw [hnt]; have := textL_le HBo.out.le xs; rw [← HNa.out] at this; omega
        have HNt := Lib.hid hnt
        have hTo := HBo.out.text Ao co k ys wo M2o (hro.mono fun b hb => (hfo b hb).2) HYl.out.symm (by rw [HYl.out]; omega)
        rw [htx, ← hnt] at hTo
        have HTo := Lib.hid hTo
        clear hro hfo htx hnt hTo
        go_wp2_with (first
          | (go_at_call 16; (with_reducible refine HTo.out.mono ?_); rintro e w21 ⟨A21, c21, rfl, hr21, hm21⟩
             have M21 := M2o.trans' hm21
             have HR21 := Lib.hid hr21
             have HTx := HBo.out.text A c k xs w21 M21 (rdKeep HRa.out M21) HNa.out (by rw [← HNa.out]; omega)
             rw [← HNt.out] at HTx
             have HTx := Lib.hid HTx
             clear hr21 HTo)
          | (go_at_call 16; (with_reducible refine HTx.out.mono ?_); rintro e w22 ⟨A22, c22, rfl, hr22, hm22⟩
             have M22 := M21.trans' hm22
             have HSm := Lib.hid (sameR A21 A22 c21 c22 nt nt (textL ls xs) (textL ls xs) w22 (rdKeep HR21.out hm22) hr22 HNt.out HNt.out (by rw [← HNt.out]; omega) rfl)
             clear hr22)
          | (go_at_call 13; (with_reducible refine HSm.out.mono ?_); rintro e w23 ⟨rfl, hm23⟩
             have M23 := M2.trans' (M22.trans' hm23))
          | (go_at_call 8; (with_reducible refine (HK.out _ (by (repeat' (with_reducible (first | exact Mod.refl _ _ | assumption | refine Mod.alloc ?_ _ | refine Mod.drew ?_ | refine Mod.drewN ?_ _ | refine Mod.setCell ?_ (by first | exact Or.inl rfl | (right; simp; done) | (right; simp; omega) | (left; simp; done)) _))))).mono ?_); rintro e w24 ⟨rfl, hm24⟩)
          | fail)
        go_ret
        exact ⟨rfl, M23.trans' hm24⟩
end Go.Proofs.YtidbgfmknhlmnaaGreatDoor
