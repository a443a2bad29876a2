/-
  The reference's Changed.
-/
import Derived.Test.YtidbgfmknhlmnaaGreatDoorFoldJ
namespace Go.Proofs.YtidbgfmknhlmnaaGreatDoor
open Go.RowKit Go.Shelf Go.Sort
attribute [local go_sem] Oper.semAt_some

theorem insI_at : ∀ (L : List Int) (r : Int) (j : Nat), j ≤ L.length → (∀ m (hm : m < L.length), m < j → L[m] < r) → (∀ hm : j < L.length, ¬ L[j] < r) → insI L r = L.take j ++ r :: L.drop j
  | [], r, j, hj, _, _ => by
    have : j = 0 := by simpa using hj
    subst this
    rfl
  | y :: ys, r, 0, _, _, h2 => by
    have := h2 (by simp)
    simp only [List.getElem_cons_zero] at this
    simp [insI, this]
  | y :: ys, r, j + 1, hj, h1, h2 => by
    have h0 := h1 0 (by simp) (by omega)
    simp only [List.getElem_cons_zero] at h0
    have ih := insI_at ys r j (by simpa using hj) (fun m hm hmj => h1 (m + 1) (by simpa using hm) (by omega)) (fun hm => h2 (by simpa using hm))
    unfold insI at ih ⊢
    simp only [List.takeWhile_cons, List.dropWhile_cons, decide_eq_true h0, if_true, List.cons_append, List.take_succ_cons, List.drop_succ_cons]
    rw [ih]
theorem insI_mid (L : List Int) (z x : Int) (j : Nat) (hj : j < L.length) : ((L ++ [z]).take (j + 1) ++ L.drop j ++ (L ++ [z]).drop (j + 1 + (L.drop j).length)).set j x = L.take j ++ x :: L.drop j := by
  apply List.ext_getElem?
  intro i
  grind
theorem insI_end (L : List Int) (z x : Int) : (L ++ [z]).set L.length x = L.take L.length ++ x :: L.drop L.length := by
  simp
theorem chg_take {ls : List FL} {k : Nat} (h : k < ls.length) : chgL (ls.take (k + 1)) = if moves ls[k] then insI (chgL (ls.take k)) ls[k].R else chgL (ls.take k) := by
  unfold chgL
  rw [List.take_succ_eq_append_getElem h, List.foldl_append]
  rfl
set_option maxRecDepth 100000 in
set_option maxHeartbeats 16000000 in
theorem gchg_any (D : Nat → Prop) (fb : Nat) (hs : List FH) (w : World) (hF : RefIn D w fb hs) (hl : hs.length ≤ 1000001) (hD : ∀ b, D b → b < w.heap.size) :
    Calls Tryz.prog 12 #[ptrV fb] w fun e w' => ∃ u, e = .returned u ∧ OwnS w.heap.size 21 1 csI w' u (chgL (hs.map FH.x)) ∧ Mod (fun _ => False) w w' := by
  obtain ⟨A, c, c0, hA⟩ := hF.ls
  obtain ⟨m, hm⟩ : ∃ m, m = hs.length := ⟨_, rfl⟩
  obtain ⟨ls, hls⟩ : ∃ ls, ls = hs.map FH.x := ⟨_, rfl⟩
  rw [← hm] at hl c0
  rw [← hls]
  have HLS := Lib.hid hls
  have HM := Lib.hid hm
  have HA := Lib.hid hA
  have HF := Lib.hid hF
  have HD := Lib.hid hD
  have C0 := Lib.hid c0
  clear hm hA hF hls hD c0
  have H0 := Lib.hid (OwnS.nil w.heap.size 21 1 csI w)
  go_enter Tryz.func12, Tryz.ntmps12
  go_wp2
  go_loopw [3, 4] (fun u i wr => ∃ k : Nat, k ≤ m ∧ i = .int .i64 k ∧ OwnS w.heap.size 21 1 csI wr u (chgL (ls.take k)) ∧ Mod (fun _ => False) w wr) (fun _ i _ => m - (intOf i).toNat)
  case atStart => exact ⟨0, Nat.zero_le _, rfl, H0.out, Mod.refl _ _⟩
  case round =>
    obtain ⟨wo, rfl⟩ : ∃ wo : World, wo = wr := ⟨_, rfl⟩
    obtain ⟨k, hk, rfl, hown, hmw⟩ := hrel
    have HMw := Lib.hid hmw
    have c0 := cell_mod C0.out hmw id
    obtain ⟨L, hL⟩ : ∃ L, L = chgL (ls.take k) := ⟨_, rfl⟩
    have hlk : L.length ≤ k := by
      rw [hL]; have h1 := chgL_len (ls.take k); rw [List.length_take] at h1; omega
    rw [← hL] at hown
    obtain ⟨A4, c4, rfl, hr4, hfr4, hml4⟩ := hown.rd csI_len
    obtain ⟨q, hq⟩ : ∃ q, q = L.length := ⟨_, rfl⟩
    rw [← hq] at hown hr4 hfr4 hlk ⊢
    have HL := Lib.hid hL
    have HLq := Lib.hid hq
    have HO := Lib.hid hown
    have HR := Lib.hid hr4
    have HFr := Lib.hid hfr4
    clear hL hq hown hr4 hfr4 hml4 hmw
    by_cases hlt : k < m
    · have hkx : k < hs.length := by rw [← HM.out]; exact hlt
      have hkl : k < ls.length := by rw [HLS.out, List.length_map]; exact hkx
      obtain ⟨bl, ol, hAe, hbl, hcell⟩ := HA.out.mod HMw.out (fun b hb => ⟨HD.out b hb, id⟩) (by omega)
      subst hAe
      obtain ⟨y, hy⟩ : ∃ y, y = hs[k] := ⟨_, rfl⟩
      have d0 : wo.cell? ⟨bl, ol + k * 3, none⟩ = some (.int .i32 (y.x.R : Int)) := by rw [hy]; exact hcell k hkx 0 _ rfl
      have d1 : wo.cell? ⟨bl, ol + k * 3 + 1, none⟩ = some (.string ⟨y.x.S.toArray⟩) := by rw [hy]; exact hcell k hkx 1 _ rfl
      have d2 : wo.cell? ⟨bl, ol + k * 3 + 2, none⟩ = some (.slice y.A y.x.row.length y.c) := by rw [hy]; exact hcell k hkx 2 _ rfl
      have hym : y ∈ hs := by rw [hy]; exact List.getElem_mem _
      have hal := HF.out.good.alone y.x (List.mem_map_of_mem hym)
      have hys := st_one (aloneL_st hal)
      have hln := aloneL_len hal
      have hlo : lenOk y.x.S y.x.row.length = true := by simp only [aloneL, Bool.and_eq_true] at hal; exact hal.1.2
      have hct := chg_take hkl
      rw [show ls[k] = y.x by subst hy; simp [HLS.out], ← HL.out] at hct
      have hry := (HF.out.mod HMw.out fun b hb => ⟨HD.out b hb, id⟩).rows y hym
      obtain ⟨yA, yc, ⟨yR, yS, yrow⟩⟩ := y
      simp only at d0 d1 d2 hys hry hln hlo hct
      obtain ⟨bR, oR, rfl, hbR, qR⟩ := rdI hry (k := 0) (by rw [natI_len]; omega)
      obtain ⟨r0, hr0⟩ : ∃ r0, r0 = yrow.headD 0 := ⟨_, rfl⟩
      have hx0 : (natI yrow)[0]'(by rw [natI_len]; omega) = (r0 : Int) := by
        rw [hr0]
        cases yrow with
        | nil => simp at hln
        | cons a t => rfl
      rw [hx0, Nat.add_zero] at qR
      have hone : yrow.length = 1 → yrow = [r0] := fun h => by
        rw [hr0]
        match yrow, h with
        | [a], _ => rfl
      obtain ⟨n, hn⟩ : ∃ n, n = yrow.length := ⟨_, rfl⟩
      rw [← hn] at d2 hln hlo hone
      have hn0 : 0 < n := by omega
      have hblw : bl < wo.heap.size := Nat.lt_of_lt_of_le (HD.out _ hbl) HMw.out.size
      have hbRw : bR < wo.heap.size := Nat.lt_of_lt_of_le (HD.out _ hbR) HMw.out.size
      have HCt := Lib.hid hct
      have HOne := Lib.hid hone
      have HNn := Lib.hid hn
      clear hcell hy hym hkl hn hal hry hx0 hr0 hct hone hbl hbR
      rcases hys with rfl | rfl | rfl | rfl
      · have hn1 : n = 1 := by simpa [lenOk, stF] using hlo
        have h1 : ((n : Int) == 1) = true := by simp; omega
        have he := HOne.out hn1
        by_cases hRR : r0 = yR
        · have HT := Lib.hid (show chgL (ls.take (k + 1)) = L by rw [HCt.out, if_neg (by rw [he, hRR]; simp [moves])])
          have h2 : ((r0 : Int) == (yR : Int)) = true := by simp; omega
          clear hn1 he hRR hlo
          go_wp2
          go_quiet (fail)
          go_wp2
          exact ⟨⟨k + 1, by omega, by go_num, by rw [HT.out]; exact HO.out.mod (C := fun _ => False) (by (repeat' (first | exact Mod.refl _ _ | assumption | refine Mod.alloc ?_ _ | refine Mod.drew ?_ | refine Mod.drewN ?_ _ | refine Mod.setCell ?_ (by first | exact Or.inl rfl | (right; simp; done) | (right; simp; omega) | (left; simp; done)) _))) (fun b _ => id), by have := HMw.out; (repeat' (first | exact Mod.refl _ _ | assumption | refine Mod.alloc ?_ _ | refine Mod.drew ?_ | refine Mod.drewN ?_ _ | refine Mod.setCell ?_ (by first | exact Or.inl rfl | (right; simp; done) | (right; simp; omega) | (left; simp; done)) _))⟩, by simp only [intOf]; omega⟩
        · have HT := Lib.hid (show chgL (ls.take (k + 1)) = insI L yR by rw [HCt.out, if_pos (by rw [he]; simp [moves, isCF, stC, hRR])])
          have h2 : ((r0 : Int) == (yR : Int)) = false := by simp; omega
          clear hn1 he hRR hlo
          go_wp2
          go_quiet (fail)
          go_wp2
          refine wp_as9 (fun W => (∃ S sl, W.heap[wo.heap.size]? = some (.cells #[.int .i32 (yR : Int), S, sl] 39 (0, 0))) ∧ Mod (fun _ => False) wo W) ⟨⟨_, _, by (repeat' (first | exact hp_new _ _ | exact hp_at _ _ (by simp; done) | refine hp_alloc ?_ _ | refine hp_drew ?_ | refine hp_drewN ?_ _ | apply hp_set | refine hp_far ?_ (by first | (simp; omega) | (simp; done)) _))⟩, by (repeat' (first | exact Mod.refl _ _ | assumption | refine Mod.alloc ?_ _ | refine Mod.drew ?_ | refine Mod.drewN ?_ _ | refine Mod.setCell ?_ (by first | exact Or.inl rfl | (right; simp; done) | (right; simp; omega) | (left; simp; done)) _))⟩ ?_
          rintro W2 ⟨⟨Sx, slx, hX⟩, hM2⟩
          have xc := hp_cell hX 0
          have hs2 := hM2.size
          have hXl := hp_lt hX
          have HX := Lib.hid hX
          have HM2 := Lib.hid hM2
          have HR2 := Lib.hid (HR.out.mod hM2 fun b hb => ⟨(HFr.out b hb).2, id⟩)
          have HO2 := Lib.hid (HO.out.mod hM2 fun _ _ => id)
          have HMW := Lib.hid (HMw.out.trans' hM2)
          clear hX hM2 d0 d1 d2 qR c0 hblw hbRw h1
          go_loopw [6] (fun i wr => ∃ j : Nat, j ≤ q ∧ i = .int .i64 j ∧ (∀ m (hm : m < L.length), m < j → L[m] < (yR : Int)) ∧ ∃ nq, wr = W2.drewN nq) (fun i _ => q - (intOf i).toNat)
          case atStart => exact ⟨0, Nat.zero_le _, rfl, fun j hj h => by omega, 0, rfl⟩
          case round =>
            obtain ⟨j, hj, rfl, h1, nq, rfl⟩ := hrel
            have H1 := Lib.hid h1
            clear h1
            by_cases hjk : j < q
            · have hjx : j < L.length := by rw [← HLq.out]; exact hjk
              obtain ⟨g4, goff, he4, hgo, l0⟩ := rdI HR2.out hjx
              subst he4
              obtain ⟨z, hz⟩ : ∃ z, z = L[j] := ⟨_, rfl⟩
              rw [← hz] at l0
              have HZ := Lib.hid hz
              clear hz
              by_cases hc1 : z < (yR : Int)
              · go_wp2
                go_quiet (fail)
                go_wp2
                go_roundw
                case rel =>
                  refine ⟨j + 1, by omega, by go_num, fun m hm hmj => ?_, _, rfl⟩
                  rcases Nat.eq_or_lt_of_le (Nat.le_of_lt_succ hmj) with h | h
                  · subst h; rw [← HZ.out]; exact hc1
                  · exact H1.out m hm h
                case measure => simp only [intOf]; omega
              · have HI := Lib.hid (show chgL (ls.take (k + 1)) = L.take j ++ (yR : Int) :: L.drop j by rw [HT.out]; exact insI_at L yR j (by omega) H1.out (fun h => by rw [← HZ.out]; exact hc1))
                go_wp2
                go_quiet (fail)
                go_wp2_with (at_builtin
                             refine wpList_app (base := w.heap.size) (xs := L) (ys := [0]) (D := fun _ => True) (v := .slice (some ⟨g4, goff, none⟩) q c4) rfl (.tmp 61) (.tmp 62) rfl i32s_t csI_len csI_one rfl (HO2.out.mod (C := fun _ => False) (by (repeat' (first | exact Mod.refl _ _ | assumption | refine Mod.alloc ?_ _ | refine Mod.drew ?_ | refine Mod.drewN ?_ _ | refine Mod.setCell ?_ (by first | exact Or.inl rfl | (right; simp; done) | (right; simp; omega) | (left; simp; done)) _))) (fun b _ => id)) 1 rfl rfl (rd_oneT (g := W2.heap.size) (c := #[.int .i32 0]) (t := 21) (fr := (0, 0)) (by (repeat' (first | exact hp_new _ _ | exact hp_at _ _ (by simp; done) | refine hp_alloc ?_ _ | refine hp_drew ?_ | refine hp_drewN ?_ _ | apply hp_set | refine hp_far ?_ (by first | (simp; omega) | (simp; done)) _))) rfl) ?_ ?_ ?_ ?_
                             · rw [← HLq.out]; simp [maxLen]; omega
                             · rw [← HLq.out]; simp; omega
                             · have := HMW.out.size; simp; omega
                             intro v5 w5 hown5 hm5 hat5
                             obtain ⟨g, c5, hv5, hgb, hgl, hgf⟩ := hown5.at_ (by simp)
                             have hl5 : (L ++ [(0 : Int)]).length = q + 1 := by rw [List.length_append, ← HLq.out]; rfl
                             obtain ⟨hcap1, hcap2⟩ := hown5.cap hv5
                             rw [hl5] at hv5 hcap1
                             subst hv5
                             have hgX : ¬ wo.heap.size = g := by
                               rcases hat5 with h | h
                               · have := (HFr.out g (h.symm.trans rfl)).2; omega
                               · injection h with h; simp at h; omega
                             have HX5 := Lib.hid (show w5.heap[wo.heap.size]? = some (.cells #[.int .i32 (yR : Int), Sx, slx] 39 (0, 0)) from hp_mod (by (repeat' (first | exact HX.out | exact hp_new _ _ | refine hp_alloc ?_ _ | refine hp_drew ?_ | refine hp_drewN ?_ _ | apply hp_set | refine hp_far ?_ (by first | (simp; omega) | (simp; done)) _))) hm5 (fun h => by have := (HFr.out _ h).2; omega))
                             have M5 : Mod (fun _ => False) w w5 := (show Mod (fun _ => False) w _ by have := HMW.out; (repeat' (first | exact Mod.refl _ _ | assumption | refine Mod.alloc ?_ _ | refine Mod.drew ?_ | refine Mod.drewN ?_ _ | refine Mod.setCell ?_ (by first | exact Or.inl rfl | (right; simp; done) | (right; simp; omega) | (left; simp; done)) _))).trans hm5 (fun b hb => .inr (HFr.out b hb).1)
                             have HO5 := Lib.hid hown5
                             have HL5 := Lib.hid hl5
                             clear hown5 hm5 hl5 hat5)
                have hj1 : ¬ c5 = j + 1 := by omega
                have hj2 : ¬ c5 = j := by omega
                have hyl : (L.drop j).length = q - j := by rw [List.length_drop, ← HLq.out]
                have HYl := Lib.hid hyl
                have hr5 := rd_of5 HO5.out csI_len
                have hr5' : Rd (fun b => (Value.slice (some ⟨g, 0, none⟩) (q + 1) c5).ownBlock = some b) w5 1 csI (some ⟨g, j * 1, none⟩) (L.drop j) := by
                  have hLq := HLq.out
                  have h := rd_take (rd_drop hr5 (j := j) (by rw [HL5.out]; omega)) (q - j)
                  have e : ((L ++ [(0 : Int)]).drop j).take (q - j) = L.drop j := by
                    rw [List.drop_append_of_le_length (by omega), List.take_append_of_le_length (by omega), List.take_of_length_le (by omega)]
                  rw [e, Nat.zero_add] at h
                  exact h
                have HR5 := Lib.hid (fun X (hX : Mod (fun _ => False) w5 X) => hr5'.mod hX (fun b hb => ⟨(HO5.out.fresh b hb).2, id⟩))
                have HO5' := Lib.hid (fun X (hX : Mod (fun _ => False) w5 X) => HO5.out.mod hX (fun b _ => id))
                have hs1 : (0 : Int) ≤ (j : Int) + 1 := by omega
                have hs2' : (j : Int) + 1 ≤ (q : Int) + 1 := by omega
                have hs5 : (j : Int) ≤ (q : Int) + 1 := by omega
                have hs3 : ((j : Int) + 1).toNat = j + 1 := by omega
                have hs4 : IntKind.i64.wrap ((j : Int) + 1) = (j : Int) + 1 := IntWalk.i64_in _ (by omega)
                clear hyl hr5 hr5' xc l0
                go_region_law ((
                  refine step_copy_own (tgt := j + 1) (xs := L ++ [0]) (ys := L.drop j) (dLen := q - j) (dCap := c5 - (j + 1)) (sLen := q + 1 - j) (sCap := c5 - j) rfl (.tmp 67) (.tmp 70) rfl i32s_t csI_len csI_one ?_ rfl ?_ (HO5'.out _ (by (repeat' (first | exact Mod.refl _ _ | assumption | refine Mod.alloc ?_ _ | refine Mod.drew ?_ | refine Mod.drewN ?_ _ | refine Mod.setCell ?_ (by first | exact Or.inl rfl | (right; simp; done) | (right; simp; omega) | (left; simp; done)) _)))) HL5.out.symm (HR5.out _ (by (repeat' (first | exact Mod.refl _ _ | assumption | refine Mod.alloc ?_ _ | refine Mod.drew ?_ | refine Mod.drewN ?_ _ | refine Mod.setCell ?_ (by first | exact Or.inl rfl | (right; simp; done) | (right; simp; omega) | (left; simp; done)) _)))) ?_ ?_ ?_
                  · go_simp
                  · go_simp
                  · rw [HYl.out]; show _ = min _ _; omega
                  · rw [HYl.out]; omega
                  intro w6 hown6 hm6
                  obtain ⟨N6, hN6⟩ : ∃ N6, N6 = (L ++ [0]).take (j + 1) ++ L.drop j ++ (L ++ [0]).drop (j + 1 + (L.drop j).length) := ⟨_, rfl⟩
                  rw [← hN6] at hown6
                  have hl6 : q + 1 = N6.length := by rw [hN6]; have := HLq.out; simp; omega
                  have HS6 := Lib.hid (show N6.set j (yR : Int) = L.take j ++ (yR : Int) :: L.drop j by rw [hN6]; exact insI_mid L 0 yR j (by have := HLq.out; omega))
                  have hm6' : Mod (fun b => b = g) w5 w6 := Mod.trans' (by (repeat' (first | exact Mod.refl _ _ | assumption | refine Mod.alloc ?_ _ | refine Mod.drew ?_ | refine Mod.drewN ?_ _ | refine Mod.setCell ?_ (by first | exact Or.inl rfl | (right; simp; done) | (right; simp; omega) | (left; simp; done)) _))) hm6
                  have hm6w : Mod (fun _ => False) w w6 := M5.trans hm6' (fun b hb => by subst hb; exact .inr hgb)
                  have p0 := hp_cell (hp_mod HX5.out hm6' hgX) 0
                  obtain ⟨g', c6, hv6, -, -, hgf6⟩ := hown6.at_ (by omega)
                  rw [← hl6] at hv6
                  injection hv6 with hv7 hv8 hv9
                  injection hv7 with hv7
                  injection hv7 with hv7
                  subst hv7 hv9
                  have q0 := hown6.cell csI_len (by rw [← hl6]) (k := j) (j := 0) (by omega) rfl
                  have qf0 := hgf6 j
                  obtain ⟨e, he⟩ : ∃ e, e = N6[j]'(by omega) := ⟨_, rfl⟩
                  rw [← he, Nat.mul_one, Nat.add_zero] at q0
                  have HO6 := Lib.hid hown6
                  have HM6 := Lib.hid hm6w
                  have HL6 := Lib.hid hl6
                  clear hown6 hm6 hm6' hm6w hl6 hN6 hgf6 he))
                all_goals
                  clear hs1 hs2' hs3 hs4 hs5
                  go_wp2
                  refine ⟨⟨k + 1, by omega, by go_num, ?_, ?_⟩, by simp only [intOf]; omega⟩
                  · rw [HI.out, ← HS6.out]
                    have h9 := OwnS.set1 csI_len HO6.out HL6.out (k := j) (by omega) (j := 0) (by omega) (u := .int .i32 (yR : Int)) (y := (yR : Int)) rfl
                    rw [Nat.mul_one, Nat.add_zero] at h9
                    exact h9
                  · exact HM6.out.setCell (p := ⟨g, j, none⟩) (.inr hgb) _
            · obtain rfl : j = q := by omega
              have HI := Lib.hid (show chgL (ls.take (k + 1)) = L.take j ++ (yR : Int) :: L.drop j by rw [HT.out]; exact insI_at L yR j (by rw [← HLq.out]; exact Nat.le_refl _) H1.out (fun h => by have := HLq.out; omega))
              go_wp2
              go_quiet (fail)
              go_wp2_with (at_builtin
                           refine wpList_app (base := w.heap.size) (xs := L) (ys := [0]) (D := fun _ => True) (v := .slice A4 j c4) rfl (.tmp 61) (.tmp 62) rfl i32s_t csI_len csI_one rfl (HO2.out.mod (C := fun _ => False) (by (repeat' (first | exact Mod.refl _ _ | assumption | refine Mod.alloc ?_ _ | refine Mod.drew ?_ | refine Mod.drewN ?_ _ | refine Mod.setCell ?_ (by first | exact Or.inl rfl | (right; simp; done) | (right; simp; omega) | (left; simp; done)) _))) (fun b _ => id)) 1 rfl rfl (rd_oneT (g := W2.heap.size) (c := #[.int .i32 0]) (t := 21) (fr := (0, 0)) (by (repeat' (first | exact hp_new _ _ | exact hp_at _ _ (by simp; done) | refine hp_alloc ?_ _ | refine hp_drew ?_ | refine hp_drewN ?_ _ | apply hp_set | refine hp_far ?_ (by first | (simp; omega) | (simp; done)) _))) rfl) ?_ ?_ ?_ ?_
                           · rw [← HLq.out]; simp [maxLen]; omega
                           · rw [← HLq.out]; simp; omega
                           · have := HMW.out.size; simp; omega
                           intro v5 w5 hown5 hm5 hat5
                           obtain ⟨g, c5, hv5, hgb, hgl, hgf⟩ := hown5.at_ (by simp)
                           have hl5 : (L ++ [(0 : Int)]).length = j + 1 := by rw [List.length_append, ← HLq.out]; rfl
                           obtain ⟨hcap1, hcap2⟩ := hown5.cap hv5
                           rw [hl5] at hv5 hcap1
                           subst hv5
                           have hgX : ¬ wo.heap.size = g := by
                             rcases hat5 with h | h
                             · have := (HFr.out g (h.symm.trans rfl)).2; omega
                             · injection h with h; simp at h; omega
                           have HX5 := Lib.hid (show w5.heap[wo.heap.size]? = some (.cells #[.int .i32 (yR : Int), Sx, slx] 39 (0, 0)) from hp_mod (by (repeat' (first | exact HX.out | exact hp_new _ _ | refine hp_alloc ?_ _ | refine hp_drew ?_ | refine hp_drewN ?_ _ | apply hp_set | refine hp_far ?_ (by first | (simp; omega) | (simp; done)) _))) hm5 (fun h => by have := (HFr.out _ h).2; omega))
                           have M5 : Mod (fun _ => False) w w5 := (show Mod (fun _ => False) w _ by have := HMW.out; (repeat' (first | exact Mod.refl _ _ | assumption | refine Mod.alloc ?_ _ | refine Mod.drew ?_ | refine Mod.drewN ?_ _ | refine Mod.setCell ?_ (by first | exact Or.inl rfl | (right; simp; done) | (right; simp; omega) | (left; simp; done)) _))).trans hm5 (fun b hb => .inr (HFr.out b hb).1)
                           have HO5 := Lib.hid hown5
                           have HL5 := Lib.hid hl5
                           clear hown5 hm5 hl5 hat5)
              have p0 := hp_cell HX5.out 0
              have q0 := HO5.out.cell csI_len (by rw [HL5.out]) (k := j) (j := 0) (by rw [HL5.out]; omega) rfl
              have qf0 := hgf j
              obtain ⟨e, he⟩ : ∃ e, e = (L ++ [(0 : Int)])[j]'(by rw [HL5.out]; omega) := ⟨_, rfl⟩
              rw [← he, Nat.mul_one, Nat.add_zero] at q0
              clear hgf he xc
              have hs1 : (0 : Int) ≤ (j : Int) + 1 := by omega
              have hs5 : (j : Int) ≤ (j : Int) + 1 := by omega
              have hs3 : ((j : Int) + 1).toNat = j + 1 := by omega
              have hs4 : IntKind.i64.wrap ((j : Int) + 1) = (j : Int) + 1 := IntWalk.i64_in _ (by omega)
              have hj2 : ¬ c5 = j := by omega
              by_cases hcc : c5 = j + 1
              · subst hcc
                go_region_law ((
                  refine step_copy_zero (D := some ⟨g, 0, none⟩) (dLen := 0) (dCap := 0) (A := some ⟨g, j, none⟩) (sLen := 1) (sCap := 1) rfl (.tmp 67) (.tmp 70) rfl i32s_t ?_ ?_ rfl ?_
                  · go_simp
                  · go_simp))
                all_goals
                  clear hs1 hs3 hs4 hs5
                  go_wp2
                  refine ⟨⟨k + 1, by omega, by go_num, ?_, ?_⟩, by simp only [intOf]; omega⟩
                  · rw [HI.out]
                    have h := OwnS.set1 csI_len HO5.out HL5.out.symm (k := j) (by omega) (j := 0) (by omega) (u := .int .i32 (yR : Int)) (y := (yR : Int)) rfl
                    rw [Nat.mul_one, Nat.add_zero] at h
                    have e2 := insI_end L 0 (yR : Int)
                    rw [← HLq.out] at e2
                    rw [← e2]
                    exact h.mod (C := fun _ => False) (by (repeat' (first | exact Mod.refl _ _ | assumption | refine Mod.alloc ?_ _ | refine Mod.drew ?_ | refine Mod.drewN ?_ _ | refine Mod.setCell ?_ (by first | exact Or.inl rfl | (right; simp; done) | (right; simp; omega) | (left; simp; done)) _))) (fun b _ => id)
                  · have hm3 := M5.setCell (p := ⟨g, j, none⟩) (.inr hgb) (.int .i32 (yR : Int))
                    first | exact hm3 | exact hm3.drew
              · go_region_law ((
                  refine step_copy_zero (D := some ⟨g, j + 1, none⟩) (dLen := 0) (dCap := c5 - (j + 1)) (A := some ⟨g, j, none⟩) (sLen := 1) (sCap := c5 - j) rfl (.tmp 67) (.tmp 70) rfl i32s_t ?_ ?_ rfl ?_
                  · go_simp
                  · go_simp))
                all_goals
                  clear hs1 hs3 hs4 hs5
                  go_wp2
                  refine ⟨⟨k + 1, by omega, by go_num, ?_, ?_⟩, by simp only [intOf]; omega⟩
                  · rw [HI.out]
                    have h := OwnS.set1 csI_len HO5.out HL5.out.symm (k := j) (by omega) (j := 0) (by omega) (u := .int .i32 (yR : Int)) (y := (yR : Int)) rfl
                    rw [Nat.mul_one, Nat.add_zero] at h
                    have e2 := insI_end L 0 (yR : Int)
                    rw [← HLq.out] at e2
                    rw [← e2]
                    exact h.mod (C := fun _ => False) (by (repeat' (first | exact Mod.refl _ _ | assumption | refine Mod.alloc ?_ _ | refine Mod.drew ?_ | refine Mod.drewN ?_ _ | refine Mod.setCell ?_ (by first | exact Or.inl rfl | (right; simp; done) | (right; simp; omega) | (left; simp; done)) _))) (fun b _ => id)
                  · have hm3 := M5.setCell (p := ⟨g, j, none⟩) (.inr hgb) (.int .i32 (yR : Int))
                    first | exact hm3 | exact hm3.drew
      · have h1 : ((n : Int) == 1) = false := by simp [lenOk, stF] at hlo ⊢; omega
        have HT := Lib.hid (show chgL (ls.take (k + 1)) = insI L yR by
          rw [HCt.out, if_pos]
          have : (yrow == [yR]) = false := by
            rw [beq_eq_false_iff_ne]
            intro e
            have h3 := HNn.out
            rw [e] at h3
            simp at h3
            subst h3
            simp at h1
          simp [moves, isCF, stF, this])
        clear hlo
        go_wp2
        go_quiet (fail)
        go_wp2
        refine wp_as9 (fun W => (∃ S sl, W.heap[wo.heap.size]? = some (.cells #[.int .i32 (yR : Int), S, sl] 39 (0, 0))) ∧ Mod (fun _ => False) wo W) ⟨⟨_, _, by (repeat' (first | exact hp_new _ _ | exact hp_at _ _ (by simp; done) | refine hp_alloc ?_ _ | refine hp_drew ?_ | refine hp_drewN ?_ _ | apply hp_set | refine hp_far ?_ (by first | (simp; omega) | (simp; done)) _))⟩, by (repeat' (first | exact Mod.refl _ _ | assumption | refine Mod.alloc ?_ _ | refine Mod.drew ?_ | refine Mod.drewN ?_ _ | refine Mod.setCell ?_ (by first | exact Or.inl rfl | (right; simp; done) | (right; simp; omega) | (left; simp; done)) _))⟩ ?_
        rintro W2 ⟨⟨Sx, slx, hX⟩, hM2⟩
        have xc := hp_cell hX 0
        have hs2 := hM2.size
        have hXl := hp_lt hX
        have HX := Lib.hid hX
        have HM2 := Lib.hid hM2
        have HR2 := Lib.hid (HR.out.mod hM2 fun b hb => ⟨(HFr.out b hb).2, id⟩)
        have HO2 := Lib.hid (HO.out.mod hM2 fun _ _ => id)
        have HMW := Lib.hid (HMw.out.trans' hM2)
        clear hX hM2 d0 d1 d2 qR c0 hblw hbRw h1
        go_loopw [6] (fun i wr => ∃ j : Nat, j ≤ q ∧ i = .int .i64 j ∧ (∀ m (hm : m < L.length), m < j → L[m] < (yR : Int)) ∧ ∃ nq, wr = W2.drewN nq) (fun i _ => q - (intOf i).toNat)
        case atStart => exact ⟨0, Nat.zero_le _, rfl, fun j hj h => by omega, 0, rfl⟩
        case round =>
          obtain ⟨j, hj, rfl, h1, nq, rfl⟩ := hrel
          have H1 := Lib.hid h1
          clear h1
          by_cases hjk : j < q
          · have hjx : j < L.length := by rw [← HLq.out]; exact hjk
            obtain ⟨g4, goff, he4, hgo, l0⟩ := rdI HR2.out hjx
            subst he4
            obtain ⟨z, hz⟩ : ∃ z, z = L[j] := ⟨_, rfl⟩
            rw [← hz] at l0
            have HZ := Lib.hid hz
            clear hz
            by_cases hc1 : z < (yR : Int)
            · go_wp2
              go_quiet (fail)
              go_wp2
              go_roundw
              case rel =>
                refine ⟨j + 1, by omega, by go_num, fun m hm hmj => ?_, _, rfl⟩
                rcases Nat.eq_or_lt_of_le (Nat.le_of_lt_succ hmj) with h | h
                · subst h; rw [← HZ.out]; exact hc1
                · exact H1.out m hm h
              case measure => simp only [intOf]; omega
            · have HI := Lib.hid (show chgL (ls.take (k + 1)) = L.take j ++ (yR : Int) :: L.drop j by rw [HT.out]; exact insI_at L yR j (by omega) H1.out (fun h => by rw [← HZ.out]; exact hc1))
              go_wp2
              go_quiet (fail)
              go_wp2_with (at_builtin
                           refine wpList_app (base := w.heap.size) (xs := L) (ys := [0]) (D := fun _ => True) (v := .slice (some ⟨g4, goff, none⟩) q c4) rfl (.tmp 61) (.tmp 62) rfl i32s_t csI_len csI_one rfl (HO2.out.mod (C := fun _ => False) (by (repeat' (first | exact Mod.refl _ _ | assumption | refine Mod.alloc ?_ _ | refine Mod.drew ?_ | refine Mod.drewN ?_ _ | refine Mod.setCell ?_ (by first | exact Or.inl rfl | (right; simp; done) | (right; simp; omega) | (left; simp; done)) _))) (fun b _ => id)) 1 rfl rfl (rd_oneT (g := W2.heap.size) (c := #[.int .i32 0]) (t := 21) (fr := (0, 0)) (by (repeat' (first | exact hp_new _ _ | exact hp_at _ _ (by simp; done) | refine hp_alloc ?_ _ | refine hp_drew ?_ | refine hp_drewN ?_ _ | apply hp_set | refine hp_far ?_ (by first | (simp; omega) | (simp; done)) _))) rfl) ?_ ?_ ?_ ?_
                           · rw [← HLq.out]; simp [maxLen]; omega
                           · rw [← HLq.out]; simp; omega
                           · have := HMW.out.size; simp; omega
                           intro v5 w5 hown5 hm5 hat5
                           obtain ⟨g, c5, hv5, hgb, hgl, hgf⟩ := hown5.at_ (by simp)
                           have hl5 : (L ++ [(0 : Int)]).length = q + 1 := by rw [List.length_append, ← HLq.out]; rfl
                           obtain ⟨hcap1, hcap2⟩ := hown5.cap hv5
                           rw [hl5] at hv5 hcap1
                           subst hv5
                           have hgX : ¬ wo.heap.size = g := by
                             rcases hat5 with h | h
                             · have := (HFr.out g (h.symm.trans rfl)).2; omega
                             · injection h with h; simp at h; omega
                           have HX5 := Lib.hid (show w5.heap[wo.heap.size]? = some (.cells #[.int .i32 (yR : Int), Sx, slx] 39 (0, 0)) from hp_mod (by (repeat' (first | exact HX.out | exact hp_new _ _ | refine hp_alloc ?_ _ | refine hp_drew ?_ | refine hp_drewN ?_ _ | apply hp_set | refine hp_far ?_ (by first | (simp; omega) | (simp; done)) _))) hm5 (fun h => by have := (HFr.out _ h).2; omega))
                           have M5 : Mod (fun _ => False) w w5 := (show Mod (fun _ => False) w _ by have := HMW.out; (repeat' (first | exact Mod.refl _ _ | assumption | refine Mod.alloc ?_ _ | refine Mod.drew ?_ | refine Mod.drewN ?_ _ | refine Mod.setCell ?_ (by first | exact Or.inl rfl | (right; simp; done) | (right; simp; omega) | (left; simp; done)) _))).trans hm5 (fun b hb => .inr (HFr.out b hb).1)
                           have HO5 := Lib.hid hown5
                           have HL5 := Lib.hid hl5
                           clear hown5 hm5 hl5 hat5)
              have hj1 : ¬ c5 = j + 1 := by omega
              have hj2 : ¬ c5 = j := by omega
              have hyl : (L.drop j).length = q - j := by rw [List.length_drop, ← HLq.out]
              have HYl := Lib.hid hyl
              have hr5 := rd_of5 HO5.out csI_len
              have hr5' : Rd (fun b => (Value.slice (some ⟨g, 0, none⟩) (q + 1) c5).ownBlock = some b) w5 1 csI (some ⟨g, j * 1, none⟩) (L.drop j) := by
                have hLq := HLq.out
                have h := rd_take (rd_drop hr5 (j := j) (by rw [HL5.out]; omega)) (q - j)
                have e : ((L ++ [(0 : Int)]).drop j).take (q - j) = L.drop j := by
                  rw [List.drop_append_of_le_length (by omega), List.take_append_of_le_length (by omega), List.take_of_length_le (by omega)]
                rw [e, Nat.zero_add] at h
                exact h
              have HR5 := Lib.hid (fun X (hX : Mod (fun _ => False) w5 X) => hr5'.mod hX (fun b hb => ⟨(HO5.out.fresh b hb).2, id⟩))
              have HO5' := Lib.hid (fun X (hX : Mod (fun _ => False) w5 X) => HO5.out.mod hX (fun b _ => id))
              have hs1 : (0 : Int) ≤ (j : Int) + 1 := by omega
              have hs2' : (j : Int) + 1 ≤ (q : Int) + 1 := by omega
              have hs5 : (j : Int) ≤ (q : Int) + 1 := by omega
              have hs3 : ((j : Int) + 1).toNat = j + 1 := by omega
              have hs4 : IntKind.i64.wrap ((j : Int) + 1) = (j : Int) + 1 := IntWalk.i64_in _ (by omega)
              clear hyl hr5 hr5' xc l0
              go_region_law ((
                refine step_copy_own (tgt := j + 1) (xs := L ++ [0]) (ys := L.drop j) (dLen := q - j) (dCap := c5 - (j + 1)) (sLen := q + 1 - j) (sCap := c5 - j) rfl (.tmp 67) (.tmp 70) rfl i32s_t csI_len csI_one ?_ rfl ?_ (HO5'.out _ (by (repeat' (first | exact Mod.refl _ _ | assumption | refine Mod.alloc ?_ _ | refine Mod.drew ?_ | refine Mod.drewN ?_ _ | refine Mod.setCell ?_ (by first | exact Or.inl rfl | (right; simp; done) | (right; simp; omega) | (left; simp; done)) _)))) HL5.out.symm (HR5.out _ (by (repeat' (first | exact Mod.refl _ _ | assumption | refine Mod.alloc ?_ _ | refine Mod.drew ?_ | refine Mod.drewN ?_ _ | refine Mod.setCell ?_ (by first | exact Or.inl rfl | (right; simp; done) | (right; simp; omega) | (left; simp; done)) _)))) ?_ ?_ ?_
                · go_simp
                · go_simp
                · rw [HYl.out]; show _ = min _ _; omega
                · rw [HYl.out]; omega
                intro w6 hown6 hm6
                obtain ⟨N6, hN6⟩ : ∃ N6, N6 = (L ++ [0]).take (j + 1) ++ L.drop j ++ (L ++ [0]).drop (j + 1 + (L.drop j).length) := ⟨_, rfl⟩
                rw [← hN6] at hown6
                have hl6 : q + 1 = N6.length := by rw [hN6]; have := HLq.out; simp; omega
                have HS6 := Lib.hid (show N6.set j (yR : Int) = L.take j ++ (yR : Int) :: L.drop j by rw [hN6]; exact insI_mid L 0 yR j (by have := HLq.out; omega))
                have hm6' : Mod (fun b => b = g) w5 w6 := Mod.trans' (by (repeat' (first | exact Mod.refl _ _ | assumption | refine Mod.alloc ?_ _ | refine Mod.drew ?_ | refine Mod.drewN ?_ _ | refine Mod.setCell ?_ (by first | exact Or.inl rfl | (right; simp; done) | (right; simp; omega) | (left; simp; done)) _))) hm6
                have hm6w : Mod (fun _ => False) w w6 := M5.trans hm6' (fun b hb => by subst hb; exact .inr hgb)
                have p0 := hp_cell (hp_mod HX5.out hm6' hgX) 0
                obtain ⟨g', c6, hv6, -, -, hgf6⟩ := hown6.at_ (by omega)
                rw [← hl6] at hv6
                injection hv6 with hv7 hv8 hv9
                injection hv7 with hv7
                injection hv7 with hv7
                subst hv7 hv9
                have q0 := hown6.cell csI_len (by rw [← hl6]) (k := j) (j := 0) (by omega) rfl
                have qf0 := hgf6 j
                obtain ⟨e, he⟩ : ∃ e, e = N6[j]'(by omega) := ⟨_, rfl⟩
                rw [← he, Nat.mul_one, Nat.add_zero] at q0
                have HO6 := Lib.hid hown6
                have HM6 := Lib.hid hm6w
                have HL6 := Lib.hid hl6
                clear hown6 hm6 hm6' hm6w hl6 hN6 hgf6 he))
              all_goals
                clear hs1 hs2' hs3 hs4 hs5
                go_wp2
                refine ⟨⟨k + 1, by omega, by go_num, ?_, ?_⟩, by simp only [intOf]; omega⟩
                · rw [HI.out, ← HS6.out]
                  have h9 := OwnS.set1 csI_len HO6.out HL6.out (k := j) (by omega) (j := 0) (by omega) (u := .int .i32 (yR : Int)) (y := (yR : Int)) rfl
                  rw [Nat.mul_one, Nat.add_zero] at h9
                  exact h9
                · exact HM6.out.setCell (p := ⟨g, j, none⟩) (.inr hgb) _
          · obtain rfl : j = q := by omega
            have HI := Lib.hid (show chgL (ls.take (k + 1)) = L.take j ++ (yR : Int) :: L.drop j by rw [HT.out]; exact insI_at L yR j (by rw [← HLq.out]; exact Nat.le_refl _) H1.out (fun h => by have := HLq.out; omega))
            go_wp2
            go_quiet (fail)
            go_wp2_with (at_builtin
                         refine wpList_app (base := w.heap.size) (xs := L) (ys := [0]) (D := fun _ => True) (v := .slice A4 j c4) rfl (.tmp 61) (.tmp 62) rfl i32s_t csI_len csI_one rfl (HO2.out.mod (C := fun _ => False) (by (repeat' (first | exact Mod.refl _ _ | assumption | refine Mod.alloc ?_ _ | refine Mod.drew ?_ | refine Mod.drewN ?_ _ | refine Mod.setCell ?_ (by first | exact Or.inl rfl | (right; simp; done) | (right; simp; omega) | (left; simp; done)) _))) (fun b _ => id)) 1 rfl rfl (rd_oneT (g := W2.heap.size) (c := #[.int .i32 0]) (t := 21) (fr := (0, 0)) (by (repeat' (first | exact hp_new _ _ | exact hp_at _ _ (by simp; done) | refine hp_alloc ?_ _ | refine hp_drew ?_ | refine hp_drewN ?_ _ | apply hp_set | refine hp_far ?_ (by first | (simp; omega) | (simp; done)) _))) rfl) ?_ ?_ ?_ ?_
                         · rw [← HLq.out]; simp [maxLen]; omega
                         · rw [← HLq.out]; simp; omega
                         · have := HMW.out.size; simp; omega
                         intro v5 w5 hown5 hm5 hat5
                         obtain ⟨g, c5, hv5, hgb, hgl, hgf⟩ := hown5.at_ (by simp)
                         have hl5 : (L ++ [(0 : Int)]).length = j + 1 := by rw [List.length_append, ← HLq.out]; rfl
                         obtain ⟨hcap1, hcap2⟩ := hown5.cap hv5
                         rw [hl5] at hv5 hcap1
                         subst hv5
                         have hgX : ¬ wo.heap.size = g := by
                           rcases hat5 with h | h
                           · have := (HFr.out g (h.symm.trans rfl)).2; omega
                           · injection h with h; simp at h; omega
                         have HX5 := Lib.hid (show w5.heap[wo.heap.size]? = some (.cells #[.int .i32 (yR : Int), Sx, slx] 39 (0, 0)) from hp_mod (by (repeat' (first | exact HX.out | exact hp_new _ _ | refine hp_alloc ?_ _ | refine hp_drew ?_ | refine hp_drewN ?_ _ | apply hp_set | refine hp_far ?_ (by first | (simp; omega) | (simp; done)) _))) hm5 (fun h => by have := (HFr.out _ h).2; omega))
                         have M5 : Mod (fun _ => False) w w5 := (show Mod (fun _ => False) w _ by have := HMW.out; (repeat' (first | exact Mod.refl _ _ | assumption | refine Mod.alloc ?_ _ | refine Mod.drew ?_ | refine Mod.drewN ?_ _ | refine Mod.setCell ?_ (by first | exact Or.inl rfl | (right; simp; done) | (right; simp; omega) | (left; simp; done)) _))).trans hm5 (fun b hb => .inr (HFr.out b hb).1)
                         have HO5 := Lib.hid hown5
                         have HL5 := Lib.hid hl5
                         clear hown5 hm5 hl5 hat5)
            have p0 := hp_cell HX5.out 0
            have q0 := HO5.out.cell csI_len (by rw [HL5.out]) (k := j) (j := 0) (by rw [HL5.out]; omega) rfl
            have qf0 := hgf j
            obtain ⟨e, he⟩ : ∃ e, e = (L ++ [(0 : Int)])[j]'(by rw [HL5.out]; omega) := ⟨_, rfl⟩
            rw [← he, Nat.mul_one, Nat.add_zero] at q0
            clear hgf he xc
            have hs1 : (0 : Int) ≤ (j : Int) + 1 := by omega
            have hs5 : (j : Int) ≤ (j : Int) + 1 := by omega
            have hs3 : ((j : Int) + 1).toNat = j + 1 := by omega
            have hs4 : IntKind.i64.wrap ((j : Int) + 1) = (j : Int) + 1 := IntWalk.i64_in _ (by omega)
            have hj2 : ¬ c5 = j := by omega
            by_cases hcc : c5 = j + 1
            · subst hcc
              go_region_law ((
                refine step_copy_zero (D := some ⟨g, 0, none⟩) (dLen := 0) (dCap := 0) (A := some ⟨g, j, none⟩) (sLen := 1) (sCap := 1) rfl (.tmp 67) (.tmp 70) rfl i32s_t ?_ ?_ rfl ?_
                · go_simp
                · go_simp))
              all_goals
                clear hs1 hs3 hs4 hs5
                go_wp2
                refine ⟨⟨k + 1, by omega, by go_num, ?_, ?_⟩, by simp only [intOf]; omega⟩
                · rw [HI.out]
                  have h := OwnS.set1 csI_len HO5.out HL5.out.symm (k := j) (by omega) (j := 0) (by omega) (u := .int .i32 (yR : Int)) (y := (yR : Int)) rfl
                  rw [Nat.mul_one, Nat.add_zero] at h
                  have e2 := insI_end L 0 (yR : Int)
                  rw [← HLq.out] at e2
                  rw [← e2]
                  exact h.mod (C := fun _ => False) (by (repeat' (first | exact Mod.refl _ _ | assumption | refine Mod.alloc ?_ _ | refine Mod.drew ?_ | refine Mod.drewN ?_ _ | refine Mod.setCell ?_ (by first | exact Or.inl rfl | (right; simp; done) | (right; simp; omega) | (left; simp; done)) _))) (fun b _ => id)
                · have hm3 := M5.setCell (p := ⟨g, j, none⟩) (.inr hgb) (.int .i32 (yR : Int))
                  first | exact hm3 | exact hm3.drew
            · go_region_law ((
                refine step_copy_zero (D := some ⟨g, j + 1, none⟩) (dLen := 0) (dCap := c5 - (j + 1)) (A := some ⟨g, j, none⟩) (sLen := 1) (sCap := c5 - j) rfl (.tmp 67) (.tmp 70) rfl i32s_t ?_ ?_ rfl ?_
                · go_simp
                · go_simp))
              all_goals
                clear hs1 hs3 hs4 hs5
                go_wp2
                refine ⟨⟨k + 1, by omega, by go_num, ?_, ?_⟩, by simp only [intOf]; omega⟩
                · rw [HI.out]
                  have h := OwnS.set1 csI_len HO5.out HL5.out.symm (k := j) (by omega) (j := 0) (by omega) (u := .int .i32 (yR : Int)) (y := (yR : Int)) rfl
                  rw [Nat.mul_one, Nat.add_zero] at h
                  have e2 := insI_end L 0 (yR : Int)
                  rw [← HLq.out] at e2
                  rw [← e2]
                  exact h.mod (C := fun _ => False) (by (repeat' (first | exact Mod.refl _ _ | assumption | refine Mod.alloc ?_ _ | refine Mod.drew ?_ | refine Mod.drewN ?_ _ | refine Mod.setCell ?_ (by first | exact Or.inl rfl | (right; simp; done) | (right; simp; omega) | (left; simp; done)) _))) (fun b _ => id)
                · have hm3 := M5.setCell (p := ⟨g, j, none⟩) (.inr hgb) (.int .i32 (yR : Int))
                  first | exact hm3 | exact hm3.drew
      · have HT := Lib.hid (show chgL (ls.take (k + 1)) = L by rw [HCt.out, if_neg (by simp [moves, isCF, stC, stF])])
        clear hlo
        go_wp2
        go_quiet (fail)
        go_wp2
        exact ⟨⟨k + 1, by omega, by go_num, by rw [HT.out]; exact HO.out.mod (C := fun _ => False) (by (repeat' (first | exact Mod.refl _ _ | assumption | refine Mod.alloc ?_ _ | refine Mod.drew ?_ | refine Mod.drewN ?_ _ | refine Mod.setCell ?_ (by first | exact Or.inl rfl | (right; simp; done) | (right; simp; omega) | (left; simp; done)) _))) (fun b _ => id), by have := HMw.out; (repeat' (first | exact Mod.refl _ _ | assumption | refine Mod.alloc ?_ _ | refine Mod.drew ?_ | refine Mod.drewN ?_ _ | refine Mod.setCell ?_ (by first | exact Or.inl rfl | (right; simp; done) | (right; simp; omega) | (left; simp; done)) _))⟩, by simp only [intOf]; omega⟩
      · have HT := Lib.hid (show chgL (ls.take (k + 1)) = L by rw [HCt.out, if_neg (by simp [moves, isCF, stC, stF])])
        clear hlo
        go_wp2
        go_quiet (fail)
        go_wp2
        exact ⟨⟨k + 1, by omega, by go_num, by rw [HT.out]; exact HO.out.mod (C := fun _ => False) (by (repeat' (first | exact Mod.refl _ _ | assumption | refine Mod.alloc ?_ _ | refine Mod.drew ?_ | refine Mod.drewN ?_ _ | refine Mod.setCell ?_ (by first | exact Or.inl rfl | (right; simp; done) | (right; simp; omega) | (left; simp; done)) _))) (fun b _ => id), by have := HMw.out; (repeat' (first | exact Mod.refl _ _ | assumption | refine Mod.alloc ?_ _ | refine Mod.drew ?_ | refine Mod.drewN ?_ _ | refine Mod.setCell ?_ (by first | exact Or.inl rfl | (right; simp; done) | (right; simp; omega) | (left; simp; done)) _))⟩, by simp only [intOf]; omega⟩
    · obtain rfl : k = m := by omega
      have HE := Lib.hid (show L = chgL ls by rw [HL.out, List.take_of_length_le (by rw [HLS.out, List.length_map, HM.out]; exact Nat.le_refl _)])
      go_wp2
      go_ret
      exact ⟨_, rfl, by rw [← HE.out]; exact HO.out, HMw.out⟩
end Go.Proofs.YtidbgfmknhlmnaaGreatDoor
