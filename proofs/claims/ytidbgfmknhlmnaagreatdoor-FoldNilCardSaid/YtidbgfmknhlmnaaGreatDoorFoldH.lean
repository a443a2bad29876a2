/-
  The reference's foldings: whether a line may stand.
-/
import Derived.Test.YtidbgfmknhlmnaaGreatDoorFoldG
namespace Go.Proofs.YtidbgfmknhlmnaaGreatDoor
open Go.RowKit Go.Shelf Go.Sort
attribute [local go_sem] Oper.semAt_some

def FH.cs (h : FH) : List Value := [.int .i32 (h.x.R : Int), .string ⟨h.x.S.toArray⟩, h.sl]
theorem FH.cs_len (h : FH) : h.cs.length = 3 := rfl
theorem FH.cs_one (h : FH) : ∀ u ∈ h.cs, u.oneCell' = true := by simp [FH.cs, FH.sl, Value.oneCell']
theorem lenOk_n {S : Bs} {n : Nat} (hS : S = [67] ∨ S = [83] ∨ S = [84]) : lenOk S n = decide (n = 1) := by
  rcases hS with rfl | rfl | rfl <;> rfl
theorem clashL_take {ls : List FL} {x : FL} {k : Nat} (h : k < ls.length) : clashL (ls.take (k + 1)) x = (clashL (ls.take k) x || (decide (ls[k].R = x.R) && clashS ls[k].S x.S)) := by
  unfold clashL
  rw [List.take_succ_eq_append_getElem h, List.any_append]
  simp only [List.any_cons, List.any_nil, Bool.or_false]
  rfl
set_option maxRecDepth 100000 in
set_option maxHeartbeats 16000000 in
theorem gmay_any (D : Nat → Prop) (A : Option Addr) (c : Nat) (hs : List FH) (r : Nat) (S : Bs) (Ax : Option Addr) (cx : Nat) (row : List Nat) (w : World) (hA : Rd D w 3 FH.cs A hs) (hx : Rd D w 1 csI Ax (natI row)) (hD : ∀ b, D b → b < w.heap.size)
    (hG : ∀ x ∈ hs.map FH.x, aloneL x = true) (hl : hs.length ≤ 1000000) (hr : row.length ≤ 1000000) :
    Calls Tryz.prog 34 #[.slice A hs.length c, .agg #[.int .i32 (r : Int), .string ⟨S.toArray⟩, .slice Ax row.length cx]] w fun e w' => e = .returned (.bool (mayL (hs.map FH.x) ⟨r, S, row⟩)) ∧ Mod (fun _ => False) w w' := by
  obtain ⟨z, hz⟩ : ∃ z, z = mayL (hs.map FH.x) ⟨r, S, row⟩ := ⟨_, rfl⟩
  obtain ⟨n, hn⟩ : ∃ n, n = row.length := ⟨_, rfl⟩
  obtain ⟨m, hm⟩ : ∃ m, m = hs.length := ⟨_, rfl⟩
  obtain ⟨s, hs'⟩ : ∃ s, s = surI (r : Int) := ⟨_, rfl⟩
  have hz2 : z = ((!s && stIs S && lenOk S n && !(natI row).any surI) && !clashL (hs.map FH.x) ⟨r, S, row⟩) := by
    rw [hz, hs', hn]
    have hrow : (natI row).any surI = row.any surN := by
      unfold natI
      rw [List.any_map]
      congr 1
      funext x
      exact surI_nat x
    rw [hrow, surI_nat, ← all_sur]
    rfl
  rw [← hz, ← hn, ← hm]
  rw [← hn] at hr
  rw [← hm] at hl
  have HZ := Lib.hid hz2
  have HN := Lib.hid hn
  have HM := Lib.hid hm
  have HS := Lib.hid (fun X => gsur_any (r : Int) X)
  rw [← hs'] at HS
  have HA := Lib.hid hA
  have HX := Lib.hid hx
  have HD := Lib.hid hD
  have HG := Lib.hid hG
  clear hz hz2 hn hm hs' hA hx hD hG
  cases s
  case true =>
    have HF := Lib.hid (show z = false by rw [HZ.out]; rfl)
    go_enter Tryz.func34, Tryz.ntmps34
    go_wp2_with (first
      | (go_at_call 55; (with_reducible refine (HS.out _).mono ?_); rintro e w2 ⟨rfl, rfl⟩)
      | fail)
    go_ret
    exact ⟨by rw [HF.out]; rfl, by (repeat' (first | exact Mod.refl _ _ | assumption | refine Mod.alloc ?_ _ | refine Mod.drew ?_ | refine Mod.drewN ?_ _ | refine Mod.setCell ?_ (by first | exact Or.inl rfl | (right; simp; done) | (right; simp; omega) | (left; simp; done)) _))⟩
  by_cases hst : stIs S = true
  case neg =>
    have hst : stIs S = false := by simpa using hst
    have HF := Lib.hid (show z = false by rw [HZ.out, hst]; simp)
    obtain ⟨n1, n2, n3, n4⟩ : ¬ S = [67] ∧ ¬ S = [70] ∧ ¬ S = [83] ∧ ¬ S = [84] := by
      simp only [stIs, Bool.or_eq_false_iff, beq_eq_false_iff_ne, ne_eq] at hst
      exact ⟨hst.1.1.1, hst.1.1.2, hst.1.2, hst.2⟩
    have e1 : (S == [67]) = false := by simpa using n1
    have e2 : (S == [70]) = false := by simpa using n2
    have e3 : (S == [83]) = false := by simpa using n3
    have e4 : (S == [84]) = false := by simpa using n4
    clear hst
    go_enter Tryz.func34, Tryz.ntmps34
    go_wp2_with (first
      | (go_at_call 55; (with_reducible refine (HS.out _).mono ?_); rintro e w2 ⟨rfl, rfl⟩)
      | fail)
    go_ret
    exact ⟨by rw [HF.out]; rfl, by (repeat' (first | exact Mod.refl _ _ | assumption | refine Mod.alloc ?_ _ | refine Mod.drew ?_ | refine Mod.drewN ?_ _ | refine Mod.setCell ?_ (by first | exact Or.inl rfl | (right; simp; done) | (right; simp; omega) | (left; simp; done)) _))⟩
  have hS := st_one hst
  have HSt := Lib.hid hst
  by_cases hlo : lenOk S n = true
  case neg =>
    have hlo : lenOk S n = false := by simpa using hlo
    have HF := Lib.hid (show z = false by rw [HZ.out, hlo]; simp)
    rcases hS with rfl | rfl | rfl | rfl
    · have h1 : ((n : Int) != 1) = true := by simp [lenOk, stF] at hlo ⊢; omega
      clear hlo hst
      go_enter Tryz.func34, Tryz.ntmps34
      go_wp2_with (first
        | (go_at_call 55; (with_reducible refine (HS.out _).mono ?_); rintro e w2 ⟨rfl, rfl⟩)
        | fail)
      go_ret
      exact ⟨by rw [HF.out]; rfl, by (repeat' (first | exact Mod.refl _ _ | assumption | refine Mod.alloc ?_ _ | refine Mod.drew ?_ | refine Mod.drewN ?_ _ | refine Mod.setCell ?_ (by first | exact Or.inl rfl | (right; simp; done) | (right; simp; omega) | (left; simp; done)) _))⟩
    · have h2 : ((n : Int) != 2) = true := by simp [lenOk, stF] at hlo ⊢; omega
      have h3 : ((n : Int) != 3) = true := by simp [lenOk, stF] at hlo ⊢; omega
      clear hlo hst
      go_enter Tryz.func34, Tryz.ntmps34
      go_wp2_with (first
        | (go_at_call 55; (with_reducible refine (HS.out _).mono ?_); rintro e w2 ⟨rfl, rfl⟩)
        | fail)
      go_ret
      exact ⟨by rw [HF.out]; rfl, by (repeat' (first | exact Mod.refl _ _ | assumption | refine Mod.alloc ?_ _ | refine Mod.drew ?_ | refine Mod.drewN ?_ _ | refine Mod.setCell ?_ (by first | exact Or.inl rfl | (right; simp; done) | (right; simp; omega) | (left; simp; done)) _))⟩
    · have h1 : ((n : Int) != 1) = true := by simp [lenOk, stF] at hlo ⊢; omega
      clear hlo hst
      go_enter Tryz.func34, Tryz.ntmps34
      go_wp2_with (first
        | (go_at_call 55; (with_reducible refine (HS.out _).mono ?_); rintro e w2 ⟨rfl, rfl⟩)
        | fail)
      go_ret
      exact ⟨by rw [HF.out]; rfl, by (repeat' (first | exact Mod.refl _ _ | assumption | refine Mod.alloc ?_ _ | refine Mod.drew ?_ | refine Mod.drewN ?_ _ | refine Mod.setCell ?_ (by first | exact Or.inl rfl | (right; simp; done) | (right; simp; omega) | (left; simp; done)) _))⟩
    · have h1 : ((n : Int) != 1) = true := by simp [lenOk, stF] at hlo ⊢; omega
      clear hlo hst
      go_enter Tryz.func34, Tryz.ntmps34
      go_wp2_with (first
        | (go_at_call 55; (with_reducible refine (HS.out _).mono ?_); rintro e w2 ⟨rfl, rfl⟩)
        | fail)
      go_ret
      exact ⟨by rw [HF.out]; rfl, by (repeat' (first | exact Mod.refl _ _ | assumption | refine Mod.alloc ?_ _ | refine Mod.drew ?_ | refine Mod.drewN ?_ _ | refine Mod.setCell ?_ (by first | exact Or.inl rfl | (right; simp; done) | (right; simp; omega) | (left; simp; done)) _))⟩
  have HLo := Lib.hid hlo
  rcases hS with rfl | rfl | rfl | rfl
  · have h1 : ((n : Int) != 1) = false := by simp [lenOk, stF] at hlo ⊢; omega
    clear hlo hst
    go_enter Tryz.func34, Tryz.ntmps34
    go_wp2_with (first
      | (go_at_call 55; (with_reducible refine (HS.out _).mono ?_); rintro e w2 ⟨rfl, rfl⟩)
      | fail)
    obtain ⟨B, hB⟩ : ∃ B, B = w.heap.size := ⟨_, rfl⟩
    obtain ⟨W1, hW1⟩ : ∃ W1, W1 = w.alloc (.cells #[.int .i32 (r : Int), .string ⟨#[67]⟩, .slice Ax n cx] 39) := ⟨_, rfl⟩
    have hb1 : W1.heap[w.heap.size]? = some (.cells #[.int .i32 (r : Int), .string ⟨#[67]⟩, .slice Ax n cx] 39 (0, 0)) := by subst hW1; exact hp_new _ _
    have hm1 : Mod (fun _ => False) w W1 := by subst hW1; (repeat' (first | exact Mod.refl _ _ | assumption | refine Mod.alloc ?_ _ | refine Mod.drew ?_ | refine Mod.drewN ?_ _ | refine Mod.setCell ?_ (by first | exact Or.inl rfl | (right; simp; done) | (right; simp; omega) | (left; simp; done)) _))
    rw [← hW1]
    rw [← hB] at hb1 ⊢
    have HB1 := Lib.hid hb1
    have HM1 := Lib.hid hm1
    have HBB := Lib.hid hB
    clear hW1 hb1 hm1 hB
    go_loopw [6] (fun i wr => ∃ k : Nat, k ≤ n ∧ i = .int .i64 k ∧ ((natI row).take k).any surI = false ∧ Mod (fun _ => False) W1 wr) (fun i _ => n - (intOf i).toNat)
    case atStart => exact ⟨0, Nat.zero_le _, rfl, rfl, Mod.refl _ _⟩
    case round =>
      obtain ⟨k, hk, rfl, ha, hmw⟩ := hrel
      have HAny := Lib.hid ha
      have MM := Lib.hid hmw
      have hbb := hp_mod HB1.out hmw id
      have c2 := hp_cell hbb 2
      clear ha hmw
      by_cases hlt : k < n
      · have hkx : k < (natI row).length := by rw [natI_len, ← HN.out]; exact hlt
        obtain ⟨b, off, rfl, -, q1⟩ := rdI (HX.out.mod (HM1.out.trans' MM.out) (fun b hb => ⟨HD.out b hb, id⟩)) hkx
        obtain ⟨x, hx⟩ : ∃ x, x = (natI row)[k] := ⟨_, rfl⟩
        rw [← hx] at q1
        have HT := Lib.hid (show (natI row).take (k + 1) = (natI row).take k ++ [x] by rw [hx]; exact List.take_succ_eq_append_getElem hkx)
        have HXm := Lib.hid (show x ∈ natI row by rw [hx]; exact List.getElem_mem hkx)
        have HSx := Lib.hid (fun X => gsur_any x X)
        obtain ⟨sx, hsx⟩ : ∃ sx, sx = surI x := ⟨_, rfl⟩
        rw [← hsx] at HSx
        have HSX := Lib.hid hsx
        clear hx hsx hbb
        cases sx
        · go_wp2_with (first | (go_at_call 55; (with_reducible refine (HSx.out _).mono ?_); rintro e w2 ⟨rfl, rfl⟩) | fail)
          exact ⟨⟨k + 1, by omega, by go_num, by rw [HT.out, List.any_append, HAny.out, List.any_cons, ← HSX.out]; rfl, MM.out⟩, by simp only [intOf]; omega⟩
        · have HF := Lib.hid (show z = false by rw [HZ.out, show (natI row).any surI = true from List.any_eq_true.2 ⟨x, HXm.out, HSX.out.symm⟩]; simp)
          go_wp2_with (first | (go_at_call 55; (with_reducible refine (HSx.out _).mono ?_); rintro e w2 ⟨rfl, rfl⟩) | fail)
          go_ret
          exact ⟨by rw [HF.out]; rfl, HM1.out.trans' MM.out⟩
      · obtain rfl : k = n := by omega
        have HNo := Lib.hid (show (natI row).any surI = false by have := HAny.out; rwa [HN.out, ← natI_len row, List.take_length] at this)
        clear hbb c2
        go_wp2
        obtain ⟨W2, hW2⟩ : ∃ W2 : World, W2 = wr := ⟨_, rfl⟩
        rw [← hW2] at MM ⊢
        clear hW2
        go_loopw [7] (fun i wr => ∃ k : Nat, k ≤ m ∧ i = .int .i64 k ∧ clashL ((hs.map FH.x).take k) ⟨r, [67], row⟩ = false ∧ Mod (fun _ => False) W2 wr) (fun i _ => m - (intOf i).toNat)
        case atStart => exact ⟨0, Nat.zero_le _, rfl, rfl, Mod.refl _ _⟩
        case round =>
          obtain ⟨k2, hk2, rfl, hcl, hmw⟩ := hrel
          have MM2 := Lib.hid (MM.out.trans' hmw)
          have MMr := Lib.hid hmw
          have HCl := Lib.hid hcl
          have hbb := hp_mod HB1.out MM2.out id
          have c0 := hp_cell hbb 0
          have c1 := hp_cell hbb 1
          clear hcl hmw
          by_cases hlt : k2 < m
          · have hkx : k2 < hs.length := by rw [← HM.out]; exact hlt
            have hkl : k2 < (hs.map FH.x).length := by rw [List.length_map]; exact hkx
            obtain ⟨bl, ol, rfl, hbl, hcell⟩ := (HA.out.mod (HM1.out.trans' MM2.out) (fun b hb => ⟨HD.out b hb, id⟩)) (by omega)
            obtain ⟨y, hy⟩ : ∃ y, y = hs[k2].x := ⟨_, rfl⟩
            have d0 : wr.cell? ⟨bl, ol + k2 * 3, none⟩ = some (.int .i32 (y.R : Int)) := by rw [hy]; exact hcell k2 hkx 0 _ rfl
            have d1 : wr.cell? ⟨bl, ol + k2 * 3 + 1, none⟩ = some (.string ⟨y.S.toArray⟩) := by rw [hy]; exact hcell k2 hkx 1 _ rfl
            have hys := st_one (aloneL_st (HG.out y (by rw [hy]; exact List.mem_map_of_mem (List.getElem_mem _))))
            have HT := Lib.hid (show clashL ((hs.map FH.x).take (k2 + 1)) ⟨r, [67], row⟩ = (decide (y.R = r) && clashS y.S [67]) by
              rw [clashL_take hkl, HCl.out, Bool.false_or, hy, List.getElem_map])
            have HHit := Lib.hid (show (decide (y.R = r) && clashS y.S [67]) = true → z = false from fun h => by
              rw [HZ.out]
              have h1 : clashL (hs.map FH.x) ⟨r, [67], row⟩ = true := by
                unfold clashL
                rw [List.any_eq_true]
                refine ⟨y, by rw [hy]; exact List.mem_map_of_mem (List.getElem_mem _), ?_⟩
                rw [← h]; rfl
              rw [h1]; simp)
            obtain ⟨yR, yS, yrow⟩ := y
            simp only at d0 d1 hys HT HHit
            clear hcell hy hbb hkl
            by_cases hR : yR = r
            · subst hR
              have hRe : ((yR : Int) != (yR : Int)) = false := by simp
              have HT2 := Lib.hid (show clashL ((hs.map FH.x).take (k2 + 1)) ⟨yR, [67], row⟩ = clashS yS [67] by rw [HT.out]; simp)
              have HHit2 := Lib.hid (show clashS yS [67] = true → z = false from fun h => HHit.out (by simp [h]))
              clear HT HHit
              have hcat : ∀ a b : UInt8, (({ data := #[a] } : ByteArray) ++ { data := #[b] }) = { data := #[a, b] } := fun _ _ => rfl
              rcases hys with rfl | rfl | rfl | rfl
              all_goals
                go_wp2
                go_quiet (fail)
                go_wp2
                go_quiet (fail)
                go_wp2
                go_quiet (fail)
                go_wp2
                first
                | (go_ret
                   exact ⟨by rw [HHit2.out (by decide)]; rfl, by (repeat refine Mod.drewN ?_ _); exact HM1.out.trans' MM2.out⟩)
                | exact ⟨⟨k2 + 1, by omega, by go_num, by rw [HT2.out]; decide, by (repeat refine Mod.drewN ?_ _); exact MMr.out⟩, by simp only [intOf]; omega⟩
            · have hRe : ((yR : Int) != (r : Int)) = true := by simp; omega
              have HN0 := Lib.hid (show clashL ((hs.map FH.x).take (k2 + 1)) ⟨r, [67], row⟩ = false by rw [HT.out]; simp [hR])
              clear hys hR
              go_wp2
              go_quiet (fail)
              go_wp2
              exact ⟨⟨k2 + 1, by omega, by go_num, HN0.out, MMr.out.drewN _⟩, by simp only [intOf]; omega⟩
          · obtain rfl : k2 = m := by omega
            have HE := Lib.hid (show z = true by
              have h1 : clashL (hs.map FH.x) ⟨r, [67], row⟩ = false := by have h9 := HCl.out; rwa [List.take_of_length_le (by rw [List.length_map, HM.out]; exact Nat.le_refl _)] at h9
              rw [HZ.out, h1, HNo.out, HLo.out, HSt.out]; rfl)
            go_wp2
            go_ret
            exact ⟨by rw [HE.out]; rfl, HM1.out.trans' MM2.out⟩
  · by_cases hn2 : n = 2
    · have h2 : ((n : Int) != 2) = false := by simp; omega
      clear hlo hst hn2
      go_enter Tryz.func34, Tryz.ntmps34
      go_wp2_with (first
        | (go_at_call 55; (with_reducible refine (HS.out _).mono ?_); rintro e w2 ⟨rfl, rfl⟩)
        | fail)
      obtain ⟨B, hB⟩ : ∃ B, B = w.heap.size := ⟨_, rfl⟩
      obtain ⟨W1, hW1⟩ : ∃ W1, W1 = w.alloc (.cells #[.int .i32 (r : Int), .string ⟨#[70]⟩, .slice Ax n cx] 39) := ⟨_, rfl⟩
      have hb1 : W1.heap[w.heap.size]? = some (.cells #[.int .i32 (r : Int), .string ⟨#[70]⟩, .slice Ax n cx] 39 (0, 0)) := by subst hW1; exact hp_new _ _
      have hm1 : Mod (fun _ => False) w W1 := by subst hW1; (repeat' (first | exact Mod.refl _ _ | assumption | refine Mod.alloc ?_ _ | refine Mod.drew ?_ | refine Mod.drewN ?_ _ | refine Mod.setCell ?_ (by first | exact Or.inl rfl | (right; simp; done) | (right; simp; omega) | (left; simp; done)) _))
      rw [← hW1]
      rw [← hB] at hb1 ⊢
      have HB1 := Lib.hid hb1
      have HM1 := Lib.hid hm1
      have HBB := Lib.hid hB
      clear hW1 hb1 hm1 hB
      go_loopw [6] (fun i wr => ∃ k : Nat, k ≤ n ∧ i = .int .i64 k ∧ ((natI row).take k).any surI = false ∧ Mod (fun _ => False) W1 wr) (fun i _ => n - (intOf i).toNat)
      case atStart => exact ⟨0, Nat.zero_le _, rfl, rfl, Mod.refl _ _⟩
      case round =>
        obtain ⟨k, hk, rfl, ha, hmw⟩ := hrel
        have HAny := Lib.hid ha
        have MM := Lib.hid hmw
        have hbb := hp_mod HB1.out hmw id
        have c2 := hp_cell hbb 2
        clear ha hmw
        by_cases hlt : k < n
        · have hkx : k < (natI row).length := by rw [natI_len, ← HN.out]; exact hlt
          obtain ⟨b, off, rfl, -, q1⟩ := rdI (HX.out.mod (HM1.out.trans' MM.out) (fun b hb => ⟨HD.out b hb, id⟩)) hkx
          obtain ⟨x, hx⟩ : ∃ x, x = (natI row)[k] := ⟨_, rfl⟩
          rw [← hx] at q1
          have HT := Lib.hid (show (natI row).take (k + 1) = (natI row).take k ++ [x] by rw [hx]; exact List.take_succ_eq_append_getElem hkx)
          have HXm := Lib.hid (show x ∈ natI row by rw [hx]; exact List.getElem_mem hkx)
          have HSx := Lib.hid (fun X => gsur_any x X)
          obtain ⟨sx, hsx⟩ : ∃ sx, sx = surI x := ⟨_, rfl⟩
          rw [← hsx] at HSx
          have HSX := Lib.hid hsx
          clear hx hsx hbb
          cases sx
          · go_wp2_with (first | (go_at_call 55; (with_reducible refine (HSx.out _).mono ?_); rintro e w2 ⟨rfl, rfl⟩) | fail)
            exact ⟨⟨k + 1, by omega, by go_num, by rw [HT.out, List.any_append, HAny.out, List.any_cons, ← HSX.out]; rfl, MM.out⟩, by simp only [intOf]; omega⟩
          · have HF := Lib.hid (show z = false by rw [HZ.out, show (natI row).any surI = true from List.any_eq_true.2 ⟨x, HXm.out, HSX.out.symm⟩]; simp)
            go_wp2_with (first | (go_at_call 55; (with_reducible refine (HSx.out _).mono ?_); rintro e w2 ⟨rfl, rfl⟩) | fail)
            go_ret
            exact ⟨by rw [HF.out]; rfl, HM1.out.trans' MM.out⟩
        · obtain rfl : k = n := by omega
          have HNo := Lib.hid (show (natI row).any surI = false by have := HAny.out; rwa [HN.out, ← natI_len row, List.take_length] at this)
          clear hbb c2
          go_wp2
          obtain ⟨W2, hW2⟩ : ∃ W2 : World, W2 = wr := ⟨_, rfl⟩
          rw [← hW2] at MM ⊢
          clear hW2
          go_loopw [7] (fun i wr => ∃ k : Nat, k ≤ m ∧ i = .int .i64 k ∧ clashL ((hs.map FH.x).take k) ⟨r, [70], row⟩ = false ∧ Mod (fun _ => False) W2 wr) (fun i _ => m - (intOf i).toNat)
          case atStart => exact ⟨0, Nat.zero_le _, rfl, rfl, Mod.refl _ _⟩
          case round =>
            obtain ⟨k2, hk2, rfl, hcl, hmw⟩ := hrel
            have MM2 := Lib.hid (MM.out.trans' hmw)
            have MMr := Lib.hid hmw
            have HCl := Lib.hid hcl
            have hbb := hp_mod HB1.out MM2.out id
            have c0 := hp_cell hbb 0
            have c1 := hp_cell hbb 1
            clear hcl hmw
            by_cases hlt : k2 < m
            · have hkx : k2 < hs.length := by rw [← HM.out]; exact hlt
              have hkl : k2 < (hs.map FH.x).length := by rw [List.length_map]; exact hkx
              obtain ⟨bl, ol, rfl, hbl, hcell⟩ := (HA.out.mod (HM1.out.trans' MM2.out) (fun b hb => ⟨HD.out b hb, id⟩)) (by omega)
              obtain ⟨y, hy⟩ : ∃ y, y = hs[k2].x := ⟨_, rfl⟩
              have d0 : wr.cell? ⟨bl, ol + k2 * 3, none⟩ = some (.int .i32 (y.R : Int)) := by rw [hy]; exact hcell k2 hkx 0 _ rfl
              have d1 : wr.cell? ⟨bl, ol + k2 * 3 + 1, none⟩ = some (.string ⟨y.S.toArray⟩) := by rw [hy]; exact hcell k2 hkx 1 _ rfl
              have hys := st_one (aloneL_st (HG.out y (by rw [hy]; exact List.mem_map_of_mem (List.getElem_mem _))))
              have HT := Lib.hid (show clashL ((hs.map FH.x).take (k2 + 1)) ⟨r, [70], row⟩ = (decide (y.R = r) && clashS y.S [70]) by
                rw [clashL_take hkl, HCl.out, Bool.false_or, hy, List.getElem_map])
              have HHit := Lib.hid (show (decide (y.R = r) && clashS y.S [70]) = true → z = false from fun h => by
                rw [HZ.out]
                have h1 : clashL (hs.map FH.x) ⟨r, [70], row⟩ = true := by
                  unfold clashL
                  rw [List.any_eq_true]
                  refine ⟨y, by rw [hy]; exact List.mem_map_of_mem (List.getElem_mem _), ?_⟩
                  rw [← h]; rfl
                rw [h1]; simp)
              obtain ⟨yR, yS, yrow⟩ := y
              simp only at d0 d1 hys HT HHit
              clear hcell hy hbb hkl
              by_cases hR : yR = r
              · subst hR
                have hRe : ((yR : Int) != (yR : Int)) = false := by simp
                have HT2 := Lib.hid (show clashL ((hs.map FH.x).take (k2 + 1)) ⟨yR, [70], row⟩ = clashS yS [70] by rw [HT.out]; simp)
                have HHit2 := Lib.hid (show clashS yS [70] = true → z = false from fun h => HHit.out (by simp [h]))
                clear HT HHit
                have hcat : ∀ a b : UInt8, (({ data := #[a] } : ByteArray) ++ { data := #[b] }) = { data := #[a, b] } := fun _ _ => rfl
                rcases hys with rfl | rfl | rfl | rfl
                all_goals
                  go_wp2
                  go_quiet (fail)
                  go_wp2
                  go_quiet (fail)
                  go_wp2
                  go_quiet (fail)
                  go_wp2
                  first
                  | (go_ret
                     exact ⟨by rw [HHit2.out (by decide)]; rfl, by (repeat refine Mod.drewN ?_ _); exact HM1.out.trans' MM2.out⟩)
                  | exact ⟨⟨k2 + 1, by omega, by go_num, by rw [HT2.out]; decide, by (repeat refine Mod.drewN ?_ _); exact MMr.out⟩, by simp only [intOf]; omega⟩
              · have hRe : ((yR : Int) != (r : Int)) = true := by simp; omega
                have HN0 := Lib.hid (show clashL ((hs.map FH.x).take (k2 + 1)) ⟨r, [70], row⟩ = false by rw [HT.out]; simp [hR])
                clear hys hR
                go_wp2
                go_quiet (fail)
                go_wp2
                exact ⟨⟨k2 + 1, by omega, by go_num, HN0.out, MMr.out.drewN _⟩, by simp only [intOf]; omega⟩
            · obtain rfl : k2 = m := by omega
              have HE := Lib.hid (show z = true by
                have h1 : clashL (hs.map FH.x) ⟨r, [70], row⟩ = false := by have h9 := HCl.out; rwa [List.take_of_length_le (by rw [List.length_map, HM.out]; exact Nat.le_refl _)] at h9
                rw [HZ.out, h1, HNo.out, HLo.out, HSt.out]; rfl)
              go_wp2
              go_ret
              exact ⟨by rw [HE.out]; rfl, HM1.out.trans' MM2.out⟩
    · have h2 : ((n : Int) != 2) = true := by simp; omega
      have h3 : ((n : Int) != 3) = false := by simp [lenOk, stF, hn2] at hlo ⊢; omega
      clear hlo hst hn2
      go_enter Tryz.func34, Tryz.ntmps34
      go_wp2_with (first
        | (go_at_call 55; (with_reducible refine (HS.out _).mono ?_); rintro e w2 ⟨rfl, rfl⟩)
        | fail)
      obtain ⟨B, hB⟩ : ∃ B, B = w.heap.size := ⟨_, rfl⟩
      obtain ⟨W1, hW1⟩ : ∃ W1, W1 = w.alloc (.cells #[.int .i32 (r : Int), .string ⟨#[70]⟩, .slice Ax n cx] 39) := ⟨_, rfl⟩
      have hb1 : W1.heap[w.heap.size]? = some (.cells #[.int .i32 (r : Int), .string ⟨#[70]⟩, .slice Ax n cx] 39 (0, 0)) := by subst hW1; exact hp_new _ _
      have hm1 : Mod (fun _ => False) w W1 := by subst hW1; (repeat' (first | exact Mod.refl _ _ | assumption | refine Mod.alloc ?_ _ | refine Mod.drew ?_ | refine Mod.drewN ?_ _ | refine Mod.setCell ?_ (by first | exact Or.inl rfl | (right; simp; done) | (right; simp; omega) | (left; simp; done)) _))
      rw [← hW1]
      rw [← hB] at hb1 ⊢
      have HB1 := Lib.hid hb1
      have HM1 := Lib.hid hm1
      have HBB := Lib.hid hB
      clear hW1 hb1 hm1 hB
      go_loopw [6] (fun i wr => ∃ k : Nat, k ≤ n ∧ i = .int .i64 k ∧ ((natI row).take k).any surI = false ∧ Mod (fun _ => False) W1 wr) (fun i _ => n - (intOf i).toNat)
      case atStart => exact ⟨0, Nat.zero_le _, rfl, rfl, Mod.refl _ _⟩
      case round =>
        obtain ⟨k, hk, rfl, ha, hmw⟩ := hrel
        have HAny := Lib.hid ha
        have MM := Lib.hid hmw
        have hbb := hp_mod HB1.out hmw id
        have c2 := hp_cell hbb 2
        clear ha hmw
        by_cases hlt : k < n
        · have hkx : k < (natI row).length := by rw [natI_len, ← HN.out]; exact hlt
          obtain ⟨b, off, rfl, -, q1⟩ := rdI (HX.out.mod (HM1.out.trans' MM.out) (fun b hb => ⟨HD.out b hb, id⟩)) hkx
          obtain ⟨x, hx⟩ : ∃ x, x = (natI row)[k] := ⟨_, rfl⟩
          rw [← hx] at q1
          have HT := Lib.hid (show (natI row).take (k + 1) = (natI row).take k ++ [x] by rw [hx]; exact List.take_succ_eq_append_getElem hkx)
          have HXm := Lib.hid (show x ∈ natI row by rw [hx]; exact List.getElem_mem hkx)
          have HSx := Lib.hid (fun X => gsur_any x X)
          obtain ⟨sx, hsx⟩ : ∃ sx, sx = surI x := ⟨_, rfl⟩
          rw [← hsx] at HSx
          have HSX := Lib.hid hsx
          clear hx hsx hbb
          cases sx
          · go_wp2_with (first | (go_at_call 55; (with_reducible refine (HSx.out _).mono ?_); rintro e w2 ⟨rfl, rfl⟩) | fail)
            exact ⟨⟨k + 1, by omega, by go_num, by rw [HT.out, List.any_append, HAny.out, List.any_cons, ← HSX.out]; rfl, MM.out⟩, by simp only [intOf]; omega⟩
          · have HF := Lib.hid (show z = false by rw [HZ.out, show (natI row).any surI = true from List.any_eq_true.2 ⟨x, HXm.out, HSX.out.symm⟩]; simp)
            go_wp2_with (first | (go_at_call 55; (with_reducible refine (HSx.out _).mono ?_); rintro e w2 ⟨rfl, rfl⟩) | fail)
            go_ret
            exact ⟨by rw [HF.out]; rfl, HM1.out.trans' MM.out⟩
        · obtain rfl : k = n := by omega
          have HNo := Lib.hid (show (natI row).any surI = false by have := HAny.out; rwa [HN.out, ← natI_len row, List.take_length] at this)
          clear hbb c2
          go_wp2
          obtain ⟨W2, hW2⟩ : ∃ W2 : World, W2 = wr := ⟨_, rfl⟩
          rw [← hW2] at MM ⊢
          clear hW2
          go_loopw [7] (fun i wr => ∃ k : Nat, k ≤ m ∧ i = .int .i64 k ∧ clashL ((hs.map FH.x).take k) ⟨r, [70], row⟩ = false ∧ Mod (fun _ => False) W2 wr) (fun i _ => m - (intOf i).toNat)
          case atStart => exact ⟨0, Nat.zero_le _, rfl, rfl, Mod.refl _ _⟩
          case round =>
            obtain ⟨k2, hk2, rfl, hcl, hmw⟩ := hrel
            have MM2 := Lib.hid (MM.out.trans' hmw)
            have MMr := Lib.hid hmw
            have HCl := Lib.hid hcl
            have hbb := hp_mod HB1.out MM2.out id
            have c0 := hp_cell hbb 0
            have c1 := hp_cell hbb 1
            clear hcl hmw
            by_cases hlt : k2 < m
            · have hkx : k2 < hs.length := by rw [← HM.out]; exact hlt
              have hkl : k2 < (hs.map FH.x).length := by rw [List.length_map]; exact hkx
              obtain ⟨bl, ol, rfl, hbl, hcell⟩ := (HA.out.mod (HM1.out.trans' MM2.out) (fun b hb => ⟨HD.out b hb, id⟩)) (by omega)
              obtain ⟨y, hy⟩ : ∃ y, y = hs[k2].x := ⟨_, rfl⟩
              have d0 : wr.cell? ⟨bl, ol + k2 * 3, none⟩ = some (.int .i32 (y.R : Int)) := by rw [hy]; exact hcell k2 hkx 0 _ rfl
              have d1 : wr.cell? ⟨bl, ol + k2 * 3 + 1, none⟩ = some (.string ⟨y.S.toArray⟩) := by rw [hy]; exact hcell k2 hkx 1 _ rfl
              have hys := st_one (aloneL_st (HG.out y (by rw [hy]; exact List.mem_map_of_mem (List.getElem_mem _))))
              have HT := Lib.hid (show clashL ((hs.map FH.x).take (k2 + 1)) ⟨r, [70], row⟩ = (decide (y.R = r) && clashS y.S [70]) by
                rw [clashL_take hkl, HCl.out, Bool.false_or, hy, List.getElem_map])
              have HHit := Lib.hid (show (decide (y.R = r) && clashS y.S [70]) = true → z = false from fun h => by
                rw [HZ.out]
                have h1 : clashL (hs.map FH.x) ⟨r, [70], row⟩ = true := by
                  unfold clashL
                  rw [List.any_eq_true]
                  refine ⟨y, by rw [hy]; exact List.mem_map_of_mem (List.getElem_mem _), ?_⟩
                  rw [← h]; rfl
                rw [h1]; simp)
              obtain ⟨yR, yS, yrow⟩ := y
              simp only at d0 d1 hys HT HHit
              clear hcell hy hbb hkl
              by_cases hR : yR = r
              · subst hR
                have hRe : ((yR : Int) != (yR : Int)) = false := by simp
                have HT2 := Lib.hid (show clashL ((hs.map FH.x).take (k2 + 1)) ⟨yR, [70], row⟩ = clashS yS [70] by rw [HT.out]; simp)
                have HHit2 := Lib.hid (show clashS yS [70] = true → z = false from fun h => HHit.out (by simp [h]))
                clear HT HHit
                have hcat : ∀ a b : UInt8, (({ data := #[a] } : ByteArray) ++ { data := #[b] }) = { data := #[a, b] } := fun _ _ => rfl
                rcases hys with rfl | rfl | rfl | rfl
                all_goals
                  go_wp2
                  go_quiet (fail)
                  go_wp2
                  go_quiet (fail)
                  go_wp2
                  go_quiet (fail)
                  go_wp2
                  first
                  | (go_ret
                     exact ⟨by rw [HHit2.out (by decide)]; rfl, by (repeat refine Mod.drewN ?_ _); exact HM1.out.trans' MM2.out⟩)
                  | exact ⟨⟨k2 + 1, by omega, by go_num, by rw [HT2.out]; decide, by (repeat refine Mod.drewN ?_ _); exact MMr.out⟩, by simp only [intOf]; omega⟩
              · have hRe : ((yR : Int) != (r : Int)) = true := by simp; omega
                have HN0 := Lib.hid (show clashL ((hs.map FH.x).take (k2 + 1)) ⟨r, [70], row⟩ = false by rw [HT.out]; simp [hR])
                clear hys hR
                go_wp2
                go_quiet (fail)
                go_wp2
                exact ⟨⟨k2 + 1, by omega, by go_num, HN0.out, MMr.out.drewN _⟩, by simp only [intOf]; omega⟩
            · obtain rfl : k2 = m := by omega
              have HE := Lib.hid (show z = true by
                have h1 : clashL (hs.map FH.x) ⟨r, [70], row⟩ = false := by have h9 := HCl.out; rwa [List.take_of_length_le (by rw [List.length_map, HM.out]; exact Nat.le_refl _)] at h9
                rw [HZ.out, h1, HNo.out, HLo.out, HSt.out]; rfl)
              go_wp2
              go_ret
              exact ⟨by rw [HE.out]; rfl, HM1.out.trans' MM2.out⟩
  · have h1 : ((n : Int) != 1) = false := by simp [lenOk, stF] at hlo ⊢; omega
    clear hlo hst
    go_enter Tryz.func34, Tryz.ntmps34
    go_wp2_with (first
      | (go_at_call 55; (with_reducible refine (HS.out _).mono ?_); rintro e w2 ⟨rfl, rfl⟩)
      | fail)
    obtain ⟨B, hB⟩ : ∃ B, B = w.heap.size := ⟨_, rfl⟩
    obtain ⟨W1, hW1⟩ : ∃ W1, W1 = w.alloc (.cells #[.int .i32 (r : Int), .string ⟨#[83]⟩, .slice Ax n cx] 39) := ⟨_, rfl⟩
    have hb1 : W1.heap[w.heap.size]? = some (.cells #[.int .i32 (r : Int), .string ⟨#[83]⟩, .slice Ax n cx] 39 (0, 0)) := by subst hW1; exact hp_new _ _
    have hm1 : Mod (fun _ => False) w W1 := by subst hW1; (repeat' (first | exact Mod.refl _ _ | assumption | refine Mod.alloc ?_ _ | refine Mod.drew ?_ | refine Mod.drewN ?_ _ | refine Mod.setCell ?_ (by first | exact Or.inl rfl | (right; simp; done) | (right; simp; omega) | (left; simp; done)) _))
    rw [← hW1]
    rw [← hB] at hb1 ⊢
    have HB1 := Lib.hid hb1
    have HM1 := Lib.hid hm1
    have HBB := Lib.hid hB
    clear hW1 hb1 hm1 hB
    go_loopw [6] (fun i wr => ∃ k : Nat, k ≤ n ∧ i = .int .i64 k ∧ ((natI row).take k).any surI = false ∧ Mod (fun _ => False) W1 wr) (fun i _ => n - (intOf i).toNat)
    case atStart => exact ⟨0, Nat.zero_le _, rfl, rfl, Mod.refl _ _⟩
    case round =>
      obtain ⟨k, hk, rfl, ha, hmw⟩ := hrel
      have HAny := Lib.hid ha
      have MM := Lib.hid hmw
      have hbb := hp_mod HB1.out hmw id
      have c2 := hp_cell hbb 2
      clear ha hmw
      by_cases hlt : k < n
      · have hkx : k < (natI row).length := by rw [natI_len, ← HN.out]; exact hlt
        obtain ⟨b, off, rfl, -, q1⟩ := rdI (HX.out.mod (HM1.out.trans' MM.out) (fun b hb => ⟨HD.out b hb, id⟩)) hkx
        obtain ⟨x, hx⟩ : ∃ x, x = (natI row)[k] := ⟨_, rfl⟩
        rw [← hx] at q1
        have HT := Lib.hid (show (natI row).take (k + 1) = (natI row).take k ++ [x] by rw [hx]; exact List.take_succ_eq_append_getElem hkx)
        have HXm := Lib.hid (show x ∈ natI row by rw [hx]; exact List.getElem_mem hkx)
        have HSx := Lib.hid (fun X => gsur_any x X)
        obtain ⟨sx, hsx⟩ : ∃ sx, sx = surI x := ⟨_, rfl⟩
        rw [← hsx] at HSx
        have HSX := Lib.hid hsx
        clear hx hsx hbb
        cases sx
        · go_wp2_with (first | (go_at_call 55; (with_reducible refine (HSx.out _).mono ?_); rintro e w2 ⟨rfl, rfl⟩) | fail)
          exact ⟨⟨k + 1, by omega, by go_num, by rw [HT.out, List.any_append, HAny.out, List.any_cons, ← HSX.out]; rfl, MM.out⟩, by simp only [intOf]; omega⟩
        · have HF := Lib.hid (show z = false by rw [HZ.out, show (natI row).any surI = true from List.any_eq_true.2 ⟨x, HXm.out, HSX.out.symm⟩]; simp)
          go_wp2_with (first | (go_at_call 55; (with_reducible refine (HSx.out _).mono ?_); rintro e w2 ⟨rfl, rfl⟩) | fail)
          go_ret
          exact ⟨by rw [HF.out]; rfl, HM1.out.trans' MM.out⟩
      · obtain rfl : k = n := by omega
        have HNo := Lib.hid (show (natI row).any surI = false by have := HAny.out; rwa [HN.out, ← natI_len row, List.take_length] at this)
        clear hbb c2
        go_wp2
        obtain ⟨W2, hW2⟩ : ∃ W2 : World, W2 = wr := ⟨_, rfl⟩
        rw [← hW2] at MM ⊢
        clear hW2
        go_loopw [7] (fun i wr => ∃ k : Nat, k ≤ m ∧ i = .int .i64 k ∧ clashL ((hs.map FH.x).take k) ⟨r, [83], row⟩ = false ∧ Mod (fun _ => False) W2 wr) (fun i _ => m - (intOf i).toNat)
        case atStart => exact ⟨0, Nat.zero_le _, rfl, rfl, Mod.refl _ _⟩
        case round =>
          obtain ⟨k2, hk2, rfl, hcl, hmw⟩ := hrel
          have MM2 := Lib.hid (MM.out.trans' hmw)
          have MMr := Lib.hid hmw
          have HCl := Lib.hid hcl
          have hbb := hp_mod HB1.out MM2.out id
          have c0 := hp_cell hbb 0
          have c1 := hp_cell hbb 1
          clear hcl hmw
          by_cases hlt : k2 < m
          · have hkx : k2 < hs.length := by rw [← HM.out]; exact hlt
            have hkl : k2 < (hs.map FH.x).length := by rw [List.length_map]; exact hkx
            obtain ⟨bl, ol, rfl, hbl, hcell⟩ := (HA.out.mod (HM1.out.trans' MM2.out) (fun b hb => ⟨HD.out b hb, id⟩)) (by omega)
            obtain ⟨y, hy⟩ : ∃ y, y = hs[k2].x := ⟨_, rfl⟩
            have d0 : wr.cell? ⟨bl, ol + k2 * 3, none⟩ = some (.int .i32 (y.R : Int)) := by rw [hy]; exact hcell k2 hkx 0 _ rfl
            have d1 : wr.cell? ⟨bl, ol + k2 * 3 + 1, none⟩ = some (.string ⟨y.S.toArray⟩) := by rw [hy]; exact hcell k2 hkx 1 _ rfl
            have hys := st_one (aloneL_st (HG.out y (by rw [hy]; exact List.mem_map_of_mem (List.getElem_mem _))))
            have HT := Lib.hid (show clashL ((hs.map FH.x).take (k2 + 1)) ⟨r, [83], row⟩ = (decide (y.R = r) && clashS y.S [83]) by
              rw [clashL_take hkl, HCl.out, Bool.false_or, hy, List.getElem_map])
            have HHit := Lib.hid (show (decide (y.R = r) && clashS y.S [83]) = true → z = false from fun h => by
              rw [HZ.out]
              have h1 : clashL (hs.map FH.x) ⟨r, [83], row⟩ = true := by
                unfold clashL
                rw [List.any_eq_true]
                refine ⟨y, by rw [hy]; exact List.mem_map_of_mem (List.getElem_mem _), ?_⟩
                rw [← h]; rfl
              rw [h1]; simp)
            obtain ⟨yR, yS, yrow⟩ := y
            simp only at d0 d1 hys HT HHit
            clear hcell hy hbb hkl
            by_cases hR : yR = r
            · subst hR
              have hRe : ((yR : Int) != (yR : Int)) = false := by simp
              have HT2 := Lib.hid (show clashL ((hs.map FH.x).take (k2 + 1)) ⟨yR, [83], row⟩ = clashS yS [83] by rw [HT.out]; simp)
              have HHit2 := Lib.hid (show clashS yS [83] = true → z = false from fun h => HHit.out (by simp [h]))
              clear HT HHit
              have hcat : ∀ a b : UInt8, (({ data := #[a] } : ByteArray) ++ { data := #[b] }) = { data := #[a, b] } := fun _ _ => rfl
              rcases hys with rfl | rfl | rfl | rfl
              all_goals
                go_wp2
                go_quiet (fail)
                go_wp2
                go_quiet (fail)
                go_wp2
                go_quiet (fail)
                go_wp2
                first
                | (go_ret
                   exact ⟨by rw [HHit2.out (by decide)]; rfl, by (repeat refine Mod.drewN ?_ _); exact HM1.out.trans' MM2.out⟩)
                | exact ⟨⟨k2 + 1, by omega, by go_num, by rw [HT2.out]; decide, by (repeat refine Mod.drewN ?_ _); exact MMr.out⟩, by simp only [intOf]; omega⟩
            · have hRe : ((yR : Int) != (r : Int)) = true := by simp; omega
              have HN0 := Lib.hid (show clashL ((hs.map FH.x).take (k2 + 1)) ⟨r, [83], row⟩ = false by rw [HT.out]; simp [hR])
              clear hys hR
              go_wp2
              go_quiet (fail)
              go_wp2
              exact ⟨⟨k2 + 1, by omega, by go_num, HN0.out, MMr.out.drewN _⟩, by simp only [intOf]; omega⟩
          · obtain rfl : k2 = m := by omega
            have HE := Lib.hid (show z = true by
              have h1 : clashL (hs.map FH.x) ⟨r, [83], row⟩ = false := by have h9 := HCl.out; rwa [List.take_of_length_le (by rw [List.length_map, HM.out]; exact Nat.le_refl _)] at h9
              rw [HZ.out, h1, HNo.out, HLo.out, HSt.out]; rfl)
            go_wp2
            go_ret
            exact ⟨by rw [HE.out]; rfl, HM1.out.trans' MM2.out⟩
  · have h1 : ((n : Int) != 1) = false := by simp [lenOk, stF] at hlo ⊢; omega
    clear hlo hst
    go_enter Tryz.func34, Tryz.ntmps34
    go_wp2_with (first
      | (go_at_call 55; (with_reducible refine (HS.out _).mono ?_); rintro e w2 ⟨rfl, rfl⟩)
      | fail)
    obtain ⟨B, hB⟩ : ∃ B, B = w.heap.size := ⟨_, rfl⟩
    obtain ⟨W1, hW1⟩ : ∃ W1, W1 = w.alloc (.cells #[.int .i32 (r : Int), .string ⟨#[84]⟩, .slice Ax n cx] 39) := ⟨_, rfl⟩
    have hb1 : W1.heap[w.heap.size]? = some (.cells #[.int .i32 (r : Int), .string ⟨#[84]⟩, .slice Ax n cx] 39 (0, 0)) := by subst hW1; exact hp_new _ _
    have hm1 : Mod (fun _ => False) w W1 := by subst hW1; (repeat' (first | exact Mod.refl _ _ | assumption | refine Mod.alloc ?_ _ | refine Mod.drew ?_ | refine Mod.drewN ?_ _ | refine Mod.setCell ?_ (by first | exact Or.inl rfl | (right; simp; done) | (right; simp; omega) | (left; simp; done)) _))
    rw [← hW1]
    rw [← hB] at hb1 ⊢
    have HB1 := Lib.hid hb1
    have HM1 := Lib.hid hm1
    have HBB := Lib.hid hB
    clear hW1 hb1 hm1 hB
    go_loopw [6] (fun i wr => ∃ k : Nat, k ≤ n ∧ i = .int .i64 k ∧ ((natI row).take k).any surI = false ∧ Mod (fun _ => False) W1 wr) (fun i _ => n - (intOf i).toNat)
    case atStart => exact ⟨0, Nat.zero_le _, rfl, rfl, Mod.refl _ _⟩
    case round =>
      obtain ⟨k, hk, rfl, ha, hmw⟩ := hrel
      have HAny := Lib.hid ha
      have MM := Lib.hid hmw
      have hbb := hp_mod HB1.out hmw id
      have c2 := hp_cell hbb 2
      clear ha hmw
      by_cases hlt : k < n
      · have hkx : k < (natI row).length := by rw [natI_len, ← HN.out]; exact hlt
        obtain ⟨b, off, rfl, -, q1⟩ := rdI (HX.out.mod (HM1.out.trans' MM.out) (fun b hb => ⟨HD.out b hb, id⟩)) hkx
        obtain ⟨x, hx⟩ : ∃ x, x = (natI row)[k] := ⟨_, rfl⟩
        rw [← hx] at q1
        have HT := Lib.hid (show (natI row).take (k + 1) = (natI row).take k ++ [x] by rw [hx]; exact List.take_succ_eq_append_getElem hkx)
        have HXm := Lib.hid (show x ∈ natI row by rw [hx]; exact List.getElem_mem hkx)
        have HSx := Lib.hid (fun X => gsur_any x X)
        obtain ⟨sx, hsx⟩ : ∃ sx, sx = surI x := ⟨_, rfl⟩
        rw [← hsx] at HSx
        have HSX := Lib.hid hsx
        clear hx hsx hbb
        cases sx
        · go_wp2_with (first | (go_at_call 55; (with_reducible refine (HSx.out _).mono ?_); rintro e w2 ⟨rfl, rfl⟩) | fail)
          exact ⟨⟨k + 1, by omega, by go_num, by rw [HT.out, List.any_append, HAny.out, List.any_cons, ← HSX.out]; rfl, MM.out⟩, by simp only [intOf]; omega⟩
        · have HF := Lib.hid (show z = false by rw [HZ.out, show (natI row).any surI = true from List.any_eq_true.2 ⟨x, HXm.out, HSX.out.symm⟩]; simp)
          go_wp2_with (first | (go_at_call 55; (with_reducible refine (HSx.out _).mono ?_); rintro e w2 ⟨rfl, rfl⟩) | fail)
          go_ret
          exact ⟨by rw [HF.out]; rfl, HM1.out.trans' MM.out⟩
      · obtain rfl : k = n := by omega
        have HNo := Lib.hid (show (natI row).any surI = false by have := HAny.out; rwa [HN.out, ← natI_len row, List.take_length] at this)
        clear hbb c2
        go_wp2
        obtain ⟨W2, hW2⟩ : ∃ W2 : World, W2 = wr := ⟨_, rfl⟩
        rw [← hW2] at MM ⊢
        clear hW2
        go_loopw [7] (fun i wr => ∃ k : Nat, k ≤ m ∧ i = .int .i64 k ∧ clashL ((hs.map FH.x).take k) ⟨r, [84], row⟩ = false ∧ Mod (fun _ => False) W2 wr) (fun i _ => m - (intOf i).toNat)
        case atStart => exact ⟨0, Nat.zero_le _, rfl, rfl, Mod.refl _ _⟩
        case round =>
          obtain ⟨k2, hk2, rfl, hcl, hmw⟩ := hrel
          have MM2 := Lib.hid (MM.out.trans' hmw)
          have MMr := Lib.hid hmw
          have HCl := Lib.hid hcl
          have hbb := hp_mod HB1.out MM2.out id
          have c0 := hp_cell hbb 0
          have c1 := hp_cell hbb 1
          clear hcl hmw
          by_cases hlt : k2 < m
          · have hkx : k2 < hs.length := by rw [← HM.out]; exact hlt
            have hkl : k2 < (hs.map FH.x).length := by rw [List.length_map]; exact hkx
            obtain ⟨bl, ol, rfl, hbl, hcell⟩ := (HA.out.mod (HM1.out.trans' MM2.out) (fun b hb => ⟨HD.out b hb, id⟩)) (by omega)
            obtain ⟨y, hy⟩ : ∃ y, y = hs[k2].x := ⟨_, rfl⟩
            have d0 : wr.cell? ⟨bl, ol + k2 * 3, none⟩ = some (.int .i32 (y.R : Int)) := by rw [hy]; exact hcell k2 hkx 0 _ rfl
            have d1 : wr.cell? ⟨bl, ol + k2 * 3 + 1, none⟩ = some (.string ⟨y.S.toArray⟩) := by rw [hy]; exact hcell k2 hkx 1 _ rfl
            have hys := st_one (aloneL_st (HG.out y (by rw [hy]; exact List.mem_map_of_mem (List.getElem_mem _))))
            have HT := Lib.hid (show clashL ((hs.map FH.x).take (k2 + 1)) ⟨r, [84], row⟩ = (decide (y.R = r) && clashS y.S [84]) by
              rw [clashL_take hkl, HCl.out, Bool.false_or, hy, List.getElem_map])
            have HHit := Lib.hid (show (decide (y.R = r) && clashS y.S [84]) = true → z = false from fun h => by
              rw [HZ.out]
              have h1 : clashL (hs.map FH.x) ⟨r, [84], row⟩ = true := by
                unfold clashL
                rw [List.any_eq_true]
                refine ⟨y, by rw [hy]; exact List.mem_map_of_mem (List.getElem_mem _), ?_⟩
                rw [← h]; rfl
              rw [h1]; simp)
            obtain ⟨yR, yS, yrow⟩ := y
            simp only at d0 d1 hys HT HHit
            clear hcell hy hbb hkl
            by_cases hR : yR = r
            · subst hR
              have hRe : ((yR : Int) != (yR : Int)) = false := by simp
              have HT2 := Lib.hid (show clashL ((hs.map FH.x).take (k2 + 1)) ⟨yR, [84], row⟩ = clashS yS [84] by rw [HT.out]; simp)
              have HHit2 := Lib.hid (show clashS yS [84] = true → z = false from fun h => HHit.out (by simp [h]))
              clear HT HHit
              have hcat : ∀ a b : UInt8, (({ data := #[a] } : ByteArray) ++ { data := #[b] }) = { data := #[a, b] } := fun _ _ => rfl
              rcases hys with rfl | rfl | rfl | rfl
              all_goals
                go_wp2
                go_quiet (fail)
                go_wp2
                go_quiet (fail)
                go_wp2
                go_quiet (fail)
                go_wp2
                first
                | (go_ret
                   exact ⟨by rw [HHit2.out (by decide)]; rfl, by (repeat refine Mod.drewN ?_ _); exact HM1.out.trans' MM2.out⟩)
                | exact ⟨⟨k2 + 1, by omega, by go_num, by rw [HT2.out]; decide, by (repeat refine Mod.drewN ?_ _); exact MMr.out⟩, by simp only [intOf]; omega⟩
            · have hRe : ((yR : Int) != (r : Int)) = true := by simp; omega
              have HN0 := Lib.hid (show clashL ((hs.map FH.x).take (k2 + 1)) ⟨r, [84], row⟩ = false by rw [HT.out]; simp [hR])
              clear hys hR
              go_wp2
              go_quiet (fail)
              go_wp2
              exact ⟨⟨k2 + 1, by omega, by go_num, HN0.out, MMr.out.drewN _⟩, by simp only [intOf]; omega⟩
          · obtain rfl : k2 = m := by omega
            have HE := Lib.hid (show z = true by
              have h1 : clashL (hs.map FH.x) ⟨r, [84], row⟩ = false := by have h9 := HCl.out; rwa [List.take_of_length_le (by rw [List.length_map, HM.out]; exact Nat.le_refl _)] at h9
              rw [HZ.out, h1, HNo.out, HLo.out, HSt.out]; rfl)
            go_wp2
            go_ret
            exact ⟨by rw [HE.out]; rfl, HM1.out.trans' MM2.out⟩
end Go.Proofs.YtidbgfmknhlmnaaGreatDoor
