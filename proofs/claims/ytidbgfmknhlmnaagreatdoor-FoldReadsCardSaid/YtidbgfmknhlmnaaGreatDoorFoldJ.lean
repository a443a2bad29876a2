/-
  The reference's foldings asked.
-/
import Derived.Test.YtidbgfmknhlmnaaGreatDoorFoldI
namespace Go.Proofs.YtidbgfmknhlmnaaGreatDoor
open Go.RowKit Go.Shelf Go.Sort
attribute [local go_sem] Oper.semAt_some

def GOfV (w w' : World) (e : Ending) : (List FL) ⊕ Nat → Prop
  | .inl ls => ∃ (fb : Nat) (hs : List FH), e = .returned (.tuple #[ptrV fb, .int .i64 0]) ∧ hs.map FH.x = ls ∧ RefIn (fun b => w.heap.size ≤ b ∧ b < w'.heap.size) w' fb hs
  | .inr _ => e = .returned (.tuple #[.pointer none, .int .i64 6])
theorem gfof_any (l : Bs) (w : World) (hl : l.length ≤ 1000000) : Calls Tryz.prog 10 #[.string ⟨l.toArray⟩] w fun e w' => GOfV w w' e (foldT l) ∧ Mod (fun _ => False) w w' := by
  have H := Lib.hid (gread_any l w hl)
  obtain ⟨o, ho⟩ : ∃ o, o = foldT l := ⟨_, rfl⟩
  rw [← ho] at H ⊢
  clear ho
  cases o with
  | inl ls =>
    go_enter Tryz.func10, Tryz.ntmps10
    go_wp2_with (first
      | (go_at_call 18; (with_reducible refine H.out.mono ?_); rintro e w1 ⟨⟨fb, hs, rfl, hls, hR⟩, hm⟩; have HR := Lib.hid (And.intro hls hR); clear hls hR)
      | fail)
    refine bodyPost_ret (v := .tuple #[ptrV fb, .int .i64 0]) (by simp [results, Tryz.results10, go_sem]) rfl ?_
    exact ⟨⟨fb, hs, rfl, HR.out.1, HR.out.2⟩, hm⟩
  | inr n =>
    go_enter Tryz.func10, Tryz.ntmps10
    go_wp2_with (first
      | (go_at_call 18; (with_reducible refine H.out.mono ?_); rintro e w1 ⟨rfl, hm⟩)
      | fail)
    refine bodyPost_ret (v := .tuple #[.pointer none, .int .i64 6]) (by simp [results, Tryz.results10, go_sem]) rfl ?_
    exact ⟨rfl, hm⟩
section
variable {α : Type} {p : α → Bool} {l : List α} {k : Nat}
theorem find_next (h : (l.take k).find? p = none) (hk : k < l.length) (hp : p l[k] = false) : (l.take (k + 1)).find? p = none := by
  rw [List.take_succ_eq_append_getElem hk, List.find?_append, h]
  simp [hp]
theorem find_hit (h : (l.take k).find? p = none) (hk : k < l.length) (hp : p l[k] = true) : l.find? p = some l[k] := by
  have e : (l.take k ++ l.drop k).find? p = some l[k] := by
    rw [List.find?_append, h, Option.none_or, List.drop_eq_getElem_cons hk, List.find?_cons_of_pos hp]
  rwa [List.take_append_drop] at e
end
def cfP (r : Int) (x : FL) : Bool := decide ((x.R : Int) = r) && isCF x
def csP (r : Int) (x : FL) : Bool := decide ((x.R : Int) = r) && isCS x
set_option maxRecDepth 100000 in
set_option maxHeartbeats 8000000 in
theorem gfull_any (D : Nat → Prop) (fb : Nat) (hs : List FH) (r : Int) (w : World) (hF : RefIn D w fb hs) (hl : hs.length ≤ 1000001) :
    Calls Tryz.prog 14 #[ptrV fb, .int .i32 r] w fun e w' => ∃ A c, e = .returned (.slice A (fullL (hs.map FH.x) r).length c) ∧ Rd (fun b => D b ∨ (w.heap.size ≤ b ∧ b < w'.heap.size)) w' 1 csI A (fullL (hs.map FH.x) r) ∧ Mod (fun _ => False) w w' := by
  obtain ⟨A, c, c0, hA⟩ := hF.ls
  obtain ⟨m, hm⟩ : ∃ m, m = hs.length := ⟨_, rfl⟩
  rw [← hm] at hl c0
  obtain ⟨xs, hxs⟩ : ∃ xs, xs = fullL (hs.map FH.x) r := ⟨_, rfl⟩
  rw [← hxs]
  have HXs := Lib.hid (show (match (hs.map FH.x).find? (cfP r) with | some x => natI x.row | none => [r]) = xs by rw [hxs]; rfl)
  have HM := Lib.hid hm
  have HA := Lib.hid hA
  have HF := Lib.hid hF
  clear hm hA hxs hF
  go_enter Tryz.func14, Tryz.ntmps14
  go_wp2
  go_loopw [5] (fun i wr => ∃ k : Nat, k ≤ m ∧ i = .int .i64 k ∧ ((hs.map FH.x).take k).find? (cfP r) = none ∧ wr = w) (fun i _ => m - (intOf i).toNat)
  case atStart => exact ⟨0, Nat.zero_le _, rfl, rfl, rfl⟩
  case round =>
    obtain ⟨k, hk, rfl, hn, hwr⟩ := hrel
    subst hwr
    have HNo := Lib.hid hn
    clear hn
    by_cases hlt : k < m
    · have hkx : k < hs.length := by rw [← HM.out]; exact hlt
      have hkl : k < (hs.map FH.x).length := by rw [List.length_map]; exact hkx
      obtain ⟨bl, ol, rfl, hbl, hcell⟩ := HA.out (by omega)
      obtain ⟨y, hy⟩ : ∃ y, y = hs[k] := ⟨_, rfl⟩
      have d0 : wr.cell? ⟨bl, ol + k * 3, none⟩ = some (.int .i32 (y.x.R : Int)) := by rw [hy]; exact hcell k hkx 0 _ rfl
      have d1 : wr.cell? ⟨bl, ol + k * 3 + 1, none⟩ = some (.string ⟨y.x.S.toArray⟩) := by rw [hy]; exact hcell k hkx 1 _ rfl
      have d2 : wr.cell? ⟨bl, ol + k * 3 + 2, none⟩ = some (.slice y.A y.x.row.length y.c) := by rw [hy]; exact hcell k hkx 2 _ rfl
      have hym : y ∈ hs := by rw [hy]; exact List.getElem_mem _
      have hys := st_one (aloneL_st (HF.out.good.alone y.x (List.mem_map_of_mem hym)))
      have hl3 : (hs.map FH.x)[k] = y.x := by rw [List.getElem_map, hy]
      have HNext := Lib.hid (show cfP r y.x = false → ((hs.map FH.x).take (k + 1)).find? (cfP r) = none from fun h => find_next HNo.out hkl (by rw [hl3]; exact h))
      have HHit := Lib.hid (show cfP r y.x = true → natI y.x.row = xs from fun h => by
        rw [← HXs.out, find_hit HNo.out hkl (by rw [hl3]; exact h), hl3])
      have HRy := Lib.hid (HF.out.rows y hym)
      obtain ⟨yA, yc, ⟨yR, yS, yrow⟩⟩ := y
      simp only at d0 d1 d2 hys HNext HHit HRy
      obtain ⟨n, hn⟩ : ∃ n, n = yrow.length := ⟨_, rfl⟩
      rw [← hn] at d2
      have HN := Lib.hid hn
      clear hcell hy hym hl3 hkl hn
      by_cases hR : (yR : Int) = r
      · subst hR
        have HNext2 := Lib.hid (show isCF ⟨yR, yS, yrow⟩ = false → _ from fun h => HNext.out (by unfold cfP; rw [h]; simp))
        have HHit2 := Lib.hid (show isCF ⟨yR, yS, yrow⟩ = true → _ from fun h => HHit.out (by unfold cfP; rw [h]; simp))
        clear HNext HHit
        rcases hys with rfl | rfl | rfl | rfl
        · have HH := Lib.hid (HHit2.out (by simp only [isCF]; decide))
          go_wp2
          go_ret
          exact ⟨yA, yc, by rw [← HH.out, natI_len, ← HN.out]; rfl, by rw [← HH.out]; exact HRy.out.mono fun b hb => .inl hb, Mod.refl _ _⟩
        · have HH := Lib.hid (HHit2.out (by simp only [isCF]; decide))
          go_wp2
          go_ret
          exact ⟨yA, yc, by rw [← HH.out, natI_len, ← HN.out]; rfl, by rw [← HH.out]; exact HRy.out.mono fun b hb => .inl hb, Mod.refl _ _⟩
        · have HH := Lib.hid (HNext2.out (by simp only [isCF]; decide))
          go_wp2
          exact ⟨⟨k + 1, by omega, by go_num, HH.out, by first | rfl | trivial⟩, by simp only [intOf]; omega⟩
        · have HH := Lib.hid (HNext2.out (by simp only [isCF]; decide))
          go_wp2
          exact ⟨⟨k + 1, by omega, by go_num, HH.out, by first | rfl | trivial⟩, by simp only [intOf]; omega⟩
      · have hRe : ((yR : Int) == r) = false := by simp [hR]
        have HH := Lib.hid (HNext.out (by unfold cfP; simp [hR]))
        clear hys hR
        go_wp2
        exact ⟨⟨k + 1, by omega, by go_num, HH.out, by first | rfl | trivial⟩, by simp only [intOf]; omega⟩
    · obtain rfl : k = m := by omega
      have HE := Lib.hid (show xs = [r] by
        have h := HNo.out
        rw [List.take_of_length_le (by rw [List.length_map, HM.out]; exact Nat.le_refl _)] at h
        rw [← HXs.out, h])
      have hone : Rd (fun b => b = wr.heap.size) (wr.alloc (.cells #[.int .i32 r] 21)) 1 csI (some ⟨wr.heap.size, 0, none⟩) [r] := Rd.one (hp_new _ _) rfl
      have H1 := Lib.hid hone
      clear hone
      go_wp2
      go_ret
      exact ⟨some ⟨wr.heap.size, 0, none⟩, 1, by rw [HE.out]; rfl, by rw [HE.out]; exact H1.out.mono fun b hb => .inr ⟨by rw [hb]; exact Nat.le_refl _, by rw [hb]; simp⟩, by (repeat' (first | exact Mod.refl _ _ | assumption | refine Mod.alloc ?_ _ | refine Mod.drew ?_ | refine Mod.drewN ?_ _ | refine Mod.setCell ?_ (by first | exact Or.inl rfl | (right; simp; done) | (right; simp; omega) | (left; simp; done)) _))⟩
set_option maxRecDepth 100000 in
set_option maxHeartbeats 8000000 in
theorem gsimple_any (D : Nat → Prop) (fb : Nat) (hs : List FH) (r : Int) (w : World) (hF : RefIn D w fb hs) (hl : hs.length ≤ 1000001) :
    Calls Tryz.prog 23 #[ptrV fb, .int .i32 r] w fun e w' => e = .returned (.int .i32 (simpL (hs.map FH.x) r)) ∧ w' = w := by
  obtain ⟨A, c, c0, hA⟩ := hF.ls
  obtain ⟨m, hm⟩ : ∃ m, m = hs.length := ⟨_, rfl⟩
  rw [← hm] at hl c0
  obtain ⟨z, hz⟩ : ∃ z, z = simpL (hs.map FH.x) r := ⟨_, rfl⟩
  rw [← hz]
  have HZ := Lib.hid (show (match (hs.map FH.x).find? (csP r) with | some x => (natI x.row).headD 0 | none => r) = z by rw [hz]; rfl)
  have HM := Lib.hid hm
  have HA := Lib.hid hA
  have HF := Lib.hid hF
  clear hm hA hz hF
  go_enter Tryz.func23, Tryz.ntmps23
  go_wp2
  go_loopw [5] (fun i wr => ∃ k : Nat, k ≤ m ∧ i = .int .i64 k ∧ ((hs.map FH.x).take k).find? (csP r) = none ∧ wr = w) (fun i _ => m - (intOf i).toNat)
  case atStart => exact ⟨0, Nat.zero_le _, rfl, rfl, rfl⟩
  case round =>
    obtain ⟨k, hk, rfl, hn, hwr⟩ := hrel
    subst hwr
    have HNo := Lib.hid hn
    clear hn
    by_cases hlt : k < m
    · have hkx : k < hs.length := by rw [← HM.out]; exact hlt
      have hkl : k < (hs.map FH.x).length := by rw [List.length_map]; exact hkx
      obtain ⟨bl, ol, rfl, hbl, hcell⟩ := HA.out (by omega)
      obtain ⟨y, hy⟩ : ∃ y, y = hs[k] := ⟨_, rfl⟩
      have d0 : wr.cell? ⟨bl, ol + k * 3, none⟩ = some (.int .i32 (y.x.R : Int)) := by rw [hy]; exact hcell k hkx 0 _ rfl
      have d1 : wr.cell? ⟨bl, ol + k * 3 + 1, none⟩ = some (.string ⟨y.x.S.toArray⟩) := by rw [hy]; exact hcell k hkx 1 _ rfl
      have d2 : wr.cell? ⟨bl, ol + k * 3 + 2, none⟩ = some (.slice y.A y.x.row.length y.c) := by rw [hy]; exact hcell k hkx 2 _ rfl
      have hym : y ∈ hs := by rw [hy]; exact List.getElem_mem _
      have hal := HF.out.good.alone y.x (List.mem_map_of_mem hym)
      have hys := st_one (aloneL_st hal)
      have hln := aloneL_len hal
      have hl3 : (hs.map FH.x)[k] = y.x := by rw [List.getElem_map, hy]
      have HNext := Lib.hid (show csP r y.x = false → ((hs.map FH.x).take (k + 1)).find? (csP r) = none from fun h => find_next HNo.out hkl (by rw [hl3]; exact h))
      have HHit := Lib.hid (show csP r y.x = true → (natI y.x.row).headD 0 = z from fun h => by
        rw [← HZ.out, find_hit HNo.out hkl (by rw [hl3]; exact h), hl3])
      have hry := HF.out.rows y hym
      obtain ⟨yA, yc, ⟨yR, yS, yrow⟩⟩ := y
      simp only at d0 d1 d2 hys HNext HHit hry hln
      obtain ⟨bR, oR, rfl, -, qR⟩ := rdI hry (k := 0) (by rw [natI_len]; omega)
      obtain ⟨x0, hx0⟩ : ∃ x0, x0 = (natI yrow)[0]'(by rw [natI_len]; omega) := ⟨_, rfl⟩
      rw [← hx0, Nat.add_zero] at qR
      have hhd : (natI yrow).headD 0 = x0 := by
        rw [hx0]
        cases yrow with
        | nil => simp at hln
        | cons a t => rfl
      rw [hhd] at HHit
      obtain ⟨n, hn⟩ : ∃ n, n = yrow.length := ⟨_, rfl⟩
      rw [← hn] at d2 hln
      have hn0 : 0 < n := by omega
      clear hcell hy hym hl3 hkl hn hal hry hx0 hhd hln
      by_cases hR : (yR : Int) = r
      · subst hR
        have HNext2 := Lib.hid (show isCS ⟨yR, yS, yrow⟩ = false → _ from fun h => HNext.out (by unfold csP; rw [h]; simp))
        have HHit2 := Lib.hid (show isCS ⟨yR, yS, yrow⟩ = true → _ from fun h => HHit.out (by unfold csP; rw [h]; simp))
        clear HNext HHit
        rcases hys with rfl | rfl | rfl | rfl
        · have HH := Lib.hid (HHit2.out (by simp only [isCS]; decide))
          go_wp2
          go_ret
          exact ⟨by rw [← HH.out]; rfl, rfl⟩
        · have HH := Lib.hid (HNext2.out (by simp only [isCS]; decide))
          go_wp2
          exact ⟨⟨k + 1, by omega, by go_num, HH.out, by first | rfl | trivial⟩, by simp only [intOf]; omega⟩
        · have HH := Lib.hid (HHit2.out (by simp only [isCS]; decide))
          go_wp2
          go_ret
          exact ⟨by rw [← HH.out]; rfl, rfl⟩
        · have HH := Lib.hid (HNext2.out (by simp only [isCS]; decide))
          go_wp2
          exact ⟨⟨k + 1, by omega, by go_num, HH.out, by first | rfl | trivial⟩, by simp only [intOf]; omega⟩
      · have hRe : ((yR : Int) == r) = false := by simp [hR]
        have HH := Lib.hid (HNext.out (by unfold csP; simp [hR]))
        clear hys hR
        go_wp2
        exact ⟨⟨k + 1, by omega, by go_num, HH.out, by first | rfl | trivial⟩, by simp only [intOf]; omega⟩
    · obtain rfl : k = m := by omega
      have HE := Lib.hid (show z = r by
        have h := HNo.out
        rw [List.take_of_length_le (by rw [List.length_map, HM.out]; exact Nat.le_refl _)] at h
        rw [← HZ.out, h])
      go_wp2
      go_ret
      exact ⟨by rw [HE.out]; rfl, rfl⟩
theorem ref_len {D : Nat → Prop} {w : World} {fb : Nat} {hs : List FH} (h : RefIn D w fb hs) (r : Int) : (fullL (hs.map FH.x) r).length ≤ 3 := by
  unfold fullL
  split
  · rename_i x hx
    rw [natI_len]
    exact (aloneL_len (h.good.alone x (List.mem_of_find?_eq_some hx))).2
  · simp
set_option maxRecDepth 100000 in
set_option maxHeartbeats 1000000 in
theorem gtext_any (D D2 : Nat → Prop) (fb : Nat) (hs : List FH) (A : Option Addr) (c : Nat) (xs : List Int) (w : World) (hF : RefIn D w fb hs) (hlh : hs.length ≤ 1000001) (hD : ∀ b, D b → b < w.heap.size) (hA : Rd D2 w 1 csI A xs) (hD2 : ∀ b, D2 b → b < w.heap.size) (hl : xs.length ≤ 1000000) :
    Calls Tryz.prog 24 #[ptrV fb, .slice A xs.length c] w fun e w' => ∃ u, e = .returned u ∧ OwnS w.heap.size 21 1 csI w' u (textL (hs.map FH.x) xs) ∧ Mod (fun _ => False) w w' := by
  obtain ⟨n, hn⟩ : ∃ n, n = xs.length := ⟨_, rfl⟩
  obtain ⟨ls, hls⟩ : ∃ ls, ls = hs.map FH.x := ⟨_, rfl⟩
  have HLen := Lib.hid (fun r => ref_len hF r)
  rw [← hls] at HLen ⊢
  rw [← hn] at hl ⊢
  have HN := Lib.hid hn
  have HA := Lib.hid hA
  have HF := Lib.hid hF
  have HD := Lib.hid hD
  have HD2 := Lib.hid hD2
  have HLS := Lib.hid hls
  have H0 := Lib.hid (OwnS.nil w.heap.size 21 1 csI w)
  clear hn hA hF hD hD2 hls
  go_enter Tryz.func24, Tryz.ntmps24
  go_wp2
  go_loopw [5, 6] (fun u i wr => ∃ k : Nat, k ≤ n ∧ i = .int .i64 k ∧ OwnS w.heap.size 21 1 csI wr u (textL ls (xs.take k)) ∧ Mod (fun _ => False) w wr) (fun _ i _ => n - (intOf i).toNat)
  case atStart => exact ⟨0, Nat.zero_le _, rfl, H0.out, Mod.refl _ _⟩
  case round =>
    obtain ⟨k, hk, rfl, ho, hm⟩ := hrel
    have HO := Lib.hid ho
    have HM := Lib.hid hm
    clear ho hm
    by_cases hlt : k < n
    · have hkx : k < xs.length := by rw [← HN.out]; exact hlt
      obtain ⟨b, off, rfl, -, q1⟩ := rdI (HA.out.mod HM.out (fun b hb => ⟨HD2.out b hb, id⟩)) hkx
      obtain ⟨x, hx⟩ : ∃ x, x = xs[k] := ⟨_, rfl⟩
      rw [← hx] at q1
      have HT := Lib.hid (show textL ls (xs.take (k + 1)) = textL ls (xs.take k) ++ fullL ls x by rw [hx]; exact textL_take hkx)
      have HC := Lib.hid (show ∀ r, Calls Tryz.prog 14 #[ptrV fb, .int .i32 r] wr fun e w' => ∃ A c, e = .returned (.slice A (fullL ls r).length c) ∧ Rd (fun b => D b ∨ (wr.heap.size ≤ b ∧ b < w'.heap.size)) w' 1 csI A (fullL ls r) ∧ Mod (fun _ => False) wr w' from fun r => by
        rw [HLS.out]; exact gfull_any D fb hs r wr (HF.out.mod HM.out fun b hb => ⟨HD.out b hb, id⟩) hlh)
      have HL := Lib.hid (show (textL ls (xs.take k)).length + (fullL ls x).length ≤ 6000000 by
        have h1 := textL_le HLen.out (xs.take k)
        have h2 := HLen.out x
        rw [List.length_take] at h1
        have h3 : n ≤ 1000000 := hl
        omega)
      clear hx
      go_wp2_with (first
        | (go_at_call 14
           (with_reducible refine (HC.out _).mono ?_)
           rintro e w2 ⟨A2, c2, rfl, hr2, hm2⟩
           have HO2 := Lib.hid (HO.out.mod hm2 (fun _ _ => id))
           have HM2 := Lib.hid (HM.out.trans' hm2)
           have hs2 := HM2.out.size
           have HR2 := Lib.hid hr2
           clear hm2 hr2)
        | (at_builtin
           refine wpList_app (base := w.heap.size) (xs := textL ls (xs.take k)) (ys := fullL ls x) rfl (.tmp 13) (.tmp 19) rfl i32s_t csI_len csI_one rfl HO2.out _ rfl rfl HR2.out ?_ ?_ ?_ ?_
           · have := HL.out; simp only [maxLen]; omega
           · have := HL.out; omega
           · exact hs2
           intro v' w3 hown3 hm3 _
           have HO3 := Lib.hid hown3
           have HM3 := Lib.hid (HM2.out.trans hm3 (fun b hb => .inr (HO2.out.fresh b hb).1))
           clear hown3 hm3)
        | fail)
      exact ⟨⟨k + 1, by omega, by go_num, by rw [HT.out]; exact HO3.out, HM3.out⟩, by simp only [intOf]; omega⟩
    · obtain rfl : k = n := by omega
      have HE := Lib.hid (show xs.take k = xs by rw [HN.out]; exact List.take_length)
      rw [HE.out] at HO
      go_wp2
      go_ret
      exact ⟨_, rfl, HO.out, HM.out⟩
end Go.Proofs.YtidbgfmknhlmnaaGreatDoor
