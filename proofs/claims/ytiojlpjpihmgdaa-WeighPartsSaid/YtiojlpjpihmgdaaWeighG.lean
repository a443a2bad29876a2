/-
  The law WeighParts: plain lemmas, and its walk.
-/
import Derived.Test.YtiojlpjpihmgdaaWeighE
import Derived.Sort.AtCall
namespace Go.Proofs.Ytiojlpjpihmgdaa
open Go.RowKit

theorem rd_of {α : Type} {base E sz n c : Nat} {cs : α → List Value} {w : World} {A : Option Addr} {xs : List α} (h : OwnS base E sz cs w (.slice A n c) xs) (hcs : ∀ x, (cs x).length = sz) : Rd (fun b => (Value.slice A n c).ownBlock = some b) w sz cs A xs := by
  obtain ⟨A', c', he, hr, _⟩ := OwnS.rd h hcs
  injection he with h1 h2 h3
  subst h1
  exact hr

theorem same_mod (D D' : Nat → Prop) (A B : Option Addr) (c d n m : Nat) (xs ys : List Wt) (w : World) (hn : n = xs.length) (hm : m = ys.length) (hA : Rd D w 4 Wt.cs A xs) (hB : Rd D' w 4 Wt.cs B ys) (hl : n ≤ maxLen) :
    Calls Try.prog 12 #[.slice A n c, .slice B m d] w fun e w' => e = .returned (.bool (decide (xs = ys))) ∧ Mod (fun _ => False) w w' :=
  (same_any D D' A B c d n m xs ys w hn hm hA hB hl).mono fun _ _ ⟨he, q, hq⟩ => ⟨he, by rw [← hq]; exact (Mod.refl _ _).drewN q⟩

theorem bAt_append_lt (sh : Bool) (xs ys : List El) (k : Nat) (h : k ≤ xs.length) : bAt sh (xs ++ ys) k = bAt sh xs k := by
  unfold bAt; rw [List.take_append_of_le_length h]
theorem bAt_append_ge (sh : Bool) (xs ys : List El) (k : Nat) (h : bAt sh xs xs.length = false) : bAt sh (xs ++ ys) (k + xs.length) = bAt sh ys k := by
  unfold bAt at *
  rw [List.take_length] at h
  rw [Nat.add_comm, List.take_append, List.take_of_length_le (by omega), Nat.add_sub_cancel_left, List.foldl_append, h]
theorem weighs_append_plain (lv : Int) (xs ys : List El) : weighs false lv (xs ++ ys) = weighs false lv xs ++ weighs false lv ys := by
  unfold weighs
  split
  · rw [List.mapIdx_append]; simp [oneW]
  · simp
theorem weighs_append (lv : Int) (xs ys : List El) (h : bAt true xs xs.length = false) : weighs true lv (xs ++ ys) = weighs true lv xs ++ weighs true lv ys := by
  unfold weighs
  split
  · rw [List.mapIdx_append]
    congr 1
    · apply List.ext_getElem (by simp)
      intro k h1 h2
      simp only [List.getElem_mapIdx]
      rw [bAt_append_lt true xs ys k (by simp at h1; omega)]
    · apply List.ext_getElem (by simp)
      intro k h1 h2
      simp only [List.getElem_mapIdx]
      rw [bAt_append_ge true xs ys k h]
  · simp
theorem bAt_behind (xs : List El) (e : El) (hP : e.P ≠ 0) (hV : e.V = false) : bAt true (xs ++ [e]) (xs ++ [e]).length = false := by
  have h : xs.length < (xs ++ [e]).length := by simp
  have := bAt_succ true (xs ++ [e]) xs.length h
  rw [show (xs ++ [e]).length = xs.length + 1 by simp, this]
  simp [oneB, hP, hV]


set_option maxRecDepth 100000 in
set_option maxHeartbeats 4000000 in
theorem weighParts_yes (lv : Int) (A B : Option Addr) (c d : Nat) (xa xb : List El) (e : El) (w : World) (hA : Rd (fun b => b < w.heap.size) w 4 El.cs A xa) (hB : Rd (fun b => b < w.heap.size) w 4 El.cs B xb)
    (hsa : soundL xa = true) (hsb : soundL xb = true) (hla : xa.length ≤ 100) (hlb : xb.length ≤ 100) (h1 : 1 ≤ lv) (h4 : lv ≤ 4) :
    Calls Try.prog 4 #[.int .i64 lv, .slice A xa.length c, .slice B xb.length d, e.v] w fun r w' => r = .returned (.bool true) ∧ Mod (fun _ => False) w w' := by
  have HSa := Lib.hid (fun W (h : Rd (fun b => b < w.heap.size) W 4 El.cs A xa) => sound_any _ A c xa W h (by simp [maxLen]; omega))
  have HSb := Lib.hid (fun W (h : Rd (fun b => b < w.heap.size) W 4 El.cs B xb) => sound_any _ B d xb W h (by simp [maxLen]; omega))
  rw [hsa] at HSa
  rw [hsb] at HSb
  have HA := Lib.hid (fun X (hX : Mod (fun _ => False) w X) => hA.mod hX (fun b hb => ⟨hb, id⟩))
  have HB := Lib.hid (fun X (hX : Mod (fun _ => False) w X) => hB.mod hX (fun b hb => ⟨hb, id⟩))
  have HOa := Lib.hid (fun sh X (hX : Mod (fun _ => False) w X) => of_any sh lv A c xa X ((HA.out X hX).mono (fun b hb => Nat.lt_of_lt_of_le hb hX.size)) (by omega))
  have HOb := Lib.hid (fun sh X (hX : Mod (fun _ => False) w X) => of_any sh lv B d xb X ((HB.out X hX).mono (fun b hb => Nat.lt_of_lt_of_le hb hX.size)) (by omega))
  obtain ⟨n, hn⟩ : ∃ n, n = xa.length := ⟨_, rfl⟩
  obtain ⟨m, hm⟩ : ∃ m, m = xb.length := ⟨_, rfl⟩
  rw [← hn] at hla HSa HOa ⊢
  rw [← hm] at hlb HSb HOb ⊢
  have HN := Lib.hid hn
  have HM := Lib.hid hm
  have hwa : ∀ sh, (weighs sh lv xa).length ≤ 100 := fun sh => Nat.le_trans (weighs_len sh lv xa) (by omega)
  have hwb : ∀ sh, (weighs sh lv xb).length ≤ 100 := fun sh => Nat.le_trans (weighs_len sh lv xb) (by omega)
  have HWa := Lib.hid hwa
  have HWb := Lib.hid hwb
  have HL1 := Lib.hid (show xa.length + xb.length ≤ maxLen by simp only [maxLen]; omega)
  have HL2 := Lib.hid (show (xa.length + xb.length) * 8 ≤ 140737488355328 by omega)
  clear hn hm hsa hsb hA hB hwa hwb
  unfold El.v
  go_enter Try.func4, Try.ntmps4
  go_wp2_with (first
    | (go_at_call_of 6 (Value.slice A n c)
       refine (HSa.out _ (HA.out _ (by (repeat' (first | exact Mod.refl _ _ | assumption | refine Mod.alloc ?_ _ | refine Mod.drew ?_ | refine Mod.drewN ?_ _ | refine Mod.setCell ?_ (by first | exact Or.inl rfl | (right; simp; done) | (right; simp; omega)) _))))).mono ?_
       rintro r w' ⟨rfl, rfl⟩)
    | (go_at_call_of 6 (Value.slice B m d)
       refine (HSb.out _ (HB.out _ (by (repeat' (first | exact Mod.refl _ _ | assumption | refine Mod.alloc ?_ _ | refine Mod.drew ?_ | refine Mod.drewN ?_ _ | refine Mod.setCell ?_ (by first | exact Or.inl rfl | (right; simp; done) | (right; simp; omega)) _))))).mono ?_
       rintro r w' ⟨rfl, rfl⟩)
    | (at_builtin
       refine wpList_app (base := w.heap.size + 1 + 1) (xs := []) (ys := xa) (v := .slice none 0 0) rfl _ (.tmp 45) rfl els_t El.cs_len El.cs_one rfl (OwnS.nil _ _ _ _ _) c rfl HN.out (HA.out _ (by (repeat' (first | exact Mod.refl _ _ | assumption | refine Mod.alloc ?_ _ | refine Mod.drew ?_ | refine Mod.drewN ?_ _ | refine Mod.setCell ?_ (by first | exact Or.inl rfl | (right; simp; done) | (right; simp; omega)) _)))) ?_ ?_ ?_ ?_
       · rw [← HN.out]; simp [maxLen]; omega
       · rw [← HN.out]; simp; omega
       · simp
       intro v3 w3 hv3 hm3 _
       rw [List.nil_append] at hv3
       have M3 := (show Mod (fun _ => False) w _ by (repeat' (first | exact Mod.refl _ _ | assumption | refine Mod.alloc ?_ _ | refine Mod.drew ?_ | refine Mod.drewN ?_ _ | refine Mod.setCell ?_ (by first | exact Or.inl rfl | (right; simp; done) | (right; simp; omega)) _))).trans' (hm3.mono (C' := fun _ => False) (fun b _ h => by simp [Value.ownBlock] at h))
       obtain ⟨A3, c3, hv3', -, hf3, -⟩ := OwnS.rd hv3 El.cs_len
       rw [← HN.out] at hv3'
       subst hv3'
       have hz3 : w.heap.size + 1 + 1 ≤ w3.heap.size := by simpa using hm3.size
       have HM3 := Lib.hid hm3
       clear hm3)
    | (at_builtin
       refine wpList_app (xs := xa) (ys := xb) (v := .slice A3 n c3) rfl (.tmp 46) (.tmp 47) rfl els_t El.cs_len El.cs_one rfl hv3 d rfl HM.out (HB.out _ M3) ?_ ?_ ?_ ?_
       · exact HL1.out
       · exact HL2.out
       · omega
       intro v4 w4 hv4 hm4 _
       have M4 := M3.trans hm4 (fun b h => .inr (by have := (hf3 b h).1; omega))
       have o0 : w4.cell? ⟨w.heap.size + 1, 0, none⟩ = some (.bool false) := (hm4.cell (p := ⟨w.heap.size + 1, 0, none⟩) (by show w.heap.size + 1 < _; omega) (fun h => Nat.not_succ_le_self _ (hf3 _ h).1)).trans ((HM3.out.cell (p := ⟨w.heap.size + 1, 0, none⟩) (by simp) (by simp [Value.ownBlock])).trans (by simp))
       have o1 : w4.cell? ⟨w.heap.size + 1, 1, none⟩ = some (.int .i64 lv) := (hm4.cell (p := ⟨w.heap.size + 1, 1, none⟩) (by show w.heap.size + 1 < _; omega) (fun h => Nat.not_succ_le_self _ (hf3 _ h).1)).trans ((HM3.out.cell (p := ⟨w.heap.size + 1, 1, none⟩) (by simp) (by simp [Value.ownBlock])).trans (by simp))
       have hopt : w.heap.size + 1 < w4.heap.size := by have := hm4.size; omega
       obtain ⟨A4, c4, hv4', -, hf4, -⟩ := OwnS.rd hv4 El.cs_len
       have hl4 : (xa ++ xb).length = n + m := by rw [List.length_append, ← HN.out, ← HM.out]
       rw [hl4] at hv4'
       subst hv4'
       have HL4 := Lib.hid hl4
       have HV4 := Lib.hid hv4
       have HE4 := Lib.hid (show w4.heap[w.heap.size]? = some (.cells #[.int .u16 e.P, .int .u16 e.S, .int .u16 e.T, .bool e.V] 33 (0, 0)) from hp_mod (hp_mod (by (repeat' (first | exact hp_new _ _ | exact hp_at _ _ (by simp; done) | refine hp_alloc ?_ _ | refine hp_drew ?_ | refine hp_drewN ?_ _ | apply hp_set | refine hp_far ?_ (by first | (simp; omega) | (simp; done)) _))) HM3.out (by simp [Value.ownBlock])) hm4 (fun h => Nat.not_succ_le_self _ (Nat.le_trans (Nat.le_succ _) (hf3 _ h).1)))
       clear hm4 hl4 hv4)
    | fail)
  have M0 : Mod (fun _ => False) w4 w4 := Mod.refl _ _
  have HPa := Lib.hid (fun X (hX : Mod (fun _ => False) w4 X) => HOa.out false X (M4.trans' hX))
  have HPb := Lib.hid (fun X (hX : Mod (fun _ => False) w4 X) => HOb.out false X (M4.trans' hX))
  have hla1 := HWa.out false
  have hlb1 := HWb.out false
  have hq1 : 0 + (weighs false lv xa).length ≤ maxLen := by simp only [maxLen]; omega
  have hq2 : (0 + (weighs false lv xa).length) * 8 ≤ 140737488355328 := by omega
  have hq3 : (weighs false lv xa).length + (weighs false lv xb).length ≤ maxLen := by simp only [maxLen]; omega
  have hq4 : ((weighs false lv xa).length + (weighs false lv xb).length) * 8 ≤ 140737488355328 := by omega
  go_region_held3 (fun W => W.cell? ⟨w.heap.size + 1, 0, none⟩ = some (.bool false) ∧ W.cell? ⟨w.heap.size + 1, 1, none⟩ = some (.int .i64 lv)) (first | exact ⟨o0, o1⟩ | exact ⟨s0, s1⟩ | exact ⟨p0, p1⟩ | exact ⟨q0, q1⟩ | exact ⟨u0, u1⟩ | fail) (first
      | (go_at_call_of 11 (Value.slice A n c)
         refine (HPa.out _ (by first | exact M0.drew | exact M0)).mono ?_
         rintro e w51x ⟨v51x, rfl, hv51x, hm51x⟩
         obtain ⟨A51x, c51x, rfl, hr51x, hf51x, -⟩ := OwnS.rd hv51x Wt.cs_len
         have M51x := M0.drew.trans' hm51x
         have s0 := (M51x.cell (p := ⟨w.heap.size + 1, 0, none⟩) hopt id).trans o0
         have s1 := (M51x.cell (p := ⟨w.heap.size + 1, 1, none⟩) hopt id).trans o1
         have R51x := Lib.hid (fun X (hX : Mod (fun _ => False) w51x X) => hr51x.mod hX (fun b hb => ⟨(hf51x b hb).2, id⟩))
         clear hv51x hr51x hf51x)
      | (go_at_call_of 11 (Value.slice B m d)
         refine (HPb.out _ (by first | exact M51x | exact M52x)).mono ?_
         rintro e w55x ⟨v55x, rfl, hv55x, hm55x⟩
         obtain ⟨A55x, c55x, rfl, hr55x, hf55x, -⟩ := OwnS.rd hv55x Wt.cs_len
         have M55x : Mod (fun _ => False) w4 w55x := by first | exact M52x.trans' hm55x | exact M51x.trans' hm55x
         have q0 := (M55x.cell (p := ⟨w.heap.size + 1, 0, none⟩) hopt id).trans o0
         have q1 := (M55x.cell (p := ⟨w.heap.size + 1, 1, none⟩) hopt id).trans o1
         have R55x := Lib.hid (fun X (hX : Mod (fun _ => False) w55x X) => hr55x.mod hX (fun b hb => ⟨(hf55x b hb).2, id⟩))
         clear hv55x hr55x hf55x)
      | (refine step_app (base := w4.heap.size) (xs := []) (ys := (weighs false lv xa)) (v := .slice none 0 0) rfl _ (.tmp 51) rfl wts_t Wt.cs_len Wt.cs_one rfl (OwnS.nil _ _ _ _ _) _ rfl rfl (R51x.out _ (by first | exact Mod.refl _ _ | exact hm55x)) ?_ ?_ ?_ ?_
         · exact hq1
         · exact hq2
         · first | exact M55x.size | exact M51x.size
         intro v52x w52x hv52x hm52x _
         have hm52x : Mod (fun _ => False) _ w52x := hm52x.mono (fun b _ h => by simp [Value.ownBlock] at h)
         rw [List.nil_append] at hv52x
         obtain ⟨A52x, c52x, rfl, -, hf52x, -⟩ := OwnS.rd hv52x Wt.cs_len
         have M52x : Mod (fun _ => False) w4 w52x := by first | exact M51x.trans' hm52x | exact M55x.trans' hm52x
         have p0 := (M52x.cell (p := ⟨w.heap.size + 1, 0, none⟩) hopt id).trans o0
         have p1 := (M52x.cell (p := ⟨w.heap.size + 1, 1, none⟩) hopt id).trans o1
         have O52x := Lib.hid (fun X (hX : Mod (fun _ => False) w52x X) => hv52x.mod hX (fun b _ => id))
         clear hm52x hv52x)
      | (refine step_app (base := w4.heap.size) (xs := (weighs false lv xa)) (ys := (weighs false lv xb)) (v := .slice A52x ((weighs false lv xa)).length c52x) rfl (.tmp 52) (.tmp 55) rfl wts_t Wt.cs_len Wt.cs_one rfl (O52x.out _ (by first | exact Mod.refl _ _ | exact hm55x)) _ rfl rfl (R55x.out _ (by first | exact Mod.refl _ _ | exact hm52x)) ?_ ?_ ?_ ?_
         · exact hq3
         · exact hq4
         · first | exact M55x.size | exact M52x.size
         intro v56x w56x hv56x hm56x _
         have M56x : Mod (fun _ => False) w4 w56x := by first | exact M52x.trans hm56x (fun b h => .inr (hf52x b h).1) | exact M55x.trans hm56x (fun b h => .inr (hf52x b h).1)
         obtain ⟨A56x, c56x, rfl, hr56x, hf56x, -⟩ := OwnS.rd hv56x Wt.cs_len
         have u0 := (M56x.cell (p := ⟨w.heap.size + 1, 0, none⟩) hopt id).trans o0
         have u1 := (M56x.cell (p := ⟨w.heap.size + 1, 1, none⟩) hopt id).trans o1)
      | fail)
  all_goals
    have HWab := Lib.hid (weighs_append_plain lv xa xb)
    have hq5 : (weighs false lv xa ++ weighs false lv xb).length ≤ maxLen := by rw [List.length_append]; exact hq3
    have HAB := Lib.hid (fun X (hX : Mod (fun _ => False) w4 X) => of_any false lv A4 c4 (xa ++ xb) X (((rd_of HV4.out El.cs_len).mod hX (fun b hb => ⟨(hf4 b hb).2, id⟩)).mono (fun b hb => Nat.lt_of_lt_of_le (hf4 b hb).2 hX.size)) (by rw [HL4.out]; omega))
    rw [HL4.out] at HAB
    have hbe : w.heap.size < w4.heap.size := by omega
    have e0 : w4.heap[w.heap.size]? = some (.cells #[.int .u16 e.P, .int .u16 e.S, .int .u16 e.T, .bool e.V] 33 (0, 0)) := HE4.out
    have E := Lib.hid e0
    clear e0
    by_cases hP : e.P = 0
    · go_wp2_with (first
      | (go_at_call 11
         refine (HAB.out _ M56x).mono ?_
         rintro r w59 ⟨v59, rfl, hv59, hm59⟩
         rw [HWab.out] at hv59
         obtain ⟨A59, c59, rfl, hr59, hf59, -⟩ := OwnS.rd hv59 Wt.cs_len
         have M59 := M56x.trans' hm59
         have HX59 := Lib.hid (hr56x.mod hm59 (fun b hb => ⟨(hf56x b hb).2, id⟩))
         have y0 := (M59.cell (p := ⟨w.heap.size + 1, 0, none⟩) hopt id).trans o0
         clear hv59 hm59)
      | (go_at_call 12
         refine (same_mod _ _ A59 A56x _ _ _ _ (weighs false lv xa ++ weighs false lv xb) (weighs false lv xa ++ weighs false lv xb) w59 (by simp only [List.length_append]) (by simp only [List.length_append]) hr59 HX59.out (by rw [List.length_append] at hq5; simpa only [List.length_append] using hq5)).mono ?_
         rw [decide_eq_true rfl]
         rintro r w61 ⟨rfl, hm61⟩
         have E61 := hp_mod (hp_mod E.out M59 id) hm61 id
         have g0 := hp_cell E61 0
         have g3 := hp_cell E61 3
         have M61 := M59.trans' hm61
         have HE61 := Lib.hid E61
         clear E61 hm61)
      | (go_at_call 7
         refine (known_any _).mono ?_
         rintro r w70 ⟨rfl, hm70⟩)
      | fail)
      go_ret
      exact ⟨rfl, M4.trans' (M61.trans' hm70)⟩
    · have hPb : ((e.P : Int) == 0) = false := by simpa using hP
      have HP := Lib.hid hP
      clear hP
      cases hV : e.V
      case true =>
        rw [hV] at E
        clear hV
        go_wp2_with (first
        | (go_at_call 11
           refine (HAB.out _ M56x).mono ?_
           rintro r w59 ⟨v59, rfl, hv59, hm59⟩
           rw [HWab.out] at hv59
           obtain ⟨A59, c59, rfl, hr59, hf59, -⟩ := OwnS.rd hv59 Wt.cs_len
           have M59 := M56x.trans' hm59
           have HX59 := Lib.hid (hr56x.mod hm59 (fun b hb => ⟨(hf56x b hb).2, id⟩))
           have y0 := (M59.cell (p := ⟨w.heap.size + 1, 0, none⟩) hopt id).trans o0
           clear hv59 hm59)
        | (go_at_call 12
           refine (same_mod _ _ A59 A56x _ _ _ _ (weighs false lv xa ++ weighs false lv xb) (weighs false lv xa ++ weighs false lv xb) w59 (by simp only [List.length_append]) (by simp only [List.length_append]) hr59 HX59.out (by rw [List.length_append] at hq5; simpa only [List.length_append] using hq5)).mono ?_
           rw [decide_eq_true rfl]
           rintro r w61 ⟨rfl, hm61⟩
           have E61 := hp_mod (hp_mod E.out M59 id) hm61 id
           have g0 := hp_cell E61 0
           have g3 := hp_cell E61 3
           have M61 := M59.trans' hm61
           have HE61 := Lib.hid E61
           clear E61 hm61)
        | (go_at_call 7
           refine (known_any _).mono ?_
           rintro r w70 ⟨rfl, hm70⟩)
        | fail)
        go_ret
        exact ⟨rfl, M4.trans' (M61.trans' hm70)⟩
      case false =>
        rw [hV] at E
        have HV := Lib.hid hV
        clear hV
        go_wp2_with (first
        | (go_at_call 11
           refine (HAB.out _ M56x).mono ?_
           rintro r w59 ⟨v59, rfl, hv59, hm59⟩
           rw [HWab.out] at hv59
           obtain ⟨A59, c59, rfl, hr59, hf59, -⟩ := OwnS.rd hv59 Wt.cs_len
           have M59 := M56x.trans' hm59
           have HX59 := Lib.hid (hr56x.mod hm59 (fun b hb => ⟨(hf56x b hb).2, id⟩))
           have y0 := (M59.cell (p := ⟨w.heap.size + 1, 0, none⟩) hopt id).trans o0
           clear hv59 hm59)
        | (go_at_call 12
           refine (same_mod _ _ A59 A56x _ _ _ _ (weighs false lv xa ++ weighs false lv xb) (weighs false lv xa ++ weighs false lv xb) w59 (by simp only [List.length_append]) (by simp only [List.length_append]) hr59 HX59.out (by rw [List.length_append] at hq5; simpa only [List.length_append] using hq5)).mono ?_
           rw [decide_eq_true rfl]
           rintro r w61 ⟨rfl, hm61⟩
           have E61 := hp_mod (hp_mod E.out M59 id) hm61 id
           have g0 := hp_cell E61 0
           have g3 := hp_cell E61 3
           have M61 := M59.trans' hm61
           have HE61 := Lib.hid E61
           clear E61 hm61)
        | (go_at_call 7
           refine (known_any _).mono ?_
           rintro r w70 ⟨rfl, hm70⟩)
        | fail)
        obtain ⟨W5, hW5⟩ : ∃ X, X = w61.alloc (.cells #[.bool true, .int .i64 lv] 23) := ⟨_, rfl⟩
        have M5 : Mod (fun _ => False) w4 W5 := by rw [hW5]; exact M61.alloc _
        have hE5 : W5.heap[w.heap.size]? = some (.cells #[.int .u16 e.P, .int .u16 e.S, .int .u16 e.T, .bool false] 33 (0, 0)) := by rw [hW5]; exact hp_alloc HE61.out _
        have hO5 : W5.heap[w61.heap.size]? = some (.cells #[.bool true, .int .i64 lv] 23 (0, 0)) := by rw [hW5]; exact hp_new _ _
        have hopt5 : w61.heap.size < W5.heap.size := by rw [hW5]; simp
        have hbe5 : w.heap.size < W5.heap.size := by have := M5.size; omega
        rw [← hW5]
        clear hW5
        have i0 := hp_cell hE5 0
        have i1 := hp_cell hE5 1
        have i2 := hp_cell hE5 2
        have i3 := hp_cell hE5 3
        have HO5 := Lib.hid hO5
        have HE5 := Lib.hid hE5
        have hl5 : 0 + xa.length ≤ maxLen := by rw [← HN.out]; simp only [maxLen]; omega
        have hl6 : (0 + xa.length) * 8 ≤ 140737488355328 := by rw [← HN.out]; omega
        have hl7 : xa.length + [e].length ≤ maxLen := by rw [← HN.out]; simp only [maxLen, List.length_singleton]; omega
        have hl8 : (xa.length + [e].length) * 8 ≤ 140737488355328 := by rw [← HN.out]; simp only [List.length_singleton]; omega
        have HL5 := Lib.hid (And.intro hl5 (And.intro hl6 (And.intro hl7 hl8)))
        clear hO5 hE5 hl5 hl6 hl7 hl8 g0 g3 u0 u1
        go_region_held3 (fun W => W.cell? ⟨w.heap.size, 0, none⟩ = some (.int .u16 e.P) ∧ W.cell? ⟨w.heap.size, 1, none⟩ = some (.int .u16 e.S) ∧ W.cell? ⟨w.heap.size, 2, none⟩ = some (.int .u16 e.T) ∧ W.cell? ⟨w.heap.size, 3, none⟩ = some (.bool false)) (first | exact ⟨i0, i1, i2, i3⟩ | exact ⟨k0, k1, k2, k3⟩ | exact ⟨(World.cell?_alloc_lt _ _ _ hbe5).trans i0, (World.cell?_alloc_lt _ _ _ hbe5).trans i1, (World.cell?_alloc_lt _ _ _ hbe5).trans i2, (World.cell?_alloc_lt _ _ _ hbe5).trans i3⟩ | exact ⟨(World.cell?_alloc_lt _ _ _ hbe74).trans k0, (World.cell?_alloc_lt _ _ _ hbe74).trans k1, (World.cell?_alloc_lt _ _ _ hbe74).trans k2, (World.cell?_alloc_lt _ _ _ hbe74).trans k3⟩ | fail) (first
          | (refine step_app (base := W5.heap.size) (xs := []) (ys := xa) (v := .slice none 0 0) rfl _ (.tmp 73) rfl els_t El.cs_len El.cs_one rfl (OwnS.nil _ _ _ _ _) c rfl HN.out (HA.out _ (M4.trans' (by (repeat' (first | exact Mod.refl _ _ | assumption | refine Mod.alloc ?_ _ | refine Mod.drew ?_ | refine Mod.drewN ?_ _ | refine Mod.setCell ?_ (by first | exact Or.inl rfl | (right; simp; done) | (right; simp; omega)) _))))) ?_ ?_ ?_ ?_
             · exact HL5.out.1
             · exact HL5.out.2.1
             · first | exact Nat.le_refl _ | (simp; done)
             intro v74 w74 hv74 hm74x _
             have hm74 : Mod (fun _ => False) _ w74 := hm74x.mono (fun b _ h => by simp [Value.ownBlock] at h)
             rw [List.nil_append] at hv74
             obtain ⟨A74, c74, hv74', -, hf74, -⟩ := OwnS.rd hv74 El.cs_len
             rw [← HN.out] at hv74'
             subst hv74'
             have M74 : Mod (fun _ => False) W5 w74 := (show Mod (fun _ => False) W5 _ by (repeat' (first | exact Mod.refl _ _ | assumption | refine Mod.alloc ?_ _ | refine Mod.drew ?_ | refine Mod.drewN ?_ _ | refine Mod.setCell ?_ (by first | exact Or.inl rfl | (right; simp; done) | (right; simp; omega)) _))).trans' hm74
             have k0 := (M74.cell (p := ⟨w.heap.size, 0, none⟩) hbe5 id).trans i0
             have k1 := (M74.cell (p := ⟨w.heap.size, 1, none⟩) hbe5 id).trans i1
             have k2 := (M74.cell (p := ⟨w.heap.size, 2, none⟩) hbe5 id).trans i2
             have k3 := (M74.cell (p := ⟨w.heap.size, 3, none⟩) hbe5 id).trans i3
             have O74 := Lib.hid (fun X (hX : Mod (fun _ => False) w74 X) => hv74.mod hX (fun b _ => id))
             have hbe74 : w.heap.size < w74.heap.size := by have := M74.size; omega
             clear hm74x hv74)
          | (refine step_app (base := W5.heap.size) (xs := xa) (ys := [e]) (D := fun _ => True) (v := .slice A74 n c74) rfl (.tmp 74) (.tmp 76) rfl els_t El.cs_len El.cs_one rfl (O74.out _ (by first | exact Mod.refl _ _ | exact (Mod.refl _ _).alloc _)) 1 rfl rfl (Rd.mono (Rd.one (by first | exact hp_new _ _ | exact hp_mod (C := fun _ => False) (hp_new _ _) hm74.undrew id | exact hp_mod (C := fun _ => False) (hp_new _ _) hm74 id) (by simp [El.cs, HV.out])) fun _ _ => trivial) ?_ ?_ ?_ ?_
             · exact HL5.out.2.2.1
             · exact HL5.out.2.2.2
             · first | exact M74.size | (have := M74.size; simp; omega)
             intro v77 w77 hv77 hm77x _
             have M77 : Mod (fun _ => False) W5 w77 := (show Mod (fun _ => False) W5 _ by (repeat' (first | exact Mod.refl _ _ | assumption | refine Mod.alloc ?_ _ | refine Mod.drew ?_ | refine Mod.drewN ?_ _ | refine Mod.setCell ?_ (by first | exact Or.inl rfl | (right; simp; done) | (right; simp; omega)) _))).trans hm77x (fun b h => .inr (hf74 b h).1)
             obtain ⟨A77, c77, hv77', -, hf77, -⟩ := OwnS.rd hv77 El.cs_len
             have hl77 : (xa ++ [e]).length = n + 1 := by rw [List.length_append, ← HN.out]; rfl
             rw [hl77] at hv77'
             subst hv77'
             have HL77 := Lib.hid hl77
             have HV77 := Lib.hid hv77
             have k0 := (M77.cell (p := ⟨w.heap.size, 0, none⟩) hbe5 id).trans i0
             have k1 := (M77.cell (p := ⟨w.heap.size, 1, none⟩) hbe5 id).trans i1
             have k2 := (M77.cell (p := ⟨w.heap.size, 2, none⟩) hbe5 id).trans i2
             have k3 := (M77.cell (p := ⟨w.heap.size, 3, none⟩) hbe5 id).trans i3
             clear hm77x hl77 hv77)
          | fail)
        all_goals
          have hfl : 0 + (xa ++ [e]).length ≤ maxLen := by rw [HL77.out]; simp only [maxLen]; omega
          have hfm : (0 + (xa ++ [e]).length) * 8 ≤ 140737488355328 := by rw [HL77.out]; omega
          have hgl : (xa ++ [e]).length + xb.length ≤ maxLen := by rw [HL77.out, ← HM.out]; simp only [maxLen]; omega
          have hgm : ((xa ++ [e]).length + xb.length) * 8 ≤ 140737488355328 := by rw [HL77.out, ← HM.out]; omega
          have HFL := Lib.hid (And.intro hfl (And.intro hfm (And.intro hgl hgm)))
          have HO77 := Lib.hid ((hp_cell HO5.out 0).symm)
          have z0 := (M77.cell (p := ⟨w61.heap.size, 0, none⟩) hopt5 id).trans (hp_cell HO5.out 0)
          have z1 := (M77.cell (p := ⟨w61.heap.size, 1, none⟩) hopt5 id).trans (hp_cell HO5.out 1)
          have hopt7 : w61.heap.size < w77.heap.size := by have := M77.size; omega
          clear hfl hfm hgl hgm HO77
          go_wp2_with (first
            | (at_builtin
               refine wpList_app (base := w77.heap.size) (xs := []) (ys := xa ++ [e]) (v := .slice none 0 0) rfl _ (.tmp 78) rfl els_t El.cs_len El.cs_one rfl (OwnS.nil _ _ _ _ _) c77 rfl HL77.out.symm (rd_of HV77.out El.cs_len) ?_ ?_ ?_ ?_
               · exact HFL.out.1
               · exact HFL.out.2.1
               · exact Nat.le_refl _
               intro v79 w79 hv79 hm79x _
               have M79 : Mod (fun _ => False) w77 w79 := hm79x.mono (fun b _ h => by simp [Value.ownBlock] at h)
               rw [List.nil_append] at hv79
               obtain ⟨A79, c79, hv79', -, hf79, -⟩ := OwnS.rd hv79 El.cs_len
               rw [HL77.out] at hv79'
               subst hv79'
               clear hm79x)
            | (at_builtin
               refine wpList_app (xs := xa ++ [e]) (ys := xb) (v := .slice A79 (n + 1) c79) rfl (.tmp 79) (.tmp 80) rfl els_t El.cs_len El.cs_one rfl hv79 d rfl HM.out (HB.out _ (M4.trans' (M5.trans' (M77.trans' M79)))) ?_ ?_ ?_ ?_
               · exact HFL.out.2.2.1
               · exact HFL.out.2.2.2
               · exact M79.size
               intro v81 w81 hv81 hm81x _
               have M81 : Mod (fun _ => False) w77 w81 := M79.trans hm81x (fun b h => .inr (hf79 b h).1)
               have hl81 : (xa ++ [e] ++ xb).length = n + 1 + m := by rw [List.length_append, HL77.out, ← HM.out]
               obtain ⟨A81, c81, hv81', -, hf81, -⟩ := OwnS.rd hv81 El.cs_len
               rw [hl81] at hv81'
               subst hv81'
               have HL81 := Lib.hid hl81
               have HV81 := Lib.hid hv81
               have j0 := (M81.cell (p := ⟨w61.heap.size, 0, none⟩) hopt7 id).trans z0
               have j1 := (M81.cell (p := ⟨w61.heap.size, 1, none⟩) hopt7 id).trans z1
               have hopt2 : w61.heap.size < w81.heap.size := by have := M81.size; omega
               clear hm81x hl81 hv81 hv79)
            | fail)
        all_goals
          have N0 : Mod (fun _ => False) w81 w81 := Mod.refl _ _
          have NC : Mod (fun _ => False) w w81 := M4.trans' (M5.trans' (M77.trans' M81))
          have HQb := Lib.hid (fun X (hX : Mod (fun _ => False) w81 X) => HOb.out true X (NC.trans' hX))
          have HQa := Lib.hid (fun X (hX : Mod (fun _ => False) w81 X) => of_any true lv A77 c77 (xa ++ [e]) X (((rd_of HV77.out El.cs_len).mod (M81.trans' hX) (fun b hb => ⟨(hf77 b hb).2, id⟩)).mono (fun b hb => Nat.lt_of_lt_of_le (hf77 b hb).2 (M81.trans' hX).size)) (by rw [HL77.out]; omega))
          have HQc := Lib.hid (fun X (hX : Mod (fun _ => False) w81 X) => of_any true lv A81 c81 (xa ++ [e] ++ xb) X (((rd_of HV81.out El.cs_len).mod hX (fun b hb => ⟨(hf81 b hb).2, id⟩)).mono (fun b hb => Nat.lt_of_lt_of_le (hf81 b hb).2 hX.size)) (by rw [HL81.out]; omega))
          rw [HL77.out] at HQa
          rw [HL81.out] at HQc
          have HWc := Lib.hid (weighs_append lv (xa ++ [e]) xb (bAt_behind xa e HP.out HV.out))
          have hwx := Nat.le_trans (weighs_len true lv (xa ++ [e])) (Nat.le_of_eq HL77.out)
          have hwy := HWb.out true
          have hq6 : 0 + (weighs true lv (xa ++ [e])).length ≤ maxLen := by simp only [maxLen]; omega
          have hq7 : (0 + (weighs true lv (xa ++ [e])).length) * 8 ≤ 140737488355328 := by omega
          have hq8 : (weighs true lv (xa ++ [e])).length + (weighs true lv xb).length ≤ maxLen := by simp only [maxLen]; omega
          have hq9 : ((weighs true lv (xa ++ [e])).length + (weighs true lv xb).length) * 8 ≤ 140737488355328 := by omega
          go_region_held3 (fun W => W.cell? ⟨w61.heap.size, 0, none⟩ = some (.bool true) ∧ W.cell? ⟨w61.heap.size, 1, none⟩ = some (.int .i64 lv)) (first | exact ⟨j0, j1⟩ | exact ⟨s0, s1⟩ | exact ⟨p0, p1⟩ | exact ⟨q0, q1⟩ | exact ⟨u0, u1⟩ | fail) (first
            | (go_at_call_has 11 (Value.slice A77 (n + 1) c77)
               refine (HQa.out _ (by first | exact N0.drew | exact N0)).mono ?_
               rintro e w51z ⟨v51z, rfl, hv51z, hm51z⟩
               obtain ⟨A51z, c51z, rfl, hr51z, hf51z, -⟩ := OwnS.rd hv51z Wt.cs_len
               have M51z := N0.drew.trans' hm51z
               have s0 := (M51z.cell (p := ⟨w61.heap.size, 0, none⟩) hopt2 id).trans j0
               have s1 := (M51z.cell (p := ⟨w61.heap.size, 1, none⟩) hopt2 id).trans j1
               have R51z := Lib.hid (fun X (hX : Mod (fun _ => False) w51z X) => hr51z.mod hX (fun b hb => ⟨(hf51z b hb).2, id⟩))
               clear hv51z hr51z hf51z)
            | (go_at_call_of 11 (Value.slice B m d)
               refine (HQb.out _ (by first | exact M51z | exact M52z)).mono ?_
               rintro e w55z ⟨v55z, rfl, hv55z, hm55z⟩
               obtain ⟨A55z, c55z, rfl, hr55z, hf55z, -⟩ := OwnS.rd hv55z Wt.cs_len
               have M55z : Mod (fun _ => False) w81 w55z := by first | exact M52z.trans' hm55z | exact M51z.trans' hm55z
               have q0 := (M55z.cell (p := ⟨w61.heap.size, 0, none⟩) hopt2 id).trans j0
               have q1 := (M55z.cell (p := ⟨w61.heap.size, 1, none⟩) hopt2 id).trans j1
               have R55z := Lib.hid (fun X (hX : Mod (fun _ => False) w55z X) => hr55z.mod hX (fun b hb => ⟨(hf55z b hb).2, id⟩))
               clear hv55z hr55z hf55z)
            | (refine step_app (base := w81.heap.size) (xs := []) (ys := (weighs true lv (xa ++ [e]))) (v := .slice none 0 0) rfl _ (.tmp 84) rfl wts_t Wt.cs_len Wt.cs_one rfl (OwnS.nil _ _ _ _ _) _ rfl rfl (R51z.out _ (by first | exact Mod.refl _ _ | exact hm55z)) ?_ ?_ ?_ ?_
               · exact hq6
               · exact hq7
               · first | exact M55z.size | exact M51z.size
               intro v52z w52z hv52z hm52x _
               have hm52z : Mod (fun _ => False) _ w52z := hm52x.mono (fun b _ h => by simp [Value.ownBlock] at h)
               rw [List.nil_append] at hv52z
               obtain ⟨A52z, c52z, rfl, -, hf52z, -⟩ := OwnS.rd hv52z Wt.cs_len
               have M52z : Mod (fun _ => False) w81 w52z := by first | exact M51z.trans' hm52z | exact M55z.trans' hm52z
               have p0 := (M52z.cell (p := ⟨w61.heap.size, 0, none⟩) hopt2 id).trans j0
               have p1 := (M52z.cell (p := ⟨w61.heap.size, 1, none⟩) hopt2 id).trans j1
               have O52z := Lib.hid (fun X (hX : Mod (fun _ => False) w52z X) => hv52z.mod hX (fun b _ => id))
               clear hm52x hv52z)
            | (refine step_app (base := w81.heap.size) (xs := (weighs true lv (xa ++ [e]))) (ys := (weighs true lv xb)) (v := .slice A52z ((weighs true lv (xa ++ [e]))).length c52z) rfl (.tmp 85) (.tmp 88) rfl wts_t Wt.cs_len Wt.cs_one rfl (O52z.out _ (by first | exact Mod.refl _ _ | exact hm55z)) _ rfl rfl (R55z.out _ (by first | exact Mod.refl _ _ | exact hm52z)) ?_ ?_ ?_ ?_
               · exact hq8
               · exact hq9
               · first | exact M55z.size | exact M52z.size
               intro v56z w56z hv56z hm56x _
               have M56z : Mod (fun _ => False) w81 w56z := by first | exact M52z.trans hm56x (fun b h => .inr (hf52z b h).1) | exact M55z.trans hm56x (fun b h => .inr (hf52z b h).1)
               obtain ⟨A56z, c56z, rfl, hr56z, hf56z, -⟩ := OwnS.rd hv56z Wt.cs_len
               have u0 := (M56z.cell (p := ⟨w61.heap.size, 0, none⟩) hopt2 id).trans j0
               have u1 := (M56z.cell (p := ⟨w61.heap.size, 1, none⟩) hopt2 id).trans j1)
            | fail)
        all_goals
          go_wp2_with (first
            | (go_at_call 11
               refine (HQc.out _ M56z).mono ?_
               rintro r w92 ⟨v92, rfl, hv92, hm92⟩
               rw [HWc.out] at hv92
               obtain ⟨A92, c92, rfl, hr92, hf92, -⟩ := OwnS.rd hv92 Wt.cs_len
               have HX92 := Lib.hid (hr56z.mod hm92 (fun b hb => ⟨(hf56z b hb).2, id⟩))
               clear hv92)
            | (go_at_call 12
               refine (same_mod _ _ A92 A56z _ _ _ _ (weighs true lv (xa ++ [e]) ++ weighs true lv xb) (weighs true lv (xa ++ [e]) ++ weighs true lv xb) w92 (by simp only [List.length_append]) (by simp only [List.length_append]) hr92 HX92.out (by simpa only [List.length_append] using hq8)).mono ?_
               rw [decide_eq_true rfl]
               rintro r w94 ⟨rfl, hm94⟩)
            | (go_at_call 7
               refine (known_any _).mono ?_
               rintro r w96 ⟨rfl, hm96⟩)
            | fail)
          go_ret
          exact ⟨rfl, NC.trans' (M56z.trans' (hm92.trans' (hm94.trans' hm96)))⟩
end Go.Proofs.Ytiojlpjpihmgdaa
