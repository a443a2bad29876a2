/-
  The law FoldMeans.
-/
import Derived.Test.YtidbgfmknhlmnaaGreatDoorFoldL
import Derived.IntWalk
namespace Go.Proofs.YtidbgfmknhlmnaaGreatDoor
open Go.RowKit Go.Shelf Go.Sort
attribute [local go_sem] Oper.semAt_some

theorem full_still {ls : List FL} (h : stillL ls = true) (r : Int) : textL ls (fullL ls r) = fullL ls r := by
  by_cases hr : r ∈ chgL ls
  · have := List.all_eq_true.1 h r hr
    simpa using this
  · have hone : fullL ls r = [r] := by
      unfold fullL
      split
      · rename_i x hx
        have hp := List.find?_some hx
        have hm := List.mem_of_find?_eq_some hx
        rw [Bool.and_eq_true, decide_eq_true_eq] at hp
        by_cases hmv : moves x = true
        · exfalso
          refine hr ((chgL_perm ls).mem_iff.2 (List.mem_map.2 ⟨x, List.mem_filter.2 ⟨hm, hmv⟩, hp.1⟩))
        · have : x.row = [x.R] := by simpa [moves, hp.2] using hmv
          rw [this]
          simp [natI, hp.1]
      · rfl
    rw [hone]
    simp [textL, hone]
theorem text_still {ls : List FL} (h : stillL ls = true) (xs : List Int) : textL ls (textL ls xs) = textL ls xs := by
  induction xs with
  | nil => rfl
  | cons x t ih =>
    have e : textL ls (x :: t) = fullL ls x ++ textL ls t := rfl
    rw [e]
    have e2 : textL ls (fullL ls x ++ textL ls t) = textL ls (fullL ls x) ++ textL ls (textL ls t) := by simp [textL]
    rw [e2, full_still h, ih]
theorem text_app (ls : List FL) (xs ys : List Int) : textL ls (xs ++ ys) = textL ls xs ++ textL ls ys := by simp [textL]
/-- A slice's text, in memory of its own. -/
theorem dtextR (fb : Nat) (hs : List FH) (ls : List FL) (hls : hs.map FH.x = ls) (w1 : World) (hF : FoldIn (fun b => b < w1.heap.size) w1 (ptrV fb) hs) (A : Option Addr) (c n : Nat) (xs : List Int) (X : World) (hX : Mod (fun _ => False) w1 X) (hA : Rd (fun b => b < X.heap.size) X 1 csI A xs) (hn : n = xs.length) (hl : xs.length ≤ 1000000) :
    Calls Tryz.prog 16 #[ptrV fb, .slice A n c] X fun e w' => ∃ A' c', e = .returned (.slice A' (textL ls xs).length c') ∧ Rd (fun b => b < w'.heap.size) w' 1 csI A' (textL ls xs) ∧ Mod (fun _ => False) X w' := by
  subst hn
  refine (dtext_any _ _ (ptrV fb) hs A c xs X (hF.mod hX fun b hb => ⟨hb, id⟩) (fun b hb => Nat.lt_of_lt_of_le hb hX.size) hA (fun b hb => hb) hl).mono ?_
  rintro e w' ⟨u, rfl, ho, hm⟩
  rw [hls] at ho
  obtain ⟨A', c', rfl, hr, hf, -⟩ := ho.rd csI_len
  exact ⟨A', c', rfl, hr.mono fun b hb => (hf b hb).2, hm⟩
theorem sameR (A B : Option Addr) (c d n m : Nat) (xs ys : List Int) (X : World) (hA : Rd (fun b => b < X.heap.size) X 1 csI A xs) (hB : Rd (fun b => b < X.heap.size) X 1 csI B ys) (hn : n = xs.length) (hm : m = ys.length) (hx : xs.length ≤ 100000000) (he : xs = ys) :
    Calls Tryz.prog 13 #[.slice A n c, .slice B m d] X fun e w' => e = .returned (.bool true) ∧ Mod (fun _ => False) X w' := by
  subst he hn hm
  have h := same_any _ _ A B c d xs xs X hA hB (by unfold maxLen; omega) (by unfold maxLen; omega) (fun b hb => hb) (fun b hb => hb)
  rw [show decide (xs = xs) = true by simp] at h
  exact h
theorem rdKeep {w X : World} {A : Option Addr} {xs : List Int} (h : Rd (fun b => b < w.heap.size) w 1 csI A xs) (hX : Mod (fun _ => False) w X) : Rd (fun b => b < X.heap.size) X 1 csI A xs :=
  (h.mod hX fun b hb => ⟨hb, id⟩).mono fun b hb => Nat.lt_of_lt_of_le hb hX.size
set_option maxRecDepth 100000 in
set_option maxHeartbeats 8000000 in
theorem foldMeans_any (l : Bs) (A B : Option Addr) (c d : Nat) (xs ys : List Int) (w : World) (hmx : MaxVar w) (het : ErrT w) (hA : Rd (fun b => b < w.heap.size) w 1 csI A xs) (hB : Rd (fun b => b < w.heap.size) w 1 csI B ys) :
    Calls Tryz.prog 5 #[.string ⟨l.toArray⟩, .slice A xs.length c, .slice B ys.length d] w fun e w' => e = .returned (.bool true) ∧ Mod (fun _ => False) w w' := by
  have HK := Lib.hid (fun X (hX : Mod (fun _ => False) w X) => known_any X (hmx.mod hX id) (het.mod hX id))
  obtain ⟨na, hna⟩ : ∃ n, n = xs.length := ⟨_, rfl⟩
  obtain ⟨nb, hnb⟩ : ∃ n, n = ys.length := ⟨_, rfl⟩
  rw [← hna, ← hnb]
  have HNa := Lib.hid hna
  have HNb := Lib.hid hnb
  have HA := Lib.hid hA
  have HB := Lib.hid hB
  clear hna hnb hA hB
  by_cases hl : 6000 < l.length
  · have hd : decide (6000 < (l.length : Int)) = true := by simp; omega
    clear hl
    clear hmx het
    go_enter Tryz.func5, Tryz.ntmps5
    go_wp2_with (first
      | (go_at_call 8; (with_reducible refine (HK.out _ (by (repeat' (with_reducible (first | exact Mod.refl _ _ | assumption | refine Mod.alloc ?_ _ | refine Mod.drew ?_ | refine Mod.drewN ?_ _ | refine Mod.setCell ?_ (by first | exact Or.inl rfl | (right; simp; done) | (right; simp; omega) | (left; simp; done)) _))))).mono ?_); rintro e w2 ⟨rfl, hm2⟩)
      | fail)
    go_ret
    exact ⟨rfl, hm2⟩
  have hd1 : decide (6000 < (l.length : Int)) = false := by simp; omega
  by_cases ha : 200 < na
  · have hd : decide (200 < (na : Int)) = true := by simp; omega
    clear hl ha
    clear hmx het
    go_enter Tryz.func5, Tryz.ntmps5
    go_wp2_with (first
      | (go_at_call 8; (with_reducible refine (HK.out _ (by (repeat' (with_reducible (first | exact Mod.refl _ _ | assumption | refine Mod.alloc ?_ _ | refine Mod.drew ?_ | refine Mod.drewN ?_ _ | refine Mod.setCell ?_ (by first | exact Or.inl rfl | (right; simp; done) | (right; simp; omega) | (left; simp; done)) _))))).mono ?_); rintro e w2 ⟨rfl, hm2⟩)
      | fail)
    go_ret
    exact ⟨rfl, hm2⟩
  have hd2 : decide (200 < (na : Int)) = false := by simp; omega
  by_cases hb : 200 < nb
  · have hd : decide (200 < (nb : Int)) = true := by simp; omega
    clear hl ha hb
    clear hmx het
    go_enter Tryz.func5, Tryz.ntmps5
    go_wp2_with (first
      | (go_at_call 8; (with_reducible refine (HK.out _ (by (repeat' (with_reducible (first | exact Mod.refl _ _ | assumption | refine Mod.alloc ?_ _ | refine Mod.drew ?_ | refine Mod.drewN ?_ _ | refine Mod.setCell ?_ (by first | exact Or.inl rfl | (right; simp; done) | (right; simp; omega) | (left; simp; done)) _))))).mono ?_); rintro e w2 ⟨rfl, hm2⟩)
      | fail)
    go_ret
    exact ⟨rfl, hm2⟩
  have hd3 : decide (200 < (nb : Int)) = false := by simp; omega
  have HOf := Lib.hid (fun X (hX : Mod (fun _ => False) w X) => dof_any l X (by omega) (hmx.mod hX id) (het.mod hX id))
  have hlN : ¬ 6000 < l.length := hl
  clear hmx het hl
  generalize foldT l = o at *
  cases o with
  | inr n =>
    go_enter Tryz.func5, Tryz.ntmps5
    go_wp2_with (first
      | (go_at_call 8; (with_reducible refine (HK.out _ (by (repeat' (with_reducible (first | exact Mod.refl _ _ | assumption | refine Mod.alloc ?_ _ | refine Mod.drew ?_ | refine Mod.drewN ?_ _ | refine Mod.setCell ?_ (by first | exact Or.inl rfl | (right; simp; done) | (right; simp; omega) | (left; simp; done)) _))))).mono ?_); rintro e w2 ⟨rfl, hm2⟩)
      | (go_at_call 9; (with_reducible refine (HOf.out _ (by (repeat' (with_reducible (first | exact Mod.refl _ _ | assumption | refine Mod.alloc ?_ _ | refine Mod.drew ?_ | refine Mod.drewN ?_ _ | refine Mod.setCell ?_ (by first | exact Or.inl rfl | (right; simp; done) | (right; simp; omega) | (left; simp; done)) _))))).mono ?_); rintro e w3 ⟨rfl, hm3⟩)
      | (go_at_call 11; refine (lnum_any _ _).mono ?_; rintro e w4 ⟨rfl, rfl⟩)
      | fail)
    go_ret
    exact ⟨rfl, hm2.trans' hm3⟩
  | inl ls =>
    obtain ⟨s, hs⟩ : ∃ s, s = stillL ls := ⟨_, rfl⟩
    have HS := Lib.hid hs
    clear hs
    obtain ⟨nx, hnx⟩ : ∃ n, n = (textL ls xs).length := ⟨_, rfl⟩
    obtain ⟨ny, hny⟩ : ∃ n, n = (textL ls ys).length := ⟨_, rfl⟩
    have HNx := Lib.hid hnx
    have HNy := Lib.hid hny
    clear hnx hny
    cases s
    · go_enter Tryz.func5, Tryz.ntmps5
      go_wp2_with (first
        | (go_at_call 8; (with_reducible refine (HK.out _ (by (repeat' (with_reducible (first | exact Mod.refl _ _ | assumption | refine Mod.alloc ?_ _ | refine Mod.drew ?_ | refine Mod.drewN ?_ _ | refine Mod.setCell ?_ (by first | exact Or.inl rfl | (right; simp; done) | (right; simp; omega) | (left; simp; done)) _))))).mono ?_); rintro e w2 ⟨rfl, hm2⟩)
        | (go_at_call 9; (with_reducible refine (HOf.out _ (by (repeat' (with_reducible (first | exact Mod.refl _ _ | assumption | refine Mod.alloc ?_ _ | refine Mod.drew ?_ | refine Mod.drewN ?_ _ | refine Mod.setCell ?_ (by first | exact Or.inl rfl | (right; simp; done) | (right; simp; omega) | (left; simp; done)) _))))).mono ?_); rintro e w1 ⟨⟨fb, hs, rfl, hls, hF, hlen⟩, hm3⟩
           have hF := hF.mono (D' := fun b => b < w1.heap.size) fun b hb => hb.2
           have M1 := hm2.trans' hm3
           have hle : ∀ r, (fullL ls r).length ≤ 3 := fun r => by have := fullL_len hF r; rwa [hls] at this
           have HTa := Lib.hid (fun X (hX : Mod (fun _ => False) w1 X) => dtextR fb hs ls hls w1 hF A c na xs X hX (rdKeep HA.out (M1.trans' hX)) HNa.out (by have := HNa.out; omega))
           have HTb := Lib.hid (fun X (hX : Mod (fun _ => False) w1 X) => dtextR fb hs ls hls w1 hF B d nb ys X hX (rdKeep HB.out (M1.trans' hX)) HNb.out (by have := HNb.out; omega))
           have hlx := textL_le hle xs
           have hly := textL_le hle ys
           have HLx := Lib.hid (show nx ≤ 600 by rw [HNx.out]; have := HNa.out; omega)
           have HLy := Lib.hid (show ny ≤ 600 by rw [HNy.out]; have := HNb.out; omega)
           rw [← HNx.out] at HTa
           rw [← HNy.out] at HTb
           have HTg := Lib.hid (fun A c n xs X hX hA hn hl => dtextR fb hs ls hls w1 hF A c n xs X hX hA hn hl)
           have HSt := Lib.hid (fun X (hX : Mod (fun _ => False) w1 X) => dstill_any _ (ptrV fb) hs ls hls X (hF.mod hX fun b hb => ⟨hb, id⟩) (fun b hb => Nat.lt_of_lt_of_le hb hX.size) (by omega))
           rw [← HS.out] at HSt
           have HM1 := Lib.hid M1
           clear hF hle hlx hly hls hlen M1 hm2 hm3)
        | (go_at_call 11; refine (lnum_any _ _).mono ?_; rintro e w4 ⟨rfl, rfl⟩)
        | (go_at_call 16; (with_reducible refine (HTa.out _ (by (repeat' (with_reducible (first | exact Mod.refl _ _ | assumption | refine Mod.alloc ?_ _ | refine Mod.drew ?_ | refine Mod.drewN ?_ _ | refine Mod.setCell ?_ (by first | exact Or.inl rfl | (right; simp; done) | (right; simp; omega) | (left; simp; done)) _))))).mono ?_); rintro e w5 ⟨A5, c5, rfl, hr5, hm5⟩
           have HR5 := Lib.hid hr5
           clear hr5)
        | (go_at_call 16; (with_reducible refine (HTb.out _ (by (repeat' (with_reducible (first | exact Mod.refl _ _ | assumption | refine Mod.alloc ?_ _ | refine Mod.drew ?_ | refine Mod.drewN ?_ _ | refine Mod.setCell ?_ (by first | exact Or.inl rfl | (right; simp; done) | (right; simp; omega) | (left; simp; done)) _))))).mono ?_); rintro e w6 ⟨A6, c6, rfl, hr6, hm6⟩
           have HR6 := Lib.hid hr6
           have M6 := hm5.trans' hm6
           clear hr6)
        | (go_at_call 21; (with_reducible refine (HSt.out _ (by (repeat' (with_reducible (first | exact Mod.refl _ _ | assumption | refine Mod.alloc ?_ _ | refine Mod.drew ?_ | refine Mod.drewN ?_ _ | refine Mod.setCell ?_ (by first | exact Or.inl rfl | (right; simp; done) | (right; simp; omega) | (left; simp; done)) _))))).mono ?_); rintro e w7 ⟨rfl, hm7⟩
           have M7 := M6.trans' hm7
           have HTx := Lib.hid (HTg.out A5 c5 nx (textL ls xs) w7 M7 (rdKeep HR5.out (hm6.trans' hm7)) HNx.out (by rw [← HNx.out]; have := HLx.out; omega))
           obtain ⟨n8, hn8⟩ : ∃ n8, n8 = (textL ls (textL ls xs)).length := ⟨_, rfl⟩
           rw [← hn8] at HTx
           have HN8 := Lib.hid hn8
           clear hn8)
        | fail
        | fail
        | (at_builtin
           refine wpList_app (base := w7.heap.size) (xs := []) (ys := xs) (D := fun b => b < w7.heap.size) (v := .slice none 0 0) rfl (.const (.slice none 0 0)) (.tmp 51) rfl i32s_t csI_len csI_one rfl (OwnS.nil _ _ _ _ _) _ rfl HNa.out (rdKeep HA.out (HM1.out.trans' M7)) ?_ ?_ ?_ ?_
           · rw [← HNa.out]; simp [maxLen]; omega
           · rw [← HNa.out]; simp; omega
           · exact Nat.le_refl _
           intro v11 w11 ho11 hm11 _
           have HO11 := Lib.hid ho11
           have HM11 := Lib.hid (show Mod (fun _ => False) w7 w11 from hm11.mono fun b _ h => by simp [Value.ownBlock] at h)
           clear ho11 hm11)
        | (at_builtin
           refine wpList_app (base := w7.heap.size) (xs := [] ++ xs) (ys := ys) (D := fun b => b < w11.heap.size) (v := v11) rfl (.tmp 52) (.tmp 53) rfl i32s_t csI_len csI_one rfl HO11.out _ rfl HNb.out (rdKeep HB.out (HM1.out.trans' (M7.trans' HM11.out))) ?_ ?_ ?_ ?_
           · rw [← HNb.out, List.nil_append, ← HNa.out]; simp [maxLen]; omega
           · rw [← HNb.out, List.nil_append, ← HNa.out]; omega
           · exact HM11.out.size
           intro v12 w12 ho12 hm12 _
           have M12 : Mod (fun _ => False) w7 w12 := HM11.out.trans hm12 fun b hb => .inr (HO11.out.fresh b hb).1
           obtain ⟨A12, c12, hv12, hr12, hf12, -⟩ := ho12.rd csI_len
           obtain ⟨n12, hn12⟩ : ∃ n12, n12 = ([] ++ xs ++ ys).length := ⟨_, rfl⟩
           obtain ⟨n13, hn13⟩ : ∃ n13, n13 = (textL ls xs ++ textL ls ys).length := ⟨_, rfl⟩
           have HT12 := Lib.hid (HTg.out A12 c12 n12 ([] ++ xs ++ ys) w12 (M7.trans' M12) (hr12.mono fun b hb => (hf12 b hb).2) hn12 (by rw [List.nil_append, List.length_append, ← HNa.out, ← HNb.out]; omega))
           rw [text_app, List.nil_append, ← hn13] at HT12
           rw [← hn12] at hv12
           subst hv12
           have HN13 := Lib.hid hn13
           clear hn12 hn13
           have HM12 := Lib.hid M12
           clear ho12 hm12 hr12 hf12 M12)
        | (go_at_call 16; (with_reducible refine HT12.out.mono ?_); rintro e w13 ⟨A13, c13, rfl, hr13, hm13⟩
           have HR13 := Lib.hid hr13
           have M13 := HM12.out.trans' hm13
           clear hr13 hm13)
        | (at_builtin
           refine wpList_app (base := w13.heap.size) (xs := []) (ys := textL ls xs) (D := fun b => b < w13.heap.size) (v := .slice none 0 0) rfl (.const (.slice none 0 0)) (.tmp 56) rfl i32s_t csI_len csI_one rfl (OwnS.nil _ _ _ _ _) _ rfl HNx.out (rdKeep HR5.out (hm6.trans' (hm7.trans' M13))) ?_ ?_ ?_ ?_
           · rw [← HNx.out]; have := HLx.out; simp [maxLen]; omega
           · rw [← HNx.out]; have := HLx.out; simp; omega
           · exact Nat.le_refl _
           intro v14 w14 ho14 hm14 _
           have HO14 := Lib.hid ho14
           have HM14 := Lib.hid (show Mod (fun _ => False) w13 w14 from hm14.mono fun b _ h => by simp [Value.ownBlock] at h)
           clear ho14 hm14)
        | (at_builtin
           refine wpList_app (base := w13.heap.size) (xs := [] ++ textL ls xs) (ys := textL ls ys) (D := fun b => b < w14.heap.size) (v := v14) rfl (.tmp 57) (.tmp 58) rfl i32s_t csI_len csI_one rfl HO14.out _ rfl HNy.out (rdKeep HR6.out (hm7.trans' (M13.trans' HM14.out))) ?_ ?_ ?_ ?_
           · rw [← HNy.out, List.nil_append, ← HNx.out]; have := HLx.out; have := HLy.out; simp [maxLen]; omega
           · rw [← HNy.out, List.nil_append, ← HNx.out]; have := HLx.out; have := HLy.out; omega
           · exact HM14.out.size
           intro v15 w15 ho15 hm15 _
           have M15 : Mod (fun _ => False) w13 w15 := HM14.out.trans hm15 fun b hb => .inr (HO14.out.fresh b hb).1
           obtain ⟨A15, c15, hv15, hr15, hf15, -⟩ := ho15.rd csI_len
           obtain ⟨n15, hn15⟩ : ∃ n15, n15 = ([] ++ textL ls xs ++ textL ls ys).length := ⟨_, rfl⟩
           rw [← hn15] at hv15
           have HSm := Lib.hid (sameR A13 A15 c13 c15 n13 n15 (textL ls xs ++ textL ls ys) (([] ++ textL ls xs) ++ textL ls ys) w15 (rdKeep HR13.out M15) (hr15.mono fun b hb => (hf15 b hb).2) HN13.out hn15 (by rw [List.length_append, ← HNx.out, ← HNy.out]; have := HLx.out; have := HLy.out; omega) (by rw [List.nil_append]))
           subst hv15
           have HM15 := Lib.hid (HM1.out.trans' (M7.trans' (M13.trans' M15)))
           clear ho15 hm15 hr15 hf15 M15 hn15)
        | (go_at_call 13; (with_reducible refine HSm.out.mono ?_); rintro e w16 ⟨rfl, hm16⟩
           have M16 := HM15.out.trans' hm16)
        | fail)
      go_ret
      exact ⟨rfl, M16⟩
    · have HSt2 := Lib.hid HS.out.symm
      go_enter Tryz.func5, Tryz.ntmps5
      go_wp2_with (first
        | (go_at_call 8; (with_reducible refine (HK.out _ (by (repeat' (with_reducible (first | exact Mod.refl _ _ | assumption | refine Mod.alloc ?_ _ | refine Mod.drew ?_ | refine Mod.drewN ?_ _ | refine Mod.setCell ?_ (by first | exact Or.inl rfl | (right; simp; done) | (right; simp; omega) | (left; simp; done)) _))))).mono ?_); rintro e w2 ⟨rfl, hm2⟩)
        | (go_at_call 9; (with_reducible refine (HOf.out _ (by (repeat' (with_reducible (first | exact Mod.refl _ _ | assumption | refine Mod.alloc ?_ _ | refine Mod.drew ?_ | refine Mod.drewN ?_ _ | refine Mod.setCell ?_ (by first | exact Or.inl rfl | (right; simp; done) | (right; simp; omega) | (left; simp; done)) _))))).mono ?_); rintro e w1 ⟨⟨fb, hs, rfl, hls, hF, hlen⟩, hm3⟩
           have hF := hF.mono (D' := fun b => b < w1.heap.size) fun b hb => hb.2
           have M1 := hm2.trans' hm3
           have hle : ∀ r, (fullL ls r).length ≤ 3 := fun r => by have := fullL_len hF r; rwa [hls] at this
           have HTa := Lib.hid (fun X (hX : Mod (fun _ => False) w1 X) => dtextR fb hs ls hls w1 hF A c na xs X hX (rdKeep HA.out (M1.trans' hX)) HNa.out (by have := HNa.out; omega))
           have HTb := Lib.hid (fun X (hX : Mod (fun _ => False) w1 X) => dtextR fb hs ls hls w1 hF B d nb ys X hX (rdKeep HB.out (M1.trans' hX)) HNb.out (by have := HNb.out; omega))
           have hlx := textL_le hle xs
           have hly := textL_le hle ys
           have HLx := Lib.hid (show nx ≤ 600 by rw [HNx.out]; have := HNa.out; omega)
           have HLy := Lib.hid (show ny ≤ 600 by rw [HNy.out]; have := HNb.out; omega)
           rw [← HNx.out] at HTa
           rw [← HNy.out] at HTb
           have HTg := Lib.hid (fun A c n xs X hX hA hn hl => dtextR fb hs ls hls w1 hF A c n xs X hX hA hn hl)
           have HSt := Lib.hid (fun X (hX : Mod (fun _ => False) w1 X) => dstill_any _ (ptrV fb) hs ls hls X (hF.mod hX fun b hb => ⟨hb, id⟩) (fun b hb => Nat.lt_of_lt_of_le hb hX.size) (by omega))
           rw [← HS.out] at HSt
           have HM1 := Lib.hid M1
           clear hF hle hlx hly hls hlen M1 hm2 hm3)
        | (go_at_call 11; refine (lnum_any _ _).mono ?_; rintro e w4 ⟨rfl, rfl⟩)
        | (go_at_call 16; (with_reducible refine (HTa.out _ (by (repeat' (with_reducible (first | exact Mod.refl _ _ | assumption | refine Mod.alloc ?_ _ | refine Mod.drew ?_ | refine Mod.drewN ?_ _ | refine Mod.setCell ?_ (by first | exact Or.inl rfl | (right; simp; done) | (right; simp; omega) | (left; simp; done)) _))))).mono ?_); rintro e w5 ⟨A5, c5, rfl, hr5, hm5⟩
           have HR5 := Lib.hid hr5
           clear hr5)
        | (go_at_call 16; (with_reducible refine (HTb.out _ (by (repeat' (with_reducible (first | exact Mod.refl _ _ | assumption | refine Mod.alloc ?_ _ | refine Mod.drew ?_ | refine Mod.drewN ?_ _ | refine Mod.setCell ?_ (by first | exact Or.inl rfl | (right; simp; done) | (right; simp; omega) | (left; simp; done)) _))))).mono ?_); rintro e w6 ⟨A6, c6, rfl, hr6, hm6⟩
           have HR6 := Lib.hid hr6
           have M6 := hm5.trans' hm6
           clear hr6)
        | (go_at_call 21; (with_reducible refine (HSt.out _ (by (repeat' (with_reducible (first | exact Mod.refl _ _ | assumption | refine Mod.alloc ?_ _ | refine Mod.drew ?_ | refine Mod.drewN ?_ _ | refine Mod.setCell ?_ (by first | exact Or.inl rfl | (right; simp; done) | (right; simp; omega) | (left; simp; done)) _))))).mono ?_); rintro e w7 ⟨rfl, hm7⟩
           have M7 := M6.trans' hm7
           have HTx := Lib.hid (HTg.out A5 c5 nx (textL ls xs) w7 M7 (rdKeep HR5.out (hm6.trans' hm7)) HNx.out (by rw [← HNx.out]; have := HLx.out; omega))
           obtain ⟨n8, hn8⟩ : ∃ n8, n8 = (textL ls (textL ls xs)).length := ⟨_, rfl⟩
           rw [← hn8] at HTx
           have HN8 := Lib.hid hn8
           clear hn8)
        | (go_at_call 16; (with_reducible refine HTx.out.mono ?_); rintro e w8 ⟨A8, c8, rfl, hr8, hm8⟩; have hr8 := hr8; rw [text_still HSt2.out] at hr8; have HS8 := Lib.hid (sameR A8 A5 c8 c5 n8 nx (textL ls xs) (textL ls xs) w8 hr8 (rdKeep HR5.out (hm6.trans' (hm7.trans' hm8))) (by rw [HN8.out, text_still HSt2.out]) HNx.out (by rw [← HNx.out]; have := HLx.out; omega) rfl); clear hr8)
        | (go_at_call 13; (with_reducible refine HS8.out.mono ?_); rintro e w9 ⟨rfl, hm9⟩; have M9 := M7.trans' (hm8.trans' hm9); have m9 := hm7.trans' (hm8.trans' hm9))
        | (at_builtin
           refine wpList_app (base := w9.heap.size) (xs := []) (ys := xs) (D := fun b => b < w9.heap.size) (v := .slice none 0 0) rfl (.const (.slice none 0 0)) (.tmp 51) rfl i32s_t csI_len csI_one rfl (OwnS.nil _ _ _ _ _) _ rfl HNa.out (rdKeep HA.out (HM1.out.trans' M9)) ?_ ?_ ?_ ?_
           · rw [← HNa.out]; simp [maxLen]; omega
           · rw [← HNa.out]; simp; omega
           · exact Nat.le_refl _
           intro v11 w11 ho11 hm11 _
           have HO11 := Lib.hid ho11
           have HM11 := Lib.hid (show Mod (fun _ => False) w9 w11 from hm11.mono fun b _ h => by simp [Value.ownBlock] at h)
           clear ho11 hm11)
        | (at_builtin
           refine wpList_app (base := w9.heap.size) (xs := [] ++ xs) (ys := ys) (D := fun b => b < w11.heap.size) (v := v11) rfl (.tmp 52) (.tmp 53) rfl i32s_t csI_len csI_one rfl HO11.out _ rfl HNb.out (rdKeep HB.out (HM1.out.trans' (M9.trans' HM11.out))) ?_ ?_ ?_ ?_
           · rw [← HNb.out, List.nil_append, ← HNa.out]; simp [maxLen]; omega
           · rw [← HNb.out, List.nil_append, ← HNa.out]; omega
           · exact HM11.out.size
           intro v12 w12 ho12 hm12 _
           have M12 : Mod (fun _ => False) w9 w12 := HM11.out.trans hm12 fun b hb => .inr (HO11.out.fresh b hb).1
           obtain ⟨A12, c12, hv12, hr12, hf12, -⟩ := ho12.rd csI_len
           obtain ⟨n12, hn12⟩ : ∃ n12, n12 = ([] ++ xs ++ ys).length := ⟨_, rfl⟩
           obtain ⟨n13, hn13⟩ : ∃ n13, n13 = (textL ls xs ++ textL ls ys).length := ⟨_, rfl⟩
           have HT12 := Lib.hid (HTg.out A12 c12 n12 ([] ++ xs ++ ys) w12 (M9.trans' M12) (hr12.mono fun b hb => (hf12 b hb).2) hn12 (by rw [List.nil_append, List.length_append, ← HNa.out, ← HNb.out]; omega))
           rw [text_app, List.nil_append, ← hn13] at HT12
           rw [← hn12] at hv12
           subst hv12
           have HN13 := Lib.hid hn13
           clear hn12 hn13
           have HM12 := Lib.hid M12
           clear ho12 hm12 hr12 hf12 M12)
        | (go_at_call 16; (with_reducible refine HT12.out.mono ?_); rintro e w13 ⟨A13, c13, rfl, hr13, hm13⟩
           have HR13 := Lib.hid hr13
           have M13 := HM12.out.trans' hm13
           clear hr13 hm13)
        | (at_builtin
           refine wpList_app (base := w13.heap.size) (xs := []) (ys := textL ls xs) (D := fun b => b < w13.heap.size) (v := .slice none 0 0) rfl (.const (.slice none 0 0)) (.tmp 56) rfl i32s_t csI_len csI_one rfl (OwnS.nil _ _ _ _ _) _ rfl HNx.out (rdKeep HR5.out (hm6.trans' (m9.trans' M13))) ?_ ?_ ?_ ?_
           · rw [← HNx.out]; have := HLx.out; simp [maxLen]; omega
           · rw [← HNx.out]; have := HLx.out; simp; omega
           · exact Nat.le_refl _
           intro v14 w14 ho14 hm14 _
           have HO14 := Lib.hid ho14
           have HM14 := Lib.hid (show Mod (fun _ => False) w13 w14 from hm14.mono fun b _ h => by simp [Value.ownBlock] at h)
           clear ho14 hm14)
        | (at_builtin
           refine wpList_app (base := w13.heap.size) (xs := [] ++ textL ls xs) (ys := textL ls ys) (D := fun b => b < w14.heap.size) (v := v14) rfl (.tmp 57) (.tmp 58) rfl i32s_t csI_len csI_one rfl HO14.out _ rfl HNy.out (rdKeep HR6.out (m9.trans' (M13.trans' HM14.out))) ?_ ?_ ?_ ?_
           · rw [← HNy.out, List.nil_append, ← HNx.out]; have := HLx.out; have := HLy.out; simp [maxLen]; omega
           · rw [← HNy.out, List.nil_append, ← HNx.out]; have := HLx.out; have := HLy.out; omega
           · exact HM14.out.size
           intro v15 w15 ho15 hm15 _
           have M15 : Mod (fun _ => False) w13 w15 := HM14.out.trans hm15 fun b hb => .inr (HO14.out.fresh b hb).1
           obtain ⟨A15, c15, hv15, hr15, hf15, -⟩ := ho15.rd csI_len
           obtain ⟨n15, hn15⟩ : ∃ n15, n15 = ([] ++ textL ls xs ++ textL ls ys).length := ⟨_, rfl⟩
           rw [← hn15] at hv15
           have HSm := Lib.hid (sameR A13 A15 c13 c15 n13 n15 (textL ls xs ++ textL ls ys) (([] ++ textL ls xs) ++ textL ls ys) w15 (rdKeep HR13.out M15) (hr15.mono fun b hb => (hf15 b hb).2) HN13.out hn15 (by rw [List.length_append, ← HNx.out, ← HNy.out]; have := HLx.out; have := HLy.out; omega) (by rw [List.nil_append]))
           subst hv15
           have HM15 := Lib.hid (HM1.out.trans' (M9.trans' (M13.trans' M15)))
           clear ho15 hm15 hr15 hf15 M15 hn15)
        | (go_at_call 13; (with_reducible refine HSm.out.mono ?_); rintro e w16 ⟨rfl, hm16⟩
           have M16 := HM15.out.trans' hm16)
        | fail)
      go_ret
      exact ⟨rfl, M16⟩
end Go.Proofs.YtidbgfmknhlmnaaGreatDoor
/-
  The law's own: foldings gone over, and left.
-/
namespace Go.Proofs.YtidbgfmknhlmnaaGreatDoor
open Go.RowKit Go.Shelf Go.Sort
attribute [local go_sem] Oper.semAt_some

def onC (z rb b : Nat) : Prop := b = z ∨ b = rb
def onI (z rb : Nat) (k : Nat) (C : Nat → Prop) (W : World) : Prop := W.heap[z]? = some (.cells #[.int .i64 (k : Int)] 3 (0, 0)) ∧ (∃ b, W.heap[rb]? = some (.cells #[.bool b] 4 (0, 0))) ∧ C = onC z rb
def onX (z rb : Nat) (c : Code) (_k : Nat) (C : Nat → Prop) (W : World) : Prop := c = .ret ∧ W.heap[rb]? = some (.cells #[.bool true] 4 (0, 0)) ∧ C = onC z rb
def onA (z rb : Nat) (T enc : Array Value) (a' : Act) (k : Nat) (C : Nat → Prop) (W : World) : Prop :=
  ∃ v0 v1, enc = #[v0, v1] ∧ a' = { tmps := (((T.setIfInBounds 19 v0).setIfInBounds 20 v1).setIfInBounds 10 v0).setIfInBounds 11 v1, defers := [] } ∧ onI z rb k C W
set_option maxRecDepth 100000 in
set_option maxHeartbeats 4000000 in
theorem once_any (fb rf : Nat) (hs hr : List FH) (ls : List FL) (hls : hs.map FH.x = ls) (hlr : hr.map FH.x = ls) (most : Int) (w : World) (hF : FoldIn (fun b => b < w.heap.size) w (ptrV fb) hs) (hR : RefIn (fun b => b < w.heap.size) w rf hr) (hlen : ls.length ≤ 1000000) :
    Calls Tryz.prog 26 #[ptrV fb, ptrV rf, .int .i64 most] w fun e w' => e = .returned (.bool true) ∧ Mod (fun _ => False) w w' := by
  have hl1 : hs.length ≤ 1000000 := by rw [← hls, List.length_map] at hlen; exact hlen
  have hl2 : hr.length ≤ 1000000 := by rw [← hlr, List.length_map] at hlen; exact hlen
  have HAll := Lib.hid (fun X (hX : Mod (fun _ => False) w X) => dallI_any (fun b => b < w.heap.size) (ptrV fb) hs ls hls X (hF.mod hX fun b hb => ⟨hb, id⟩) (fun b hb => Nat.lt_of_lt_of_le hb hX.size) hl1)
  have HChg := Lib.hid (fun X (hX : Mod (fun _ => False) w X) => gchg_any (fun b => b < w.heap.size) rf hr X (hR.mod hX fun b hb => ⟨hb, id⟩) (by omega) (fun b hb => Nat.lt_of_lt_of_le hb hX.size))
  rw [hlr] at HChg
  have HFull := Lib.hid (fun r X (hX : Mod (fun _ => False) w X) => gfull_any (fun b => b < w.heap.size) rf hr r X (hR.mod hX fun b hb => ⟨hb, id⟩) (by omega))
  rw [hlr] at HFull
  have hfl := fun r => ref_len hR r
  rw [hlr] at hfl
  have HFl := Lib.hid hfl
  obtain ⟨n, hn⟩ : ∃ n, n = (chgL ls).length := ⟨_, rfl⟩
  have hnl : n ≤ 1000000 := by rw [hn]; have := chgL_len ls; omega
  have HN := Lib.hid hn
  have hnf := fun W' => run_eql_func_nil (P := Tryz.prog) W' Tryz.underlying66 (.func 44) #[]
  clear hls hlr hF hR hlen hl1 hl2 hn hfl
  refine callsIn_wide.1 (callsIn_of_wp_marks (n := 0) (F := Fence.wide) Tryz.func26 rfl trivial ?_ rfl)
  simp only [Tryz.ntmps26, List.size_toArray, List.length_cons, List.length_nil, Nat.reduceAdd, Nat.reduceSub, Array.replicate_succ, Array.replicate_zero, List.push_toArray, List.append_toArray, List.nil_append, List.cons_append]
  gi_wp2_with (first
    | ((refine ⟨trivial, rfl, ?_⟩; gi_at_call 27); (with_reducible refine ci (HAll.out _ (by (repeat' (with_reducible (first | exact Mod.refl _ _ | assumption | refine Mod.alloc ?_ _ | refine Mod.drew ?_ | refine Mod.drewN ?_ _ | refine Mod.setCell ?_ (by first | exact Or.inl rfl | (right; simp; done) | (right; simp; omega) | (left; simp; done)) _))))) ?_); rintro e w1 ⟨bl, bf, rfl, hit, hm1⟩
       have M1 : Mod (fun _ => False) w w1 := Mod.trans' (by (repeat' (first | exact Mod.refl _ _ | assumption | refine Mod.alloc ?_ _ | refine Mod.drew ?_ | refine Mod.drewN ?_ _ | refine Mod.setCell ?_ (by first | exact Or.inl rfl | (right; simp; done) | (right; simp; omega) | (left; simp; done)) _))) hm1
       have b0 : w1.heap[w.heap.size]? = some (.cells #[ptrV rf] 28 (0, 0)) := hp_mod (by (repeat' (first | exact hp_new _ _ | exact hp_at _ _ (by simp; done) | refine hp_alloc ?_ _ | refine hp_drew ?_ | refine hp_drewN ?_ _ | apply hp_set | refine hp_far ?_ (by first | (simp; omega) | (simp; done)) _))) hm1 id
       have k0 := hp_cell b0 0)
    | ((refine ⟨trivial, rfl, ?_⟩; gi_at_call 12); (with_reducible refine ci (HChg.out _ (by (repeat' (with_reducible (first | exact Mod.refl _ _ | assumption | refine Mod.alloc ?_ _ | refine Mod.drew ?_ | refine Mod.drewN ?_ _ | refine Mod.setCell ?_ (by first | exact Or.inl rfl | (right; simp; done) | (right; simp; omega) | (left; simp; done)) _))))) ?_); rintro e w2 ⟨u, rfl, ho2, hm2⟩
       obtain ⟨Ac, cc, rfl, hrc, hfc, -⟩ := ho2.rd csI_len
       rw [← HN.out]
       have HRc := Lib.hid (hrc.mono (D' := fun b => w1.heap.size ≤ b ∧ b < w2.heap.size) fun b hb => hfc b hb)
       clear ho2 hrc hfc)
    | fail)
  obtain ⟨B, hB⟩ : ∃ B, B = w.heap.size := ⟨_, rfl⟩
  obtain ⟨Z, hZ⟩ : ∃ Z, Z = w2.heap.size := ⟨_, rfl⟩
  have b0 := hp_mod b0 hm2 id
  clear k0
  have b1 : w2.heap[w.heap.size + 1]? = some (.cells #[.int .i64 most] 3 (0, 0)) := hp_mod (hp_mod (hp_alloc (hp_at _ _ (by simp)) _) hm1 id) hm2 id
  have b2 : w2.heap[w.heap.size + 1 + 1]? = some (.cells #[.bool false] 4 (0, 0)) := hp_mod (hp_mod (hp_at _ _ (by simp)) hm1 id) hm2 id
  have hs1 := hm1.size
  have hs2 := hm2.size
  simp only [World.size_alloc] at hs1 hit
  refine wpIn_as (fun W => W.heap.size = Z + 2 ∧ W.heap[B]? = some (.cells #[ptrV rf] 28 (0, 0)) ∧ W.heap[B + 1]? = some (.cells #[.int .i64 most] 3 (0, 0)) ∧ W.heap[B + 1 + 1]? = some (.cells #[.bool false] 4 (0, 0)) ∧
      W.heap[Z]? = some (.cells #[.slice Ac n cc] 22 (0, 0)) ∧ W.heap[Z + 1]? = some (.cells #[.int .i64 0] 3 (0, 0)) ∧ Mod (fun _ => False) w2 W)
    ⟨by rw [hZ]; simp, by rw [hB]; exact hp_alloc (hp_alloc b0 _) _, by rw [hB]; exact hp_alloc (hp_alloc b1 _) _, by rw [hB]; exact hp_alloc (hp_alloc b2 _) _, by rw [hZ]; exact hp_alloc (hp_new _ _) _, by rw [hZ]; exact hp_at _ _ (by simp), by (repeat' (first | exact Mod.refl _ _ | assumption | refine Mod.alloc ?_ _ | refine Mod.drew ?_ | refine Mod.drewN ?_ _ | refine Mod.setCell ?_ (by first | exact Or.inl rfl | (right; simp; done) | (right; simp; omega) | (left; simp; done)) _))⟩ ?_
  rintro W1 ⟨hsz, c0, c1, c2, z0, z1, hmW⟩
  have HM1 := Lib.hid (show Mod (fun _ => False) w W1 from (M1.trans' hm2).trans' hmW)
  have hit2 := hit.later ((hm2.trans' hmW).agree fun b hb => ⟨by rcases hb with hb | hb; exact Nat.lt_of_lt_of_le hb M1.size; exact hb.2, id⟩)
  rw [← hB] at hs1 hit2 ⊢
  rw [← hZ] at hs2 ⊢
  have HB := Lib.hid hB
  have HRc := Lib.hid (HRc.out.mod hmW fun b hb => ⟨hb.2, id⟩)
  have HF := Lib.hid (And.intro c0 (And.intro c1 z0))
  have hw1 : w1.heap.size ≤ Z := hs2
  have hZ2 := Lib.hid hZ
  clear hit hm1 hm2 b0 b1 b2 hmW hB hZ M1 c0 c1 z0
  refine wp_rangeG (gf := 44) (lb := #[ptrV bl, ptrV bf]) rfl (enters_of Tryz.func44 (by kernel_rfl) rfl) foldIt_ok hit2
    (fun b hb => by
      rcases hb with (hb | hb) | h
      · have hb : b < B := hb; omega
      · have := hb.2; omega
      · exact h.elim) rfl
    (onI (Z + 1) (B + 1 + 1)) (onX (Z + 1) (B + 1 + 1)) (onA (Z + 1) (B + 1 + 1))
    (fun k C X Y ⟨h1, ⟨b, h2⟩, h3⟩ hA => ⟨hp_agree h1 hA (by rw [h3]; exact .inl rfl), ⟨b, hp_agree h2 hA (by rw [h3]; exact .inr rfl)⟩, h3⟩)
    (fun c k C X Y ⟨h1, h2, h3⟩ hA => ⟨h1, hp_agree h2 hA (by rw [h3]; exact .inr rfl), h3⟩)
    (fun T enc a' k C X Y ⟨v0, v1, g0, g1, h1, ⟨b, h2⟩, h3⟩ hA => ⟨v0, v1, g0, g1, hp_agree h1 hA (by rw [h3]; exact .inl rfl), ⟨b, hp_agree h2 hA (by rw [h3]; exact .inr rfl)⟩, h3⟩)
    (onC (Z + 1) (B + 1 + 1)) (fun b hb => by
      have hBw := HB.out
      rcases hb with rfl | rfl
      · refine ⟨by omega, fun hd => ?_, id⟩
        rcases hd with hd | hd
        · have hd : Z + 1 < B := hd; omega
        · have := hd.2; omega
      · refine ⟨by omega, fun hd => ?_, id⟩
        rcases hd with hd | hd
        · have hd : B + 1 + 1 < B := hd; omega
        · have := hd.1; omega) ⟨z1, ⟨false, c2⟩, rfl⟩ trivial ?assign ?body ?done ?stop
  case assign =>
    rintro l' k hk enc R C W' ⟨h1, ⟨b, h2⟩, rfl⟩ - ⟨A5, c5, rfl, -⟩ - hm' hb'
    have H1 := Lib.hid h1
    have H2 := Lib.hid h2
    clear h1 h2 c2 z1
    gi_wp2
    exact ⟨onC _ _, ⟨_, _, rfl, rfl, H1.out, ⟨b, H2.out⟩, rfl⟩, Mod.refl _ _, fun b hb => ⟨(hb' b hb).1, .inl hb⟩⟩
  case body =>
    rintro l' k hk enc R C a' W' ⟨v0, v1, he, rfl, h1, ⟨fl, h2⟩, rfl⟩ - ⟨A5, c5, hen, hrd⟩ hR hm' hb' - - -
    have hk : k < (chgL ls).length := hk
    have hkn : k < n := by rw [HN.out]; exact hk
    rw [hen] at he
    injection he with he
    injection he with he0 he
    injection he with he1 he
    subst he0 he1
    clear he hen
    obtain ⟨r, hr⟩ : ∃ r, r = at_ (chgL ls) k := ⟨_, rfl⟩
    rw [← hr] at hrd ⊢
    have MW : Mod (fun b => b = Z + 1 ∨ b = B + 1 + 1) W1 W' := hm'.mono fun b _ h => by
      rcases h with h | h
      · exact h
      · exact h.elim
    have MWw : Mod (fun _ => False) w W' := HM1.out.trans MW fun b hb => .inr (by have := HB.out; have := HM1.out.size; rcases hb with h | h <;> omega)
    obtain ⟨bc, oc, rfl, hbc, qc⟩ := rdI (HRc.out.mod MW fun b hb => ⟨by have := hb.2; have := hZ2.out; omega, fun h => by have h1 := hb.1; have h2 := hb.2; have := hZ2.out; rcases h with h | h <;> omega⟩) hk
    have hrk : (chgL ls)[k] = r := by rw [hr]; exact (at_lt hk).symm
    rw [hrk] at qc
    have s0 := hp_cell (hp_mod HF.out.1 MW (by have := HB.out; have := MWw.size; omega)) 0
    have m0 := hp_cell (hp_mod HF.out.2.1 MW (by omega)) 0
    have s8 := hp_cell (hp_mod HF.out.2.2 MW (by omega)) 0
    have g0 := hp_cell h1 0
    have f0 := hp_free h1 0
    have zl := hp_lt h1
    have rl := hp_lt h2
    have H1 := Lib.hid h1
    have H2 := Lib.hid h2
    have HRd := Lib.hid hrd
    have HRl := Lib.hid hR
    have HMb := Lib.hid MWw
    obtain ⟨nf, hnf'⟩ : ∃ nf, nf = (fullL ls r).length := ⟨_, rfl⟩
    have hnf3 : nf ≤ 3 := by rw [hnf']; exact HFl.out r
    rw [← hnf'] at ⊢
    have HNf := Lib.hid hnf'
    have HG := Lib.hid (HFull.out r W' MWw)
    rw [← hnf'] at HG
    have hd1 : decide ((n : Int) ≤ (k : Int)) = false := by simp; omega
    have hd2 : decide (n ≤ k) = false := by simp; omega
    have hne : (r != r) = false := by simp
    clear h1 h2 hrd hR hr hrk hk hm' hb' MW MWw hnf' c2 z1 hbc
    have hw1 : IntKind.i64.wrap ((k : Int) + 1) = (k : Int) + 1 := IntWalk.i64_in _ (by omega)
    obtain ⟨xb, hxb⟩ : ∃ x, ((k : Int) + 1 == most) = x := ⟨_, rfl⟩
    cases xb
    · gi_wp2_with (first
        | ((refine ⟨trivial, rfl, ?_⟩; gi_at_call 14)
           (with_reducible refine cir HG.out ?_)
           rintro e w3 ⟨A3, c3, rfl, hr3, hm3⟩
           have HSm := Lib.hid (sameR A5 A3 c5 c3 nf nf (fullL ls r) (fullL ls r) w3 ((HRd.out.mod hm3 fun b hb => ⟨(HRl.out b hb).1, id⟩).mono fun b hb => Nat.lt_of_lt_of_le (HRl.out b hb).1 hm3.size) (hr3.mono fun b hb => by
             rcases hb with hb | hb
             · exact Nat.lt_of_lt_of_le hb (Nat.le_trans HMb.out.size hm3.size)
             · exact hb.2) HNf.out HNf.out (by rw [← HNf.out]; omega) rfl)
           clear hr3)
        | ((refine ⟨trivial, rfl, ?_⟩; gi_at_call 13)
           (with_reducible refine cir HSm.out ?_)
           rintro e w4 ⟨rfl, hm4⟩
           have M4 := hm3.trans' hm4
           have h14 := hp_mod H1.out M4 id
           have h24 := hp_mod H2.out M4 id
           have g4 := hp_cell h14 0
           have f4 := hp_free h14 0
           have r4 := hp_cell h24 0
           have rf4 := hp_free h24 0
           have m4 := cell_mod m0 M4 id
           have zl4 := hp_lt h14
           have rl4 := hp_lt h24
           have H14 := Lib.hid h14
           have H24 := Lib.hid h24
           have HM4 := Lib.hid M4
           clear hm3 hm4 M4 h14 h24 g0 f0 m0)
        | fail)
      exact ⟨onC _ _, ⟨hp_eq (hp_set H14.out 0 _) (by simp), ⟨fl, hp_far H24.out (by simp; omega) _⟩, rfl⟩, (HM4.out.mono (C' := onC (Z + 1) (B + 1 + 1)) (fun _ _ h => h.elim)).setCell (p := ⟨Z + 1, 0, none⟩) (.inl (.inl rfl)) _, fun b hb => ⟨by rcases hb with rfl | rfl <;> simpa [World.setCell], .inl hb⟩⟩
    · gi_wp2_with (first
        | ((refine ⟨trivial, rfl, ?_⟩; gi_at_call 14)
           (with_reducible refine cir HG.out ?_)
           rintro e w3 ⟨A3, c3, rfl, hr3, hm3⟩
           have HSm := Lib.hid (sameR A5 A3 c5 c3 nf nf (fullL ls r) (fullL ls r) w3 ((HRd.out.mod hm3 fun b hb => ⟨(HRl.out b hb).1, id⟩).mono fun b hb => Nat.lt_of_lt_of_le (HRl.out b hb).1 hm3.size) (hr3.mono fun b hb => by
             rcases hb with hb | hb
             · exact Nat.lt_of_lt_of_le hb (Nat.le_trans HMb.out.size hm3.size)
             · exact hb.2) HNf.out HNf.out (by rw [← HNf.out]; omega) rfl)
           clear hr3)
        | ((refine ⟨trivial, rfl, ?_⟩; gi_at_call 13)
           (with_reducible refine cir HSm.out ?_)
           rintro e w4 ⟨rfl, hm4⟩
           have M4 := hm3.trans' hm4
           have h14 := hp_mod H1.out M4 id
           have h24 := hp_mod H2.out M4 id
           have g4 := hp_cell h14 0
           have f4 := hp_free h14 0
           have r4 := hp_cell h24 0
           have rf4 := hp_free h24 0
           have m4 := cell_mod m0 M4 id
           have zl4 := hp_lt h14
           have rl4 := hp_lt h24
           have H14 := Lib.hid h14
           have H24 := Lib.hid h24
           have HM4 := Lib.hid M4
           clear hm3 hm4 M4 h14 h24 g0 f0 m0)
        | fail)
      exact ⟨onC _ _, ⟨rfl, hp_eq (hp_set (hp_far H24.out (by simp; omega) _) 0 _) (by simp), rfl⟩, ((HM4.out.mono (C' := onC (Z + 1) (B + 1 + 1)) (fun _ _ h => h.elim)).setCell (p := ⟨Z + 1, 0, none⟩) (.inl (.inl rfl)) _).setCell (p := ⟨B + 1 + 1, 0, none⟩) (.inl (.inr rfl)) _, fun b hb => ⟨by rcases hb with rfl | rfl <;> simpa [World.setCell], .inl hb⟩⟩
  case done =>
    rintro W' C' ⟨h1, ⟨b, h2⟩, rfl⟩ _ hm' hb' hK hn'
    rw [hsz] at hK hn' ⊢
    have h1 : W'.heap[Z + 1]? = some (.cells #[.int .i64 ((chgL ls).length : Int)] 3 (0, 0)) := h1
    rw [← HN.out] at h1
    have MW : Mod (fun b => b = Z + 1 ∨ b = B + 1 + 1) W1 W' := hm'.mono fun b _ h => by
      rcases h with h | h
      · exact h
      · exact h.elim
    have s8 := hp_cell (hp_mod HF.out.2.2 MW (by omega)) 0
    have g0 := hp_cell h1 0
    have f0 := hp_free h2 0
    have r0 := hp_cell h2 0
    have H2 := Lib.hid h2
    have HK := Lib.hid hK
    have HMW := Lib.hid MW
    have hnn : ((n : Int) == (n : Int)) = true := by simp
    have rl := hp_lt h2
    clear h1 h2 hm' hb' hK hn' MW c2 z1
    gi_wp2
    have hK2 := hp_far HK.out (p := ⟨B + 1 + 1, 0, none⟩) (show Z + 2 ≠ B + 1 + 1 by omega) (.bool true)
    have hR := hp_eq (hp_set H2.out 0 (.bool true)) (cs' := #[.bool true]) (by simp)
    have hR2 : ((W'.setCell ⟨B + 1 + 1, 0, none⟩ (.bool true)).putObj (Z + 2) (.deferred none)).heap[B + 1 + 1]? = some (.cells #[.bool true] 4 (0, 0)) := by
      rw [World.putObj_heap_other (by omega)]; exact hR
    have hc := hp_cell hR2 0
    refine retM1 (v := .bool true) rfl hK2 ?_ ⟨rfl, ?_⟩
    · simp [results, asAddr, go_sem] at hc ⊢
      rw [hc]
    · have hBw := HB.out
      have hZw := hZ2.out
      have := HM1.out.size
      refine Mod.putObj ?_ (.inr (by omega)) _
      refine Mod.setCell ?_ (.inr (by show w.heap.size ≤ B + 1 + 1; omega)) _
      exact HM1.out.trans HMW.out (fun b hb => by rcases hb with rfl | rfl <;> (right; omega))
  case stop =>
    rintro W' C' cc k hk0 hk ⟨rfl, h2, rfl⟩ _ hm' hb' hK hn'
    rw [hsz] at hK hn' ⊢
    have MW : Mod (fun b => b = Z + 1 ∨ b = B + 1 + 1) W1 W' := hm'.mono fun b _ h => by
      rcases h with h | h
      · exact h
      · exact h.elim
    have hR2 : (W'.putObj (Z + 2) (.deferred none)).heap[B + 1 + 1]? = some (.cells #[.bool true] 4 (0, 0)) := by
      rw [World.putObj_heap_other (by omega)]; exact h2
    have hc := hp_cell hR2 0
    have HMW := Lib.hid MW
    clear c2 z1 hm' hb' MW h2
    gi_wp2
    refine retM1 (v := .bool true) rfl hK ?_ ⟨rfl, ?_⟩
    · simp [results, asAddr, go_sem] at hc ⊢
      rw [hc]
    · have hBw := HB.out
      have hZw := hZ2.out
      have := HM1.out.size
      refine Mod.putObj ?_ (.inr (by omega)) _
      exact HM1.out.trans HMW.out (fun b hb => by rcases hb with rfl | rfl <;> (right; omega))
end Go.Proofs.YtidbgfmknhlmnaaGreatDoor
/-
  The law FoldTells.
-/
namespace Go.Proofs.YtidbgfmknhlmnaaGreatDoor
open Go.RowKit Go.Shelf Go.Sort
attribute [local go_sem] Oper.semAt_some

/-- What a program's folding, and the reference's, answer at whatever world behind w. -/
structure FoldBoth (w : World) (fb rf : Nat) (ls : List FL) : Prop where
  full : ∀ r X, Mod (fun _ => False) w X → Calls Tryz.prog 15 #[ptrV fb, .int .i32 r] X fun e w' => ∃ A c, e = .returned (.slice A (fullL ls r).length c) ∧ Rd (fun b => b < w'.heap.size) w' 1 csI A (fullL ls r) ∧ Mod (fun _ => False) X w'
  gfull : ∀ r X, Mod (fun _ => False) w X → Calls Tryz.prog 14 #[ptrV rf, .int .i32 r] X fun e w' => ∃ A c, e = .returned (.slice A (fullL ls r).length c) ∧ Rd (fun b => b < w'.heap.size) w' 1 csI A (fullL ls r) ∧ Mod (fun _ => False) X w'
  simp : ∀ r X, Mod (fun _ => False) w X → Calls Tryz.prog 22 #[ptrV fb, .int .i32 r] X fun e w' => e = .returned (.int .i32 (simpL ls r)) ∧ X = w'
  gsimp : ∀ r X, Mod (fun _ => False) w X → Calls Tryz.prog 23 #[ptrV rf, .int .i32 r] X fun e w' => e = .returned (.int .i32 (simpL ls r)) ∧ X = w'
  text : ∀ (A : Option Addr) (c n : Nat) (xs : List Int) (X : World), Mod (fun _ => False) w X → Rd (fun b => b < X.heap.size) X 1 csI A xs → n = xs.length → xs.length ≤ 1000000 → Calls Tryz.prog 16 #[ptrV fb, .slice A n c] X fun e w' => ∃ A' c', e = .returned (.slice A' (textL ls xs).length c') ∧ Rd (fun b => b < w'.heap.size) w' 1 csI A' (textL ls xs) ∧ Mod (fun _ => False) X w'
  gtext : ∀ (A : Option Addr) (c n : Nat) (xs : List Int) (X : World), Mod (fun _ => False) w X → Rd (fun b => b < X.heap.size) X 1 csI A xs → n = xs.length → xs.length ≤ 1000000 → Calls Tryz.prog 24 #[ptrV rf, .slice A n c] X fun e w' => ∃ A' c', e = .returned (.slice A' (textL ls xs).length c') ∧ Rd (fun b => b < w'.heap.size) w' 1 csI A' (textL ls xs) ∧ Mod (fun _ => False) X w'
  chg : ∀ X, Mod (fun _ => False) w X → Calls Tryz.prog 12 #[ptrV rf] X fun e w' => ∃ A c, e = .returned (.slice A (chgL ls).length c) ∧ Rd (fun b => b < w'.heap.size) w' 1 csI A (chgL ls) ∧ Mod (fun _ => False) X w'
  len : ∀ X, Mod (fun _ => False) w X → Calls Tryz.prog 25 #[ptrV fb] X fun e w' => e = .returned (.int .i64 (chgL ls).length) ∧ Mod (fun _ => False) X w'
  still : ∀ X, Mod (fun _ => False) w X → Calls Tryz.prog 21 #[ptrV fb] X fun e w' => e = .returned (.bool (stillL ls)) ∧ Mod (fun _ => False) X w'
  once : ∀ most X, Mod (fun _ => False) w X → Calls Tryz.prog 26 #[ptrV fb, ptrV rf, .int .i64 most] X fun e w' => e = .returned (.bool true) ∧ Mod (fun _ => False) X w'
  le : ∀ r, (fullL ls r).length ≤ 3
theorem foldBoth {w : World} {fb rf : Nat} {hs hr : List FH} {ls : List FL} (hls : hs.map FH.x = ls) (hlr : hr.map FH.x = ls) (hF : FoldIn (fun b => b < w.heap.size) w (ptrV fb) hs) (hR : RefIn (fun b => b < w.heap.size) w rf hr) (hlen : ls.length ≤ 1000000) : FoldBoth w fb rf ls := by
  have hl1 : hs.length ≤ 1000000 := by rw [← hls, List.length_map] at hlen; exact hlen
  have hl2 : hr.length ≤ 1000000 := by rw [← hlr, List.length_map] at hlen; exact hlen
  have F := fun X (hX : Mod (fun _ => False) w X) => hF.mod hX fun b hb => ⟨hb, id⟩
  have R := fun X (hX : Mod (fun _ => False) w X) => hR.mod hX fun b hb => ⟨hb, id⟩
  have D := fun X (hX : Mod (fun _ => False) w X) => (fun b (hb : b < w.heap.size) => Nat.lt_of_lt_of_le hb hX.size)
  have own : ∀ {X w' : World} {u : Value} {xs : List Int}, OwnS X.heap.size 21 1 csI w' u xs → ∃ A c, u = .slice A xs.length c ∧ Rd (fun b => b < w'.heap.size) w' 1 csI A xs := fun ho => by
    obtain ⟨A, c, hu, hr, hf, -⟩ := ho.rd csI_len
    exact ⟨A, c, hu, hr.mono fun b hb => (hf b hb).2⟩
  refine ⟨fun r X hX => ?_, fun r X hX => ?_, fun r X hX => ?_, fun r X hX => ?_, fun A c n xs X hX hA hn hl => ?_, fun A c n xs X hX hA hn hl => ?_, fun X hX => ?_, fun X hX => ?_, fun X hX => ?_, fun most X hX => ?_, fun r => ?_⟩
  · refine (dfull_any _ (ptrV fb) hs r X (F X hX)).mono ?_
    rintro e w' ⟨u, rfl, ho, hm⟩
    rw [hls] at ho
    obtain ⟨A, c, rfl, hr⟩ := own ho
    exact ⟨A, c, rfl, hr, hm⟩
  · refine (gfull_any _ rf hr r X (R X hX) (by omega)).mono ?_
    rintro e w' ⟨A, c, rfl, hrd, hm⟩
    rw [hlr] at hrd ⊢
    exact ⟨A, c, rfl, hrd.mono fun b hb => by
      rcases hb with hb | hb
      · exact Nat.lt_of_lt_of_le (D X hX b hb) hm.size
      · exact hb.2, hm⟩
  · have := dsimple_any _ (ptrV fb) hs r X (F X hX)
    rwa [hls] at this
  · have := gsimple_any _ rf hr r X (R X hX) (by omega)
    rw [hlr] at this
    exact this.mono fun e w' ⟨h1, h2⟩ => ⟨h1, h2.symm⟩
  · exact dtextR fb hs ls hls w hF A c n xs X hX hA hn hl
  · subst hn
    refine (gtext_any _ _ rf hr A c xs X (R X hX) (by omega) (D X hX) hA (fun b hb => hb) hl).mono ?_
    rintro e w' ⟨u, rfl, ho, hm⟩
    rw [hlr] at ho
    obtain ⟨A, c, rfl, hr⟩ := own ho
    exact ⟨A, c, rfl, hr, hm⟩
  · refine (gchg_any _ rf hr X (R X hX) (by omega) (D X hX)).mono ?_
    rintro e w' ⟨u, rfl, ho, hm⟩
    rw [hlr] at ho
    obtain ⟨A, c, rfl, hr⟩ := own ho
    exact ⟨A, c, rfl, hr, hm⟩
  · exact dlen_any _ (ptrV fb) hs ls hls X (F X hX) (D X hX) hl1
  · exact dstill_any _ (ptrV fb) hs ls hls X (F X hX) (D X hX) hl1
  · exact once_any fb rf hs hr ls hls hlr most X ((F X hX).mono (D X hX)) ((R X hX).mono (D X hX)) hlen
  · have := ref_len hR r
    rwa [hlr] at this
theorem sameD (A B : Option Addr) (c d n m : Nat) (xs ys : List Int) (X : World) (hA : Rd (fun b => b < X.heap.size) X 1 csI A xs) (hB : Rd (fun b => b < X.heap.size) X 1 csI B ys) (hn : n = xs.length) (hm : m = ys.length) (hx : xs.length ≤ 100000000) (hy : ys.length ≤ 100000000) :
    Calls Tryz.prog 13 #[.slice A n c, .slice B m d] X fun e w' => e = .returned (.bool (xs == ys)) ∧ Mod (fun _ => False) X w' := by
  subst hn hm
  have h := same_any _ _ A B c d xs ys X hA hB (by unfold maxLen; omega) (by unfold maxLen; omega) (fun b hb => hb) (fun b hb => hb)
  rw [show decide (xs = ys) = (xs == ys) by rw [Bool.eq_iff_iff]; simp] at h
  exact h
def stP (ls : List FL) (r : Int) : Bool := textL ls (fullL ls r) == fullL ls r
theorem stP_take {ls : List FL} {k : Nat} (h : k < (chgL ls).length) : ((chgL ls).take (k + 1)).all (stP ls) = (((chgL ls).take k).all (stP ls) && stP ls (chgL ls)[k]) := by
  rw [List.take_succ_eq_append_getElem h, List.all_append]; simp
set_option maxRecDepth 100000 in
set_option maxHeartbeats 16000000 in
theorem foldTells_any (l : Bs) (A : Option Addr) (c : Nat) (xs : List Int) (leave : Int) (w : World) (hmx : MaxVar w) (het : ErrT w) (hA : Rd (fun b => b < w.heap.size) w 1 csI A xs) :
    Calls Tryz.prog 6 #[.string ⟨l.toArray⟩, .slice A xs.length c, .int .i64 leave] w fun e w' => e = .returned (.bool true) ∧ Mod (fun _ => False) w w' := by
  have HK := Lib.hid (fun X (hX : Mod (fun _ => False) w X) => known_any X (hmx.mod hX id) (het.mod hX id))
  obtain ⟨na, hna⟩ : ∃ n, n = xs.length := ⟨_, rfl⟩
  rw [← hna]
  have HNa := Lib.hid hna
  have HA := Lib.hid hA
  clear hna hA
  by_cases hl : 6000 < l.length
  · have hd : decide (6000 < (l.length : Int)) = true := by simp; omega
    clear hl
    clear hmx het
    go_enter Tryz.func6, Tryz.ntmps6
    go_wp2_with (first
      | (go_at_call 8; (with_reducible refine (HK.out _ (by (repeat' (with_reducible (first | exact Mod.refl _ _ | assumption | refine Mod.alloc ?_ _ | refine Mod.drew ?_ | refine Mod.drewN ?_ _ | refine Mod.setCell ?_ (by first | exact Or.inl rfl | (right; simp; done) | (right; simp; omega) | (left; simp; done)) _))))).mono ?_); rintro e w2 ⟨rfl, hm2⟩)
      | fail)
    go_ret
    exact ⟨rfl, hm2⟩
  have hd1 : decide (6000 < (l.length : Int)) = false := by simp; omega
  by_cases ha : 200 < na
  · have hd : decide (200 < (na : Int)) = true := by simp; omega
    clear hl ha
    clear hmx het
    go_enter Tryz.func6, Tryz.ntmps6
    go_wp2_with (first
      | (go_at_call 8; (with_reducible refine (HK.out _ (by (repeat' (with_reducible (first | exact Mod.refl _ _ | assumption | refine Mod.alloc ?_ _ | refine Mod.drew ?_ | refine Mod.drewN ?_ _ | refine Mod.setCell ?_ (by first | exact Or.inl rfl | (right; simp; done) | (right; simp; omega) | (left; simp; done)) _))))).mono ?_); rintro e w2 ⟨rfl, hm2⟩)
      | fail)
    go_ret
    exact ⟨rfl, hm2⟩
  have hd2 : decide (200 < (na : Int)) = false := by simp; omega
  have HOf := Lib.hid (dof_any l w (by omega) hmx het)
  have HG := Lib.hid (fun X => gfof_any l X (by omega))
  have HLs := Lib.hid (fun ls (h : foldT l = .inl ls) => (show ls.length ≤ 6001 from by have := foldT_len h; omega))
  clear hmx het hl
  obtain ⟨o, ho⟩ : ∃ o, o = foldT l := ⟨_, rfl⟩
  rw [← ho] at HOf HG
  have HO := Lib.hid ho.symm
  clear ho
  cases o with
  | inr n =>
    go_enter Tryz.func6, Tryz.ntmps6
    go_wp2_with (first
      | (go_at_call 9; (with_reducible refine HOf.out.mono ?_); rintro e w1 ⟨rfl, hm1⟩)
      | (go_at_call 10; (with_reducible refine (HG.out _).mono ?_); rintro e w2 ⟨rfl, hm2⟩
         have M2 := hm1.trans' hm2)
      | (go_at_call 8; (with_reducible refine (HK.out _ (by (repeat' (with_reducible (first | exact Mod.refl _ _ | assumption | refine Mod.alloc ?_ _ | refine Mod.drew ?_ | refine Mod.drewN ?_ _ | refine Mod.setCell ?_ (by first | exact Or.inl rfl | (right; simp; done) | (right; simp; omega) | (left; simp; done)) _))))).mono ?_); rintro e w3 ⟨rfl, hm3⟩)
      | fail)
    go_ret
    exact ⟨rfl, M2.trans' hm3⟩
  | inl ls =>
    have hls := HLs.out ls HO.out
    have hcl := chgL_len ls
    obtain ⟨nc, hnc⟩ : ∃ n, n = (chgL ls).length := ⟨_, rfl⟩
    rw [← hnc] at hcl
    have HNc := Lib.hid hnc
    clear hnc HLs
    go_enter Tryz.func6, Tryz.ntmps6
    go_wp2_with (first
      | (go_at_call 9; (with_reducible refine HOf.out.mono ?_); rintro e w1 ⟨⟨fb, hs, rfl, hlh, hF, -⟩, hm1⟩
         have HF := Lib.hid hF
         clear hF)
      | (go_at_call 10; (with_reducible refine (HG.out _).mono ?_); rintro e w2 ⟨⟨rf, hr, rfl, hlr, hR⟩, hm2⟩
         have HBo := Lib.hid (foldBoth hlh hlr ((HF.out.mod hm2 fun b hb => ⟨hb.2, id⟩).mono (D' := fun b => b < w2.heap.size) fun b hb => Nat.lt_of_lt_of_le hb.2 hm2.size) (hR.mono fun b hb => hb.2) (by omega))
         have M2 := hm1.trans' hm2
         have HRa := Lib.hid (rdKeep HA.out M2)
         clear hlh hlr hR hm1 hm2)
      | (at_builtin
         refine wpList_app (base := w2.heap.size) (xs := []) (ys := xs) (D := fun b => b < w2.heap.size) (v := .slice none 0 0) rfl (.const (.slice none 0 0)) (.tmp 42) rfl i32s_t csI_len csI_one rfl (OwnS.nil _ _ _ _ _) _ rfl HNa.out HRa.out ?_ ?_ ?_ ?_
         · rw [← HNa.out]; simp [maxLen]; omega
         · rw [← HNa.out]; simp; omega
         · exact Nat.le_refl _
         intro v3 w3 ho3 hm3 _
         have HO3 := Lib.hid ho3
         have hm3 : Mod (fun _ => False) w2 w3 := hm3.mono fun b _ h => by simp [Value.ownBlock] at h
         have hs3 := hm3.size
         clear ho3)
      | (go_at_call 12; (with_reducible refine (HBo.out.chg _ (by (repeat' (with_reducible (first | exact Mod.refl _ _ | assumption | refine Mod.alloc ?_ _ | refine Mod.drew ?_ | refine Mod.drewN ?_ _ | refine Mod.setCell ?_ (by first | exact Or.inl rfl | (right; simp; done) | (right; simp; omega) | (left; simp; done)) _))))).mono ?_); rintro e w4 ⟨A4, c4, rfl, hr4, hm4⟩
         have hs4 := hm4.size
         have HR4 := Lib.hid hr4
         have HO4 := Lib.hid (HO3.out.mod hm4 fun _ _ => id)
         rw [← HNc.out]
         clear hr4)
      | (at_builtin
         refine wpList_app (base := w2.heap.size) (xs := [] ++ xs) (ys := chgL ls) (D := fun b => b < w4.heap.size) (v := v3) rfl (.tmp 43) (.tmp 45) rfl i32s_t csI_len csI_one rfl HO4.out _ rfl HNc.out HR4.out ?_ ?_ ?_ ?_
         · rw [← HNc.out, List.nil_append, ← HNa.out]; simp [maxLen]; omega
         · rw [← HNc.out, List.nil_append, ← HNa.out]; omega
         · omega
         intro v5 w5 ho5 hm5 _
         have M5 : Mod (fun _ => False) w2 w5 := (hm3.trans' hm4).trans hm5 fun b hb => .inr (HO4.out.fresh b hb).1
         obtain ⟨A5, c5, hv5, hr5, hf5, -⟩ := ho5.rd csI_len
         obtain ⟨nq, hnq⟩ : ∃ n, n = ([] ++ xs ++ chgL ls).length := ⟨_, rfl⟩
         rw [← hnq] at hv5
         subst hv5
         have HR5 := Lib.hid (hr5.mono (D' := fun b => b < w5.heap.size) fun b hb => (hf5 b hb).2)
         have hnq2 : nq ≤ 7000 := by rw [hnq, List.nil_append, List.length_append, ← HNa.out, ← HNc.out]; omega
         have HNq := Lib.hid hnq
         clear hm3 hm4 hm5 ho5 hr5 hf5 hnq hs3 hs4)
      | fail)
    go_loopw [12] (fun i wr => ∃ k : Nat, k ≤ nq ∧ i = .int .i64 k ∧ Mod (fun _ => False) w5 wr) (fun i _ => nq - (intOf i).toNat)
    case atStart => exact ⟨0, Nat.zero_le _, rfl, Mod.refl _ _⟩
    case round =>
      obtain ⟨wo, rfl⟩ : ∃ wo : World, wo = wr := ⟨_, rfl⟩
      obtain ⟨k, hk, rfl, hm⟩ := hrel
      by_cases hlt : k < nq
      · have hkx : k < ([] ++ xs ++ chgL ls).length := by rw [← HNq.out]; exact hlt
        obtain ⟨b, off, hAe, hb, q1⟩ := rdI (HR5.out.mod hm fun b hb => ⟨hb, id⟩) hkx
        subst hAe
        obtain ⟨x, hx⟩ : ∃ x, x = ([] ++ xs ++ chgL ls)[k] := ⟨_, rfl⟩
        rw [← hx] at q1
        obtain ⟨nf, hnf⟩ : ∃ n, n = (fullL ls x).length := ⟨_, rfl⟩
        have hfl := HBo.out.le x
        have M2o := M5.trans' hm
        have HFu := Lib.hid (HBo.out.full x)
        have HGf := Lib.hid (HBo.out.gfull x)
        rw [← hnf] at HFu HGf hfl
        obtain ⟨sx, hsx⟩ : ∃ s, s = simpL ls x := ⟨_, rfl⟩
        have HSx := Lib.hid (HBo.out.simp x)
        have HGs := Lib.hid (HBo.out.gsimp x)
        rw [← hsx] at HSx HGs
        have HNf := Lib.hid hnf
        have hss : (sx != sx) = false := by simp
        clear hx hnf hsx
        go_wp2
        go_region_held3 (fun W => W.cell? ⟨b, off + k, none⟩ = some (.int .i32 x)) (first | exact q1 | exact q7 | exact q8 | exact q9 | fail) (first
          | (go_at_call 15; (with_reducible refine (HFu.out _ (by (repeat' (with_reducible (first | exact Mod.refl _ _ | assumption | refine Mod.alloc ?_ _ | refine Mod.drew ?_ | refine Mod.drewN ?_ _ | refine Mod.setCell ?_ (by first | exact Or.inl rfl | (right; simp; done) | (right; simp; omega) | (left; simp; done)) _))))).mono ?_); rintro e w7 ⟨A7, c7, rfl, hr7, hm7⟩
             have M7 : Mod (fun _ => False) wo w7 := Mod.trans' (by (repeat' (first | exact Mod.refl _ _ | assumption | refine Mod.alloc ?_ _ | refine Mod.drew ?_ | refine Mod.drewN ?_ _ | refine Mod.setCell ?_ (by first | exact Or.inl rfl | (right; simp; done) | (right; simp; omega) | (left; simp; done)) _))) hm7
             have M27 := M2o.trans' M7
             have q7 := cell_mod q1 M7 id
             have HR7 := Lib.hid hr7
             clear hr7)
          | (go_at_call 14; (with_reducible refine (HGf.out _ (by (repeat' (with_reducible (first | exact Mod.refl _ _ | assumption | refine Mod.alloc ?_ _ | refine Mod.drew ?_ | refine Mod.drewN ?_ _ | refine Mod.setCell ?_ (by first | exact Or.inl rfl | (right; simp; done) | (right; simp; omega) | (left; simp; done)) _))))).mono ?_); rintro e w8 ⟨A8, c8, rfl, hr8, hm8⟩
             have M8 := M7.trans' hm8
             have M28 := M27.trans' hm8
             have q8 := cell_mod q7 hm8 id
             have HSm := Lib.hid (sameR A7 A8 c7 c8 nf nf (fullL ls x) (fullL ls x) w8 (rdKeep HR7.out hm8) hr8 HNf.out HNf.out (by rw [← HNf.out]; omega) rfl)
             clear hr8)
          | (go_at_call 13; (with_reducible refine HSm.out.mono ?_); rintro e w9 ⟨rfl, hm9⟩
             have M9 := M8.trans' hm9
             have M29 := M28.trans' hm9
             have q9 := cell_mod q8 hm9 id)
          | (go_at_call 22; (with_reducible refine (HSx.out _ (by (repeat' (with_reducible (first | exact Mod.refl _ _ | assumption | refine Mod.alloc ?_ _ | refine Mod.drew ?_ | refine Mod.drewN ?_ _ | refine Mod.setCell ?_ (by first | exact Or.inl rfl | (right; simp; done) | (right; simp; omega) | (left; simp; done)) _))))).mono ?_); rintro e w10 ⟨rfl, rfl⟩)
          | (go_at_call 23; (with_reducible refine (HGs.out _ (by (repeat' (with_reducible (first | exact Mod.refl _ _ | assumption | refine Mod.alloc ?_ _ | refine Mod.drew ?_ | refine Mod.drewN ?_ _ | refine Mod.setCell ?_ (by first | exact Or.inl rfl | (right; simp; done) | (right; simp; omega) | (left; simp; done)) _))))).mono ?_); rintro e w10 ⟨rfl, rfl⟩)
          | fail)
        all_goals
          go_wp2
          exact ⟨⟨k + 1, by omega, by go_num, by (repeat refine Mod.drewN ?_ _); exact hm.trans' M9⟩, by simp only [intOf]; omega⟩
      · obtain rfl : k = nq := by omega
        have M2o := M5.trans' hm
        clear M5 hm
        go_wp2_with (first
          | (go_at_call 12; (with_reducible refine (HBo.out.chg _ (by (repeat' (with_reducible (first | exact Mod.refl _ _ | assumption | refine Mod.alloc ?_ _ | refine Mod.drew ?_ | refine Mod.drewN ?_ _ | refine Mod.setCell ?_ (by first | exact Or.inl rfl | (right; simp; done) | (right; simp; omega) | (left; simp; done)) _))))).mono ?_); rintro e w6 ⟨A6, c6, rfl, hr6, hm6⟩
             have M26 := M2o.trans' hm6
             have HR6 := Lib.hid hr6
             rw [← HNc.out]
             clear hr6 hm6 M2o)
          | fail)
        go_loopw [13, 15] (fun s i wr => ∃ k : Nat, k ≤ nc ∧ i = .int .i64 k ∧ s = .bool (((chgL ls).take k).all (stP ls)) ∧ Mod (fun _ => False) w6 wr) (fun _ i _ => nc - (intOf i).toNat)
        case atStart => exact ⟨0, Nat.zero_le _, rfl, rfl, Mod.refl _ _⟩
        case round =>
          obtain ⟨wp, rfl⟩ : ∃ wp : World, wp = wr := ⟨_, rfl⟩
          obtain ⟨j, hj, rfl, rfl, hm⟩ := hrel
          obtain ⟨sb, hsb⟩ : ∃ sb, sb = ((chgL ls).take j).all (stP ls) := ⟨_, rfl⟩
          rw [← hsb]
          by_cases hlt : j < nc
          · have hjx : j < (chgL ls).length := by rw [← HNc.out]; exact hlt
            have hst := stP_take hjx
            rw [← hsb] at hst
            have HSt := Lib.hid hst
            clear hst hsb
            cases sb
            · go_wp2
              go_quiet (fail)
              go_wp2
              exact ⟨⟨j + 1, by omega, by go_num, by rw [HSt.out]; rfl, by (repeat refine Mod.drewN ?_ _); exact hm⟩, by simp only [intOf]; omega⟩
            · obtain ⟨b, off, hAe, hb, q1⟩ := rdI (HR6.out.mod hm fun b hb => ⟨hb, id⟩) hjx
              subst hAe
              obtain ⟨x, hx⟩ : ∃ x, x = (chgL ls)[j] := ⟨_, rfl⟩
              rw [← hx] at q1 HSt
              obtain ⟨nf, hnf⟩ : ∃ n, n = (fullL ls x).length := ⟨_, rfl⟩
              obtain ⟨nt, hnt⟩ : ∃ n, n = (textL ls (fullL ls x)).length := ⟨_, rfl⟩
              have hfl := HBo.out.le x
              have htl : nt ≤ 9 := by rw [hnt]; have := textL_le HBo.out.le (fullL ls x); omega
              have M2o := M26.trans' hm
              have HGf := Lib.hid (HBo.out.gfull x)
              rw [← hnf] at HGf hfl
              have HNf := Lib.hid hnf
              have HNt := Lib.hid hnt
              obtain ⟨z, hz⟩ : ∃ z, z = (textL ls (fullL ls x) == fullL ls x) := ⟨_, rfl⟩
              have HZ := Lib.hid hz
              have HEnd := Lib.hid (show ((chgL ls).take (j + 1)).all (stP ls) = z by rw [HSt.out, hz]; rfl)
              clear hx hnf hnt hz HSt
              go_wp2
              go_region_held3 (fun W => W.cell? ⟨b, off + j, none⟩ = some (.int .i32 x)) (first | exact q1 | exact q7 | exact q8 | exact q9 | exact q10 | fail) (first
                | (go_at_call 14; (with_reducible refine (HGf.out _ (by first | exact M2o | exact M2o.drew)).mono ?_); rintro e w7 ⟨A7, c7, rfl, hr7, hm7⟩
                   have M7 : Mod (fun _ => False) wp w7 := Mod.trans' (by (repeat' (first | exact Mod.refl _ _ | assumption | refine Mod.alloc ?_ _ | refine Mod.drew ?_ | refine Mod.drewN ?_ _ | refine Mod.setCell ?_ (by first | exact Or.inl rfl | (right; simp; done) | (right; simp; omega) | (left; simp; done)) _))) hm7
                   have M27 := M2o.trans' M7
                   have q7 := cell_mod q1 M7 id
                   have HTx := HBo.out.gtext A7 c7 nf (fullL ls x) w7 M27 hr7 HNf.out (by rw [← HNf.out]; omega)
                   rw [← HNt.out] at HTx
                   have HTx := Lib.hid HTx
                   clear hr7)
                | (go_at_call 24; (with_reducible refine HTx.out.mono ?_); rintro e w8 ⟨A8, c8, rfl, hr8, hm8⟩
                   have M8 := M7.trans' hm8
                   have M28 := M27.trans' hm8
                   have q8 := cell_mod q7 hm8 id
                   have HR8 := Lib.hid hr8
                   clear hr8)
                | (go_at_call 14; (with_reducible refine (HGf.out _ M28).mono ?_); rintro e w9 ⟨A9, c9, rfl, hr9, hm9⟩
                   have M9 := M8.trans' hm9
                   have q9 := cell_mod q8 hm9 id
                   have HSm := sameD A8 A9 c8 c9 nt nf (textL ls (fullL ls x)) (fullL ls x) w9 (rdKeep HR8.out hm9) hr9 HNt.out HNf.out (by rw [← HNt.out]; omega) (by rw [← HNf.out]; omega)
                   rw [← HZ.out] at HSm
                   have HSm := Lib.hid HSm
                   clear hr9)
                | (go_at_call 13; (with_reducible refine HSm.out.mono ?_); rintro e w10 ⟨rfl, hm10⟩
                   have M10 := M9.trans' hm10
                   have q10 := cell_mod q9 hm10 id)
                | fail)
              all_goals
                go_wp2
                exact ⟨⟨j + 1, by omega, by go_num, by rw [HEnd.out], by (repeat refine Mod.drewN ?_ _); exact hm.trans' M10⟩, by simp only [intOf]; omega⟩
          · obtain rfl : j = nc := by omega
            have HSB := Lib.hid (show stillL ls = sb by
              rw [hsb, HNc.out, List.take_length]; rfl)
            have M2o := M26.trans' hm
            obtain ⟨nt, hnt⟩ : ∃ n, n = (textL ls xs).length := ⟨_, rfl⟩
            have htl : nt ≤ 600 := by rw [hnt]; have := textL_le HBo.out.le xs; rw [← HNa.out] at this; omega
            have HNt := Lib.hid hnt
            have hbb : (sb == sb) = true := by simp
            have hnn : ((j : Int) == (j : Int)) = true := by simp
            have HTx := HBo.out.text A c na xs wp M2o (rdKeep HRa.out M2o) HNa.out (by rw [← HNa.out]; omega)
            rw [← hnt] at HTx
            have HTx := Lib.hid HTx
            clear hsb hm M26 hnt
            go_wp2_with (first
              | (go_at_call 16; (with_reducible refine HTx.out.mono ?_); rintro e w11 ⟨A11, c11, rfl, hr11, hm11⟩
                 have M11 := M2o.trans' hm11
                 have HR11 := Lib.hid hr11
                 have HTy := HBo.out.gtext A c na xs w11 M11 (rdKeep HRa.out M11) HNa.out (by rw [← HNa.out]; omega)
                 rw [← HNt.out] at HTy
                 have HTy := Lib.hid HTy
                 clear hr11)
              | (go_at_call 24; (with_reducible refine HTy.out.mono ?_); rintro e w12 ⟨A12, c12, rfl, hr12, hm12⟩
                 have M12 := M11.trans' hm12
                 have HSm := Lib.hid (sameR A11 A12 c11 c12 nt nt (textL ls xs) (textL ls xs) w12 (rdKeep HR11.out hm12) hr12 HNt.out HNt.out (by rw [← HNt.out]; omega) rfl)
                 clear hr12)
              | (go_at_call 13; (with_reducible refine HSm.out.mono ?_); rintro e w13 ⟨rfl, hm13⟩
                 have M13 := M12.trans' hm13)
              | (go_at_call 25; (with_reducible refine (HBo.out.len _ (by (repeat' (with_reducible (first | exact Mod.refl _ _ | assumption | refine Mod.alloc ?_ _ | refine Mod.drew ?_ | refine Mod.drewN ?_ _ | refine Mod.setCell ?_ (by first | exact Or.inl rfl | (right; simp; done) | (right; simp; omega) | (left; simp; done)) _))))).mono ?_); rintro e w14 ⟨rfl, hm14⟩
                 have M14 := M13.trans' hm14
                 rw [← HNc.out])
              | (go_at_call 21; (with_reducible refine (HBo.out.still _ (by (repeat' (with_reducible (first | exact Mod.refl _ _ | assumption | refine Mod.alloc ?_ _ | refine Mod.drew ?_ | refine Mod.drewN ?_ _ | refine Mod.setCell ?_ (by first | exact Or.inl rfl | (right; simp; done) | (right; simp; omega) | (left; simp; done)) _))))).mono ?_); rintro e w15 ⟨rfl, hm15⟩
                 have M15 := M14.trans' hm15
                 rw [HSB.out])
              | (go_at_call 26; (with_reducible refine (HBo.out.once 0 _ M15).mono ?_); rintro e w16 ⟨rfl, hm16⟩
                 have M16 := M15.trans' hm16)
              | (go_at_call 26; (with_reducible refine (HBo.out.once leave _ M16).mono ?_); rintro e w17 ⟨rfl, hm17⟩
                 have M17 := M2.trans' (M16.trans' hm17))
              | (go_at_call 8; (with_reducible refine (HK.out _ (by (repeat' (with_reducible (first | exact Mod.refl _ _ | assumption | refine Mod.alloc ?_ _ | refine Mod.drew ?_ | refine Mod.drewN ?_ _ | refine Mod.setCell ?_ (by first | exact Or.inl rfl | (right; simp; done) | (right; simp; omega) | (left; simp; done)) _))))).mono ?_); rintro e w18 ⟨rfl, hm18⟩)
              | fail)
            go_ret
            exact ⟨rfl, M17.trans' hm18⟩
end Go.Proofs.YtidbgfmknhlmnaaGreatDoor
