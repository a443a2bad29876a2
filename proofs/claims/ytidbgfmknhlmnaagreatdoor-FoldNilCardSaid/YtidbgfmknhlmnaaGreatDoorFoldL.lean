/-
  The law FoldReads.
-/
import Derived.Test.YtidbgfmknhlmnaaGreatDoorFoldI
import Derived.Test.YtidbgfmknhlmnaaGreatDoorErrIs
namespace Go.Proofs.YtidbgfmknhlmnaaGreatDoor
open Go.RowKit Go.Shelf Go.Sort
attribute [local go_sem] Oper.semAt_some

theorem lnum_any (x : Int) (w : World) : Calls Tryz.prog 11 #[.int .i64 x] w fun e w' => e = .returned (.int .i64 x) ∧ w = w' := by
  go_enter Tryz.func11, Tryz.ntmps11
  go_wp2
  go_ret
  exact ⟨rfl, rfl⟩
def kn1 : FL := ⟨65, [67], [97]⟩
def kn2 : FL := ⟨223, [70], [115, 115]⟩
abbrev knB : Bs := [48, 48, 52, 49, 59, 32, 67, 59, 32, 48, 48, 54, 49, 59, 10, 48, 48, 68, 70, 59, 32, 70, 59, 32, 48, 48, 55, 51, 32, 48, 48, 55, 51, 59, 10]
theorem known_fold : foldT knB = .inl [kn1, kn2] := by kernel_rfl
theorem same_new (A : Option Addr) (c0 n : Nat) (xs : List Int) {c : Array Value} (hc : c.toList = xs.flatMap csI) (hx : xs.length ≤ 1000 ∧ n = xs.length) (w X : World) (hr : Rd (fun b => b < w.heap.size) w 1 csI A xs) (hX : Mod (fun _ => False) w X) (hw : X.heap[w.heap.size]? = some (.cells c 21 (0, 0))) :
    Calls Tryz.prog 13 #[.slice A n c0, .slice (some ⟨w.heap.size, 0, none⟩) n n] X fun e w' => e = .returned (.bool true) ∧ Mod (fun _ => False) X w' := by
  obtain ⟨hx, rfl⟩ := hx
  have h := same_any _ (fun b => b = w.heap.size) A (some ⟨w.heap.size, 0, none⟩) c0 xs.length xs xs X (hr.mod hX fun b hb => ⟨hb, id⟩) (Rd.blk csI_len hw hc) (by unfold maxLen; omega) (by unfold maxLen; omega) (fun b hb => Nat.lt_of_lt_of_le hb hX.size) (fun b hb => by have hb : b = w.heap.size := hb; subst hb; exact hp_lt hw)
  rw [show decide (xs = xs) = true by simp] at h
  exact h
set_option maxRecDepth 100000 in
set_option maxHeartbeats 4000000 in
theorem known_any (w : World) (hmx : MaxVar w) (het : ErrT w) : Calls Tryz.prog 8 #[] w fun e w' => e = .returned (.bool true) ∧ Mod (fun _ => False) w w' := by
  have H := dof_any knB w (by decide) hmx het
  rw [known_fold] at H
  have HOf := Lib.hid H
  clear H hmx het
  go_enter Tryz.func8, Tryz.ntmps8
  go_wp2_with (first
    | (go_at_call 9
       (with_reducible refine HOf.out.mono ?_)
       rintro e w1 ⟨⟨fb, hs, rfl, hls, hF, -⟩, hm1⟩
       have HF1 := Lib.hid (show ∀ X, Mod (fun _ => False) w1 X → Calls Tryz.prog 15 #[ptrV fb, .int .i32 65] X fun e w' => ∃ A c, e = .returned (.slice A 1 c) ∧ Rd (fun b => b < w'.heap.size) w' 1 csI A [97] ∧ Mod (fun _ => False) X w' from fun X hX => by
         refine (dfull_any _ (ptrV fb) hs 65 X (hF.mod hX fun b hb => ⟨hb.2, id⟩)).mono ?_
         rintro e w' ⟨u, rfl, ho, hm⟩
         rw [hls] at ho
         obtain ⟨A, c, rfl, hr, hf, -⟩ := ho.rd csI_len
         exact ⟨A, c, rfl, hr.mono fun b hb => (hf b hb).2, hm⟩)
       have HF2 := Lib.hid (show ∀ X, Mod (fun _ => False) w1 X → Calls Tryz.prog 15 #[ptrV fb, .int .i32 223] X fun e w' => ∃ A c, e = .returned (.slice A 2 c) ∧ Rd (fun b => b < w'.heap.size) w' 1 csI A [115, 115] ∧ Mod (fun _ => False) X w' from fun X hX => by
         refine (dfull_any _ (ptrV fb) hs 223 X (hF.mod hX fun b hb => ⟨hb.2, id⟩)).mono ?_
         rintro e w' ⟨u, rfl, ho, hm⟩
         rw [hls] at ho
         obtain ⟨A, c, rfl, hr, hf, -⟩ := ho.rd csI_len
         exact ⟨A, c, rfl, hr.mono fun b hb => (hf b hb).2, hm⟩)
       have HS := Lib.hid (show ∀ X, Mod (fun _ => False) w1 X → Calls Tryz.prog 22 #[ptrV fb, .int .i32 223] X fun e w' => e = .returned (.int .i32 223) ∧ X = w' from fun X hX => by
         have := dsimple_any _ (ptrV fb) hs 223 X (hF.mod hX fun b hb => ⟨hb.2, id⟩)
         rw [hls] at this
         exact this)
       have HM1 := Lib.hid hm1
       clear hls hF hm1)
    | (go_at_call 11; refine (lnum_any _ _).mono ?_; rintro e w2 ⟨rfl, rfl⟩)
    | (go_at_call 15; (with_reducible refine (HF1.out _ (by (repeat' (with_reducible (first | exact Mod.refl _ _ | assumption | refine Mod.alloc ?_ _ | refine Mod.drew ?_ | refine Mod.drewN ?_ _ | refine Mod.setCell ?_ (by first | exact Or.inl rfl | (right; simp; done) | (right; simp; omega) | (left; simp; done)) _))))).mono ?_); rintro e w2 ⟨A2, c2, rfl, hr2, hm2⟩
       have HSm := Lib.hid (fun X hX hw => same_new A2 c2 1 [97] (c := #[.int .i32 97]) rfl (by decide) w2 X hr2 hX hw)
       clear hr2)
    | (go_at_call 13
       (with_reducible refine (HSm.out _ (by (repeat' (with_reducible (first | exact Mod.refl _ _ | assumption | refine Mod.alloc ?_ _ | refine Mod.drew ?_ | refine Mod.drewN ?_ _ | refine Mod.setCell ?_ (by first | exact Or.inl rfl | (right; simp; done) | (right; simp; omega) | (left; simp; done)) _)))) (hp_new _ _)).mono ?_)
       rintro e w3 ⟨rfl, hm3⟩
       have M3 : Mod (fun _ => False) w1 w3 := Mod.trans' (by (repeat' (first | exact Mod.refl _ _ | assumption | refine Mod.alloc ?_ _ | refine Mod.drew ?_ | refine Mod.drewN ?_ _ | refine Mod.setCell ?_ (by first | exact Or.inl rfl | (right; simp; done) | (right; simp; omega) | (left; simp; done)) _))) hm3
       clear hm3 HSm)
    | (go_at_call 15; (with_reducible refine (HF2.out _ (by (repeat' (with_reducible (first | exact Mod.refl _ _ | assumption | refine Mod.alloc ?_ _ | refine Mod.drew ?_ | refine Mod.drewN ?_ _ | refine Mod.setCell ?_ (by first | exact Or.inl rfl | (right; simp; done) | (right; simp; omega) | (left; simp; done)) _))))).mono ?_); rintro e w4 ⟨A4, c4, rfl, hr4, hm4⟩
       have HSn := Lib.hid (fun X hX hw => same_new A4 c4 2 [115, 115] (c := #[.int .i32 115, .int .i32 115]) rfl (by decide) w4 X hr4 hX hw)
       have M4 := M3.trans' hm4
       clear hr4 hm4)
    | (go_at_call 13
       (with_reducible refine (HSn.out _ (by (repeat' (with_reducible (first | exact Mod.refl _ _ | assumption | refine Mod.alloc ?_ _ | refine Mod.drew ?_ | refine Mod.drewN ?_ _ | refine Mod.setCell ?_ (by first | exact Or.inl rfl | (right; simp; done) | (right; simp; omega) | (left; simp; done)) _)))) (hp_new _ _)).mono ?_)
       rintro e w5 ⟨rfl, hm5⟩
       have M5 : Mod (fun _ => False) w1 w5 := Mod.trans' (by (repeat' (first | exact Mod.refl _ _ | assumption | refine Mod.alloc ?_ _ | refine Mod.drew ?_ | refine Mod.drewN ?_ _ | refine Mod.setCell ?_ (by first | exact Or.inl rfl | (right; simp; done) | (right; simp; omega) | (left; simp; done)) _))) hm5
       clear hm5)
    | (go_at_call 22; (with_reducible refine (HS.out _ (by (repeat' (with_reducible (first | exact Mod.refl _ _ | assumption | refine Mod.alloc ?_ _ | refine Mod.drew ?_ | refine Mod.drewN ?_ _ | refine Mod.setCell ?_ (by first | exact Or.inl rfl | (right; simp; done) | (right; simp; omega) | (left; simp; done)) _))))).mono ?_); rintro e w6 ⟨rfl, rfl⟩)
    | fail)
  go_ret
  exact ⟨rfl, HM1.out.trans' M5⟩
set_option maxRecDepth 100000 in
set_option maxHeartbeats 4000000 in
theorem foldReads_any (l : Bs) (w : World) (hmx : MaxVar w) (het : ErrT w) : Calls Tryz.prog 4 #[.string ⟨l.toArray⟩] w fun e w' => e = .returned (.bool true) ∧ Mod (fun _ => False) w w' := by
  have HK := Lib.hid (fun X (hX : Mod (fun _ => False) w X) => known_any X (hmx.mod hX id) (het.mod hX id))
  by_cases hl : 6000 < l.length
  · have hd : decide (6000 < (l.length : Int)) = true := by simp; omega
    clear hl hmx het
    go_enter Tryz.func4, Tryz.ntmps4
    go_wp2_with (first
      | (go_at_call 8; (with_reducible refine (HK.out _ (by (repeat' (with_reducible (first | exact Mod.refl _ _ | assumption | refine Mod.alloc ?_ _ | refine Mod.drew ?_ | refine Mod.drewN ?_ _ | refine Mod.setCell ?_ (by first | exact Or.inl rfl | (right; simp; done) | (right; simp; omega) | (left; simp; done)) _))))).mono ?_); rintro e w2 ⟨rfl, hm2⟩)
      | fail)
    go_ret
    exact ⟨rfl, hm2⟩
  have hl : l.length ≤ 6000 := by omega
  have hd : decide (6000 < (l.length : Int)) = false := by simp; omega
  have HMX := Lib.hid hmx
  have HET := Lib.hid het
  have HOf := Lib.hid (dof_any l w (by omega) hmx het)
  have HCk := Lib.hid (fun X (hX : Mod (fun _ => False) w X) => dcheck_any l X (by omega) (hmx.mod hX id))
  have HRd := Lib.hid (fun X => gread_any l X (by omega))
  clear hl hmx het
  generalize foldT l = o at *
  cases o with
  | inl ls =>
    go_enter Tryz.func4, Tryz.ntmps4
    go_wp2_with (first
      | (go_at_call 9; (with_reducible refine HOf.out.mono ?_); rintro e w1 ⟨⟨fb, hs, rfl, -⟩, hm1⟩)
      | (go_at_call 17; (with_reducible refine (HCk.out _ (by (repeat' (with_reducible (first | exact Mod.refl _ _ | assumption | refine Mod.alloc ?_ _ | refine Mod.drew ?_ | refine Mod.drewN ?_ _ | refine Mod.setCell ?_ (by first | exact Or.inl rfl | (right; simp; done) | (right; simp; omega) | (left; simp; done)) _))))).mono ?_); rintro e w2 ⟨rfl, hm2⟩)
      | (go_at_call 18; (with_reducible refine (HRd.out _).mono ?_); rintro e w3 ⟨⟨fb3, hs3, rfl, -⟩, hm3⟩
         have M3 := (hm1.trans' hm2).trans' hm3)
      | (go_at_call 11; refine (lnum_any _ _).mono ?_; rintro e w4 ⟨rfl, rfl⟩)
      | (go_at_call 8; (with_reducible refine (HK.out _ (by (repeat' (with_reducible (first | exact Mod.refl _ _ | assumption | refine Mod.alloc ?_ _ | refine Mod.drew ?_ | refine Mod.drewN ?_ _ | refine Mod.setCell ?_ (by first | exact Or.inl rfl | (right; simp; done) | (right; simp; omega) | (left; simp; done)) _))))).mono ?_); rintro e w5 ⟨rfl, hm5⟩)
      | fail)
    go_ret
    exact ⟨rfl, M3.trans' hm5⟩
  | inr n =>
    go_enter Tryz.func4, Tryz.ntmps4
    go_wp2_with (first
      | (go_at_call 9; (with_reducible refine HOf.out.mono ?_); rintro e w1 ⟨rfl, hm1⟩)
      | (go_at_call 17; (with_reducible refine (HCk.out _ (by (repeat' (with_reducible (first | exact Mod.refl _ _ | assumption | refine Mod.alloc ?_ _ | refine Mod.drew ?_ | refine Mod.drewN ?_ _ | refine Mod.setCell ?_ (by first | exact Or.inl rfl | (right; simp; done) | (right; simp; omega) | (left; simp; done)) _))))).mono ?_); rintro e w2 ⟨⟨b, rfl, he, hb⟩, hm2⟩
         have HE := Lib.hid he
         clear he)
      | (go_at_call 18; (with_reducible refine (HRd.out _).mono ?_); rintro e w3 ⟨rfl, hm3⟩
         have M3 := (hm1.trans' hm2).trans' hm3
         have HE3 := Lib.hid (show ErrAt w3 b n 6 from hp_mod HE.out hm3 id)
         have hg : (w3.alloc (.cells #[.pointer none] 47)).cell? ⟨0, 0, none⟩ = some (.iface 114 (.agg #[.pointer (some ⟨4, 43, none⟩)])) := (HET.out.mod M3 id).mod ((Mod.refl (fun _ => False) w3).alloc _) id
         have HA := Lib.hid (as_hit ⟨b, 0, none⟩ ⟨w3.heap.size, 0, none⟩ (.pointer none) (w3.alloc (.cells #[.pointer none] 47)) hg (hp_cell (hp_new _ _) 0) (hp_free (hp_new _ _) 0))
         clear hg)
      | (go_at_call 19
         (with_reducible refine HA.out.mono ?_)
         rintro ev w6 ⟨rfl, hw6⟩
         have M6 : Mod (fun _ => False) w3 w6 := by subst hw6; (repeat' (first | exact Mod.refl _ _ | assumption | refine Mod.alloc ?_ _ | refine Mod.drew ?_ | refine Mod.drewN ?_ _ | refine Mod.setCell ?_ (by first | exact Or.inl rfl | (right; simp; done) | (right; simp; omega) | (left; simp; done)) _))
         have k2 : w6.cell? ⟨w3.heap.size, 0, none⟩ = some (ptrV b) := by
           have := hp_cell (hp_set (hp_alloc (hp_alloc (hp_alloc (hp_alloc (hp_new w3 (.cells #[.pointer none] 47 (0, 0))) (.cells #[.pointer (some ⟨w3.heap.size, 0, none⟩)] 49 (0, 0))) (.cells #[.pointer (some ⟨4, 49, none⟩), .pointer (some ⟨(w3.alloc (.cells #[.pointer none] 47)).heap.size, 0, none⟩), .int .u64 150] 83 (0, 0))) (.cells #[.pointer (some ⟨4, 49, none⟩), .pointer (some ⟨(w3.alloc (.cells #[.pointer none] 47)).heap.size, 0, none⟩), .int .u64 150] 83 (0, 0))) (.cells #[ptrV b] 47 (0, 0))) 0 (ptrV b)) 0
           rw [hw6]
           simpa using this
         have e6 := hp_mod HE3.out M6 id
         have k3 := hp_cell e6 0
         have k4 := hp_cell e6 1
         have k5 := hp_cell e6 2
         have HIs := Lib.hid (is_table b n 6 w6 e6)
         have M6' := M3.trans' M6
         clear hw6 M6 M3 e6)
      | (go_at_call 20; (with_reducible refine HIs.out.mono ?_); rintro e w7 ⟨rfl, rfl⟩)
      | (go_at_call 11; refine (lnum_any _ _).mono ?_; rintro e w4 ⟨rfl, rfl⟩)
      | (go_at_call 8; (with_reducible refine (HK.out _ (by (repeat' (with_reducible (first | exact Mod.refl _ _ | assumption | refine Mod.alloc ?_ _ | refine Mod.drew ?_ | refine Mod.drewN ?_ _ | refine Mod.setCell ?_ (by first | exact Or.inl rfl | (right; simp; done) | (right; simp; omega) | (left; simp; done)) _))))).mono ?_); rintro e w5 ⟨rfl, hm5⟩)
      | fail)
    go_ret
    exact ⟨rfl, M6'.trans' hm5⟩
end Go.Proofs.YtidbgfmknhlmnaaGreatDoor
