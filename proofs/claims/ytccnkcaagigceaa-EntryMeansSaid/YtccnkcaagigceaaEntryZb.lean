/-
  The law EntryMeans: its walk.
-/
import Derived.Test.YtccnkcaagigceaaEntryZa
import Derived.Test.YtccnkcaagigceaaEntryO
namespace Go.Proofs.Ytccnkcaagigceaa
open Go.RowKit Go.Shelf
attribute [local go_sem] Oper.semAt_some

set_option maxRecDepth 100000 in
set_option maxHeartbeats 16000000 in
theorem entryMeans_any (A By : Option Addr) (c cy : Nat) (xs ys : List At) (na nb : Bs) (Ac : Option Addr) (cc : Nat) (s : Bs) (w : World) (hA : Rd (fun b => b < w.heap.size) w 2 At.cs A xs) (hB : Rd (fun b => b < w.heap.size) w 2 At.cs By ys) (hS : Rd (fun b => b < w.heap.size) w 1 csU Ac s)
    (hlx : xs.length ≤ maxLen) (hly : ys.length ≤ maxLen) (hna : na.length ≤ 9223372036854775807) (hnb : nb.length ≤ 9223372036854775807) (hls : s.length ≤ maxLen) :
    Calls Try.prog 7 #[.agg #[.string ⟨na.toArray⟩, .slice A xs.length c], .agg #[.string ⟨nb.toArray⟩, .slice By ys.length cy], .slice Ac s.length cc] w fun e w' => e = .returned (.bool true) ∧ Mod (fun _ => False) w w' := by
  unfold maxLen at hls
  have HK := Lib.hid (fun X => known_any X)
  have hFx := kat1 xs
  have hFy := kat1 ys
  obtain ⟨n, hn⟩ : ∃ n, n = xs.length := ⟨_, rfl⟩
  obtain ⟨m, hm⟩ : ∃ m, m = ys.length := ⟨_, rfl⟩
  obtain ⟨q, hq⟩ : ∃ q, q = s.length := ⟨_, rfl⟩
  obtain ⟨w0, hw0⟩ : ∃ w0, w0 = (w.alloc (.cells #[.string ⟨na.toArray⟩, .slice A n c] 35)).alloc (.cells #[.string ⟨nb.toArray⟩, .slice By m cy] 35) := ⟨_, rfl⟩
  have hm0 : Mod (fun _ => False) w w0 := by rw [hw0]; (repeat' (first | exact Mod.refl _ _ | assumption | refine Mod.alloc ?_ _ | refine Mod.drew ?_ | refine Mod.drewN ?_ _ | refine Mod.setCell ?_ (by first | exact Or.inl rfl | (right; simp; done) | (right; simp; omega) | (left; simp; done)) _))
  have ha0 : w0.heap[w.heap.size]? = some (.cells #[.string ⟨na.toArray⟩, .slice A n c] 35 (0, 0)) := by rw [hw0]; exact hp_alloc (hp_new _ _) _
  have hb0 : w0.heap[w.heap.size + 1]? = some (.cells #[.string ⟨nb.toArray⟩, .slice By m cy] 35 (0, 0)) := by rw [hw0]; exact hp_at _ _ (by simp)
  have HA := Lib.hid (fun X (hX : Mod (fun _ => False) w0 X) => (hA.mod (hm0.trans' hX) (fun b hb => ⟨hb, id⟩)).mono (D' := fun b => b < X.heap.size) fun b hb => Nat.lt_of_lt_of_le hb (hm0.trans' hX).size)
  have HB := Lib.hid (fun X (hX : Mod (fun _ => False) w0 X) => (hB.mod (hm0.trans' hX) (fun b hb => ⟨hb, id⟩)).mono (D' := fun b => b < X.heap.size) fun b hb => Nat.lt_of_lt_of_le hb (hm0.trans' hX).size)
  have HS := Lib.hid (fun X (hX : Mod (fun _ => False) w0 X) => (hS.mod (hm0.trans' hX) (fun b hb => ⟨hb, id⟩)).mono (D' := fun b => b < X.heap.size) fun b hb => Nat.lt_of_lt_of_le hb (hm0.trans' hX).size)
  have HCa := Lib.hid (fun X (hX : Mod (fun _ => False) w0 X) => hp_mod ha0 hX id)
  have HCb := Lib.hid (fun X (hX : Mod (fun _ => False) w0 X) => hp_mod hb0 hX id)
  have HMx := Lib.hid (fun X (hX : Mod (fun _ => False) w0 X) => rmuch_any A c xs X (HA.out X hX) hlx)
  have HMy := Lib.hid (fun X (hX : Mod (fun _ => False) w0 X) => rmuch_any By cy ys X (HB.out X hX) hly)
  obtain ⟨z1, hz1⟩ : ∃ z, z = muchB xs := ⟨_, rfl⟩
  obtain ⟨z2, hz2⟩ : ∃ z, z = muchB ys := ⟨_, rfl⟩
  rw [← hn] at HMx ⊢
  rw [← hm] at HMy ⊢
  rw [← hq] at hls ⊢
  rw [← hz1] at HMx hFx
  rw [← hz2] at HMy hFy
  have HM0 := Lib.hid hm0
  have HW0 := Lib.hid hw0
  have HNx := Lib.hid hn
  have HNy := Lib.hid hm
  have HNs := Lib.hid hq
  have HFx := Lib.hid hFx
  have HFy := Lib.hid hFy
  have d9 : ∀ k : Nat, ¬ 9000 < k → decide ((9000 : Int) < (k : Int)) = false := fun k hk => by rw [decide_eq_false_iff_not]; omega
  have t9 : ∀ k : Nat, 9000 < k → decide ((9000 : Int) < (k : Int)) = true := fun k hk => by rw [decide_eq_true_eq]; omega
  have D9 := Lib.hid d9
  have T9 := Lib.hid t9
  clear hn hm hq hz1 hz2 hA hB hS hlx hly hm0 ha0 hb0 hFx hFy d9 t9
  by_cases ha9 : 9000 < na.length
  · have e1 := T9.out _ ha9
    clear ha9
    go_enter Try.func7, Try.ntmps7
    go_wp2_with (first
      | (go_at_call 13
         (with_reducible refine (HK.out _).mono ?_)
         rintro e w1 ⟨rfl, hm1⟩
         rw [← HW0.out] at hm1
         have HM1 := Lib.hid hm1
         have a0w1 : w1.cell? ⟨w.heap.size, 0, none⟩ = some (.string ⟨na.toArray⟩) := by rw [hp_cell (HCa.out _ hm1)]; rfl
         have a1w1 : w1.cell? ⟨w.heap.size, 1, none⟩ = some (.slice A n c) := by rw [hp_cell (HCa.out _ hm1)]; rfl
         have a1w1z : w1.cell? ⟨w.heap.size, 0 + 1, none⟩ = some (.slice A n c) := by rw [hp_cell (HCa.out _ hm1)]; rfl
         have b0w1 : w1.cell? ⟨w.heap.size + 1, 0, none⟩ = some (.string ⟨nb.toArray⟩) := by rw [hp_cell (HCb.out _ hm1)]; rfl
         have b1w1 : w1.cell? ⟨w.heap.size + 1, 1, none⟩ = some (.slice By m cy) := by rw [hp_cell (HCb.out _ hm1)]; rfl
         have b1w1z : w1.cell? ⟨w.heap.size + 1, 0 + 1, none⟩ = some (.slice By m cy) := by rw [hp_cell (HCb.out _ hm1)]; rfl
         clear hm1)
      | fail)
    go_ret
    exact ⟨rfl, HM0.out.trans' HM1.out⟩
  have ea := D9.out _ ha9
  by_cases hb9 : 9000 < nb.length
  · have e1 := T9.out _ hb9
    clear hb9
    go_enter Try.func7, Try.ntmps7
    go_wp2_with (first
      | (go_at_call 13
         (with_reducible refine (HK.out _).mono ?_)
         rintro e w1 ⟨rfl, hm1⟩
         rw [← HW0.out] at hm1
         have HM1 := Lib.hid hm1
         have a0w1 : w1.cell? ⟨w.heap.size, 0, none⟩ = some (.string ⟨na.toArray⟩) := by rw [hp_cell (HCa.out _ hm1)]; rfl
         have a1w1 : w1.cell? ⟨w.heap.size, 1, none⟩ = some (.slice A n c) := by rw [hp_cell (HCa.out _ hm1)]; rfl
         have a1w1z : w1.cell? ⟨w.heap.size, 0 + 1, none⟩ = some (.slice A n c) := by rw [hp_cell (HCa.out _ hm1)]; rfl
         have b0w1 : w1.cell? ⟨w.heap.size + 1, 0, none⟩ = some (.string ⟨nb.toArray⟩) := by rw [hp_cell (HCb.out _ hm1)]; rfl
         have b1w1 : w1.cell? ⟨w.heap.size + 1, 1, none⟩ = some (.slice By m cy) := by rw [hp_cell (HCb.out _ hm1)]; rfl
         have b1w1z : w1.cell? ⟨w.heap.size + 1, 0 + 1, none⟩ = some (.slice By m cy) := by rw [hp_cell (HCb.out _ hm1)]; rfl
         clear hm1)
      | fail)
    go_ret
    exact ⟨rfl, HM0.out.trans' HM1.out⟩
  have eb := D9.out _ hb9
  cases z1
  case' true =>
    go_enter Try.func7, Try.ntmps7
    go_wp2_with (first
      | (go_at_call 13
         (with_reducible refine (HK.out _).mono ?_)
         rintro e w1 ⟨rfl, hm1⟩
         rw [← HW0.out] at hm1
         have HM1 := Lib.hid hm1
         have a0w1 : w1.cell? ⟨w.heap.size, 0, none⟩ = some (.string ⟨na.toArray⟩) := by rw [hp_cell (HCa.out _ hm1)]; rfl
         have a1w1 : w1.cell? ⟨w.heap.size, 1, none⟩ = some (.slice A n c) := by rw [hp_cell (HCa.out _ hm1)]; rfl
         have a1w1z : w1.cell? ⟨w.heap.size, 0 + 1, none⟩ = some (.slice A n c) := by rw [hp_cell (HCa.out _ hm1)]; rfl
         have b0w1 : w1.cell? ⟨w.heap.size + 1, 0, none⟩ = some (.string ⟨nb.toArray⟩) := by rw [hp_cell (HCb.out _ hm1)]; rfl
         have b1w1 : w1.cell? ⟨w.heap.size + 1, 1, none⟩ = some (.slice By m cy) := by rw [hp_cell (HCb.out _ hm1)]; rfl
         have b1w1z : w1.cell? ⟨w.heap.size + 1, 0 + 1, none⟩ = some (.slice By m cy) := by rw [hp_cell (HCb.out _ hm1)]; rfl
         clear hm1)
      | (go_at_call 14
         (with_reducible refine (HMx.out w1 HM1.out).mono ?_)
         rintro e w2 ⟨rfl, hm2⟩
         have HM2 := Lib.hid (HM1.out.trans' hm2)
         have a0w2 : w2.cell? ⟨w.heap.size, 0, none⟩ = some (.string ⟨na.toArray⟩) := by rw [hp_cell (HCa.out _ HM2.out)]; rfl
         have a1w2 : w2.cell? ⟨w.heap.size, 1, none⟩ = some (.slice A n c) := by rw [hp_cell (HCa.out _ HM2.out)]; rfl
         have a1w2z : w2.cell? ⟨w.heap.size, 0 + 1, none⟩ = some (.slice A n c) := by rw [hp_cell (HCa.out _ HM2.out)]; rfl
         have b0w2 : w2.cell? ⟨w.heap.size + 1, 0, none⟩ = some (.string ⟨nb.toArray⟩) := by rw [hp_cell (HCb.out _ HM2.out)]; rfl
         have b1w2 : w2.cell? ⟨w.heap.size + 1, 1, none⟩ = some (.slice By m cy) := by rw [hp_cell (HCb.out _ HM2.out)]; rfl
         have b1w2z : w2.cell? ⟨w.heap.size + 1, 0 + 1, none⟩ = some (.slice By m cy) := by rw [hp_cell (HCb.out _ HM2.out)]; rfl
         clear hm2)
      | fail)
    go_ret
    exact ⟨rfl, HM0.out.trans' HM2.out⟩
  cases z2
  case' true =>
    go_enter Try.func7, Try.ntmps7
    go_wp2_with (first
      | (go_at_call 13
         (with_reducible refine (HK.out _).mono ?_)
         rintro e w1 ⟨rfl, hm1⟩
         rw [← HW0.out] at hm1
         have HM1 := Lib.hid hm1
         have a0w1 : w1.cell? ⟨w.heap.size, 0, none⟩ = some (.string ⟨na.toArray⟩) := by rw [hp_cell (HCa.out _ hm1)]; rfl
         have a1w1 : w1.cell? ⟨w.heap.size, 1, none⟩ = some (.slice A n c) := by rw [hp_cell (HCa.out _ hm1)]; rfl
         have a1w1z : w1.cell? ⟨w.heap.size, 0 + 1, none⟩ = some (.slice A n c) := by rw [hp_cell (HCa.out _ hm1)]; rfl
         have b0w1 : w1.cell? ⟨w.heap.size + 1, 0, none⟩ = some (.string ⟨nb.toArray⟩) := by rw [hp_cell (HCb.out _ hm1)]; rfl
         have b1w1 : w1.cell? ⟨w.heap.size + 1, 1, none⟩ = some (.slice By m cy) := by rw [hp_cell (HCb.out _ hm1)]; rfl
         have b1w1z : w1.cell? ⟨w.heap.size + 1, 0 + 1, none⟩ = some (.slice By m cy) := by rw [hp_cell (HCb.out _ hm1)]; rfl
         clear hm1)
      | (go_at_call 14
         (with_reducible refine (HMx.out w1 HM1.out).mono ?_)
         rintro e w2 ⟨rfl, hm2⟩
         have HM2 := Lib.hid (HM1.out.trans' hm2)
         have a0w2 : w2.cell? ⟨w.heap.size, 0, none⟩ = some (.string ⟨na.toArray⟩) := by rw [hp_cell (HCa.out _ HM2.out)]; rfl
         have a1w2 : w2.cell? ⟨w.heap.size, 1, none⟩ = some (.slice A n c) := by rw [hp_cell (HCa.out _ HM2.out)]; rfl
         have a1w2z : w2.cell? ⟨w.heap.size, 0 + 1, none⟩ = some (.slice A n c) := by rw [hp_cell (HCa.out _ HM2.out)]; rfl
         have b0w2 : w2.cell? ⟨w.heap.size + 1, 0, none⟩ = some (.string ⟨nb.toArray⟩) := by rw [hp_cell (HCb.out _ HM2.out)]; rfl
         have b1w2 : w2.cell? ⟨w.heap.size + 1, 1, none⟩ = some (.slice By m cy) := by rw [hp_cell (HCb.out _ HM2.out)]; rfl
         have b1w2z : w2.cell? ⟨w.heap.size + 1, 0 + 1, none⟩ = some (.slice By m cy) := by rw [hp_cell (HCb.out _ HM2.out)]; rfl
         clear hm2)
      | (go_at_call 14
         (with_reducible refine (HMy.out w2 HM2.out).mono ?_)
         rintro e w3 ⟨rfl, hm3⟩
         have HM3 := Lib.hid (HM2.out.trans' hm3)
         have a0w3 : w3.cell? ⟨w.heap.size, 0, none⟩ = some (.string ⟨na.toArray⟩) := by rw [hp_cell (HCa.out _ HM3.out)]; rfl
         have a1w3 : w3.cell? ⟨w.heap.size, 1, none⟩ = some (.slice A n c) := by rw [hp_cell (HCa.out _ HM3.out)]; rfl
         have a1w3z : w3.cell? ⟨w.heap.size, 0 + 1, none⟩ = some (.slice A n c) := by rw [hp_cell (HCa.out _ HM3.out)]; rfl
         have b0w3 : w3.cell? ⟨w.heap.size + 1, 0, none⟩ = some (.string ⟨nb.toArray⟩) := by rw [hp_cell (HCb.out _ HM3.out)]; rfl
         have b1w3 : w3.cell? ⟨w.heap.size + 1, 1, none⟩ = some (.slice By m cy) := by rw [hp_cell (HCb.out _ HM3.out)]; rfl
         have b1w3z : w3.cell? ⟨w.heap.size + 1, 0 + 1, none⟩ = some (.slice By m cy) := by rw [hp_cell (HCb.out _ HM3.out)]; rfl
         clear hm3)
      | fail)
    go_ret
    exact ⟨rfl, HM0.out.trans' HM3.out⟩
  by_cases hq9 : 20000 < q
  · have e1 : decide ((20000 : Int) < (q : Int)) = true := by rw [decide_eq_true_eq]; omega
    clear hq9
    go_enter Try.func7, Try.ntmps7
    go_wp2_with (first
      | (go_at_call 13
         (with_reducible refine (HK.out _).mono ?_)
         rintro e w1 ⟨rfl, hm1⟩
         rw [← HW0.out] at hm1
         have HM1 := Lib.hid hm1
         have a0w1 : w1.cell? ⟨w.heap.size, 0, none⟩ = some (.string ⟨na.toArray⟩) := by rw [hp_cell (HCa.out _ hm1)]; rfl
         have a1w1 : w1.cell? ⟨w.heap.size, 1, none⟩ = some (.slice A n c) := by rw [hp_cell (HCa.out _ hm1)]; rfl
         have a1w1z : w1.cell? ⟨w.heap.size, 0 + 1, none⟩ = some (.slice A n c) := by rw [hp_cell (HCa.out _ hm1)]; rfl
         have b0w1 : w1.cell? ⟨w.heap.size + 1, 0, none⟩ = some (.string ⟨nb.toArray⟩) := by rw [hp_cell (HCb.out _ hm1)]; rfl
         have b1w1 : w1.cell? ⟨w.heap.size + 1, 1, none⟩ = some (.slice By m cy) := by rw [hp_cell (HCb.out _ hm1)]; rfl
         have b1w1z : w1.cell? ⟨w.heap.size + 1, 0 + 1, none⟩ = some (.slice By m cy) := by rw [hp_cell (HCb.out _ hm1)]; rfl
         clear hm1)
      | (go_at_call 14
         (with_reducible refine (HMx.out w1 HM1.out).mono ?_)
         rintro e w2 ⟨rfl, hm2⟩
         have HM2 := Lib.hid (HM1.out.trans' hm2)
         have a0w2 : w2.cell? ⟨w.heap.size, 0, none⟩ = some (.string ⟨na.toArray⟩) := by rw [hp_cell (HCa.out _ HM2.out)]; rfl
         have a1w2 : w2.cell? ⟨w.heap.size, 1, none⟩ = some (.slice A n c) := by rw [hp_cell (HCa.out _ HM2.out)]; rfl
         have a1w2z : w2.cell? ⟨w.heap.size, 0 + 1, none⟩ = some (.slice A n c) := by rw [hp_cell (HCa.out _ HM2.out)]; rfl
         have b0w2 : w2.cell? ⟨w.heap.size + 1, 0, none⟩ = some (.string ⟨nb.toArray⟩) := by rw [hp_cell (HCb.out _ HM2.out)]; rfl
         have b1w2 : w2.cell? ⟨w.heap.size + 1, 1, none⟩ = some (.slice By m cy) := by rw [hp_cell (HCb.out _ HM2.out)]; rfl
         have b1w2z : w2.cell? ⟨w.heap.size + 1, 0 + 1, none⟩ = some (.slice By m cy) := by rw [hp_cell (HCb.out _ HM2.out)]; rfl
         clear hm2)
      | (go_at_call 14
         (with_reducible refine (HMy.out w2 HM2.out).mono ?_)
         rintro e w3 ⟨rfl, hm3⟩
         have HM3 := Lib.hid (HM2.out.trans' hm3)
         have a0w3 : w3.cell? ⟨w.heap.size, 0, none⟩ = some (.string ⟨na.toArray⟩) := by rw [hp_cell (HCa.out _ HM3.out)]; rfl
         have a1w3 : w3.cell? ⟨w.heap.size, 1, none⟩ = some (.slice A n c) := by rw [hp_cell (HCa.out _ HM3.out)]; rfl
         have a1w3z : w3.cell? ⟨w.heap.size, 0 + 1, none⟩ = some (.slice A n c) := by rw [hp_cell (HCa.out _ HM3.out)]; rfl
         have b0w3 : w3.cell? ⟨w.heap.size + 1, 0, none⟩ = some (.string ⟨nb.toArray⟩) := by rw [hp_cell (HCb.out _ HM3.out)]; rfl
         have b1w3 : w3.cell? ⟨w.heap.size + 1, 1, none⟩ = some (.slice By m cy) := by rw [hp_cell (HCb.out _ HM3.out)]; rfl
         have b1w3z : w3.cell? ⟨w.heap.size + 1, 0 + 1, none⟩ = some (.slice By m cy) := by rw [hp_cell (HCb.out _ HM3.out)]; rfl
         clear hm3)
      | fail)
    go_ret
    exact ⟨rfl, HM0.out.trans' HM3.out⟩
  have ec : decide ((20000 : Int) < (q : Int)) = false := by rw [decide_eq_false_iff_not]; omega
  have hfx := HFx.out rfl
  have hfy := HFy.out rfl
  have hxl : xs.length ≤ 1099511627776 := by have := hfx.1; omega
  have hyl : ys.length ≤ 1099511627776 := by have := hfy.1; omega
  have hn120 : n ≤ 120 := by have := HNx.out; have := hfx.1; omega
  have hm120 : m ≤ 120 := by have := HNy.out; have := hfy.1; omega
  have HXl := Lib.hid hxl
  have HYl := Lib.hid hyl
  have HNum := Lib.hid (fun k X => num_any k X)
  have HFxA := Lib.hid hfx.fitA
  have HFyA := Lib.hid hfy.fitA
  have HNa := Lib.hid hna
  have HNb := Lib.hid hnb
  clear hfx hfy hxl hyl hna hnb
  have hBx := fun X (hX : Mod (fun _ => False) w0 X) => (ebytes_any na A c xs X HNa.out (HA.out X hX) HXl.out HFxA.out).mono fun _ _ h => byt_uni h
  have hBy := fun X (hX : Mod (fun _ => False) w0 X) => (ebytes_any nb By cy ys X HNb.out (HB.out X hX) HYl.out HFyA.out).mono fun _ _ h => byt_uni h
  unfold BytU at hBx hBy
  obtain ⟨fa, hfa⟩ : ∃ f, f = bytF na xs := ⟨_, rfl⟩
  obtain ⟨fb, hfb⟩ : ∃ f, f = bytF nb ys := ⟨_, rfl⟩
  obtain ⟨xa, hxa⟩ : ∃ f, f = bytX na xs := ⟨_, rfl⟩
  obtain ⟨xb, hxb⟩ : ∃ f, f = bytX nb ys := ⟨_, rfl⟩
  rw [← hfa, ← hxa] at hBx
  rw [← hfb, ← hxb] at hBy
  have HFa := Lib.hid hfa
  have HFb := Lib.hid hfb
  have HXa := Lib.hid hxa
  have HXb := Lib.hid hxb
  clear hfa hfb hxa hxb
  rw [← HNx.out] at hBx
  rw [← HNy.out] at hBy
  have HBx := Lib.hid hBx
  have HBy := Lib.hid hBy
  clear hBx hBy
  go_enter Try.func7, Try.ntmps7
  go_upto_if 64 with (first
    | (go_at_call 13
       (with_reducible refine (HK.out _).mono ?_)
       rintro e w1 ⟨rfl, hm1⟩
       rw [← HW0.out] at hm1
       have HM1 := Lib.hid hm1
       have a0w1 : w1.cell? ⟨w.heap.size, 0, none⟩ = some (.string ⟨na.toArray⟩) := by rw [hp_cell (HCa.out _ hm1)]; rfl
       have a1w1 : w1.cell? ⟨w.heap.size, 1, none⟩ = some (.slice A n c) := by rw [hp_cell (HCa.out _ hm1)]; rfl
       have a1w1z : w1.cell? ⟨w.heap.size, 0 + 1, none⟩ = some (.slice A n c) := by rw [hp_cell (HCa.out _ hm1)]; rfl
       have b0w1 : w1.cell? ⟨w.heap.size + 1, 0, none⟩ = some (.string ⟨nb.toArray⟩) := by rw [hp_cell (HCb.out _ hm1)]; rfl
       have b1w1 : w1.cell? ⟨w.heap.size + 1, 1, none⟩ = some (.slice By m cy) := by rw [hp_cell (HCb.out _ hm1)]; rfl
       have b1w1z : w1.cell? ⟨w.heap.size + 1, 0 + 1, none⟩ = some (.slice By m cy) := by rw [hp_cell (HCb.out _ hm1)]; rfl
       clear hm1)
    | (go_at_call 14
       (with_reducible refine (HMx.out w1 HM1.out).mono ?_)
       rintro e w2 ⟨rfl, hm2⟩
       have HM2 := Lib.hid (HM1.out.trans' hm2)
       have a0w2 : w2.cell? ⟨w.heap.size, 0, none⟩ = some (.string ⟨na.toArray⟩) := by rw [hp_cell (HCa.out _ HM2.out)]; rfl
       have a1w2 : w2.cell? ⟨w.heap.size, 1, none⟩ = some (.slice A n c) := by rw [hp_cell (HCa.out _ HM2.out)]; rfl
       have a1w2z : w2.cell? ⟨w.heap.size, 0 + 1, none⟩ = some (.slice A n c) := by rw [hp_cell (HCa.out _ HM2.out)]; rfl
       have b0w2 : w2.cell? ⟨w.heap.size + 1, 0, none⟩ = some (.string ⟨nb.toArray⟩) := by rw [hp_cell (HCb.out _ HM2.out)]; rfl
       have b1w2 : w2.cell? ⟨w.heap.size + 1, 1, none⟩ = some (.slice By m cy) := by rw [hp_cell (HCb.out _ HM2.out)]; rfl
       have b1w2z : w2.cell? ⟨w.heap.size + 1, 0 + 1, none⟩ = some (.slice By m cy) := by rw [hp_cell (HCb.out _ HM2.out)]; rfl
       clear hm2)
    | (go_at_call 14
       (with_reducible refine (HMy.out w2 HM2.out).mono ?_)
       rintro e w3 ⟨rfl, hm3⟩
       have HM3 := Lib.hid (HM2.out.trans' hm3)
       have a0w3 : w3.cell? ⟨w.heap.size, 0, none⟩ = some (.string ⟨na.toArray⟩) := by rw [hp_cell (HCa.out _ HM3.out)]; rfl
       have a1w3 : w3.cell? ⟨w.heap.size, 1, none⟩ = some (.slice A n c) := by rw [hp_cell (HCa.out _ HM3.out)]; rfl
       have a1w3z : w3.cell? ⟨w.heap.size, 0 + 1, none⟩ = some (.slice A n c) := by rw [hp_cell (HCa.out _ HM3.out)]; rfl
       have b0w3 : w3.cell? ⟨w.heap.size + 1, 0, none⟩ = some (.string ⟨nb.toArray⟩) := by rw [hp_cell (HCb.out _ HM3.out)]; rfl
       have b1w3 : w3.cell? ⟨w.heap.size + 1, 1, none⟩ = some (.slice By m cy) := by rw [hp_cell (HCb.out _ HM3.out)]; rfl
       have b1w3z : w3.cell? ⟨w.heap.size + 1, 0 + 1, none⟩ = some (.slice By m cy) := by rw [hp_cell (HCb.out _ HM3.out)]; rfl
       clear hm3)
    | (go_at_call 31
       (with_reducible refine (HBx.out w3 HM3.out).mono ?_)
       rintro e w4 ⟨A4, c4, k4, rfl, hk4, hr4, hm4⟩
       have HM4 := Lib.hid (HM3.out.trans' hm4)
       have HK4 := Lib.hid hk4
       have HR4 := Lib.hid hr4
       have a0w4 : w4.cell? ⟨w.heap.size, 0, none⟩ = some (.string ⟨na.toArray⟩) := by rw [hp_cell (HCa.out _ HM4.out)]; rfl
       have a1w4 : w4.cell? ⟨w.heap.size, 1, none⟩ = some (.slice A n c) := by rw [hp_cell (HCa.out _ HM4.out)]; rfl
       have a1w4z : w4.cell? ⟨w.heap.size, 0 + 1, none⟩ = some (.slice A n c) := by rw [hp_cell (HCa.out _ HM4.out)]; rfl
       have b0w4 : w4.cell? ⟨w.heap.size + 1, 0, none⟩ = some (.string ⟨nb.toArray⟩) := by rw [hp_cell (HCb.out _ HM4.out)]; rfl
       have b1w4 : w4.cell? ⟨w.heap.size + 1, 1, none⟩ = some (.slice By m cy) := by rw [hp_cell (HCb.out _ HM4.out)]; rfl
       have b1w4z : w4.cell? ⟨w.heap.size + 1, 0 + 1, none⟩ = some (.slice By m cy) := by rw [hp_cell (HCb.out _ HM4.out)]; rfl
       clear hm4 hk4 hr4)
    | (go_at_call 31
       (with_reducible refine (HBy.out w4 HM4.out).mono ?_)
       rintro e w5 ⟨A5, c5, k5, rfl, hk5, hr5, hm5⟩
       have HM5 := Lib.hid (HM4.out.trans' hm5)
       have HM45 := Lib.hid hm5
       have HK5 := Lib.hid hk5
       have HR5 := Lib.hid hr5
       have a0w5 : w5.cell? ⟨w.heap.size, 0, none⟩ = some (.string ⟨na.toArray⟩) := by rw [hp_cell (HCa.out _ HM5.out)]; rfl
       have a1w5 : w5.cell? ⟨w.heap.size, 1, none⟩ = some (.slice A n c) := by rw [hp_cell (HCa.out _ HM5.out)]; rfl
       have a1w5z : w5.cell? ⟨w.heap.size, 0 + 1, none⟩ = some (.slice A n c) := by rw [hp_cell (HCa.out _ HM5.out)]; rfl
       have b0w5 : w5.cell? ⟨w.heap.size + 1, 0, none⟩ = some (.string ⟨nb.toArray⟩) := by rw [hp_cell (HCb.out _ HM5.out)]; rfl
       have b1w5 : w5.cell? ⟨w.heap.size + 1, 1, none⟩ = some (.slice By m cy) := by rw [hp_cell (HCb.out _ HM5.out)]; rfl
       have b1w5z : w5.cell? ⟨w.heap.size + 1, 0 + 1, none⟩ = some (.slice By m cy) := by rw [hp_cell (HCb.out _ HM5.out)]; rfl
       clear hm5 hk5 hr5)
    | (go_at_call 12; refine (HNum.out _ _).mono ?_; rintro e w' ⟨rfl, rfl⟩)
    | fail)
  go_cut [] (fun wx => Mod (fun _ => False) w0 wx)
  case first =>
    by_cases hza : mayE na xs = true
    · obtain rfl : fa = 0 := by rw [HFa.out]; unfold bytF; rw [if_pos hza]
      have HZa := Lib.hid hza
      have HXe := Lib.hid (show xa = packV na xs by rw [HXa.out]; unfold bytX; rw [if_pos hza])
      have hof := eof_any _ A4 c4 xa w5 (HR4.out.keep (HM45.out.agree fun b hb => ⟨hb, id⟩)) (by rw [HXa.out]; have := bytX_len na xs; omega)
      unfold OfEnds at hof
      rw [← HK4.out, HXe.out] at hof
      have HOf := Lib.hid hof
      clear hza hof
      go_wp2_with (first
        | (go_at_call 32
           (with_reducible refine (HOf.out).mono ?_)
           rintro e w6 ⟨he6, hm6⟩
           rw [of_pack HZa.out] at he6
           obtain ⟨A6, c6, he6, ho6⟩ := he6
           obtain ⟨k6, hk6⟩ : ∃ k, k = xs.length := ⟨_, rfl⟩
           rw [← hk6] at he6
           subst he6
           have HK6 := Lib.hid hk6
           have HM6 := Lib.hid (HM5.out.trans' hm6)
           have HM56 := Lib.hid hm6
           have HO6 := Lib.hid ho6
           clear hm6 hk6 ho6)
        | fail)
      obtain ⟨W7, hW7⟩ : ∃ W7, W7 = w6.alloc (.cells #[.string ⟨na.toArray⟩, .slice A6 k6 c6] 35) := ⟨_, rfl⟩
      have hm7 : Mod (fun _ => False) w6 W7 := by rw [hW7]; (repeat' (first | exact Mod.refl _ _ | assumption | refine Mod.alloc ?_ _ | refine Mod.drew ?_ | refine Mod.drewN ?_ _ | refine Mod.setCell ?_ (by first | exact Or.inl rfl | (right; simp; done) | (right; simp; omega) | (left; simp; done)) _))
      have hb7 : W7.heap[w6.heap.size]? = some (.cells #[.string ⟨na.toArray⟩, .slice A6 k6 c6] 35 (0, 0)) := by rw [hW7]; exact hp_new _ _
      rw [← hW7]
      have HM7 := Lib.hid (HM6.out.trans' hm7)
      have HMw := Lib.hid hm7
      have hr7 := ((rd_of5 HO6.out At.cs_len).mono (D' := fun b => b < w6.heap.size) fun b hb => (HO6.out.fresh b hb).2).keep (hm7.agree fun b hb => ⟨hb, id⟩)
      have hs7 := hm7.size
      have HSm1 := Lib.hid (fun X (hX : Mod (fun _ => False) W7 X) => (show Calls Try.prog 30 #[.agg #[.string ⟨na.toArray⟩, .slice A6 k6 c6], .agg #[.string ⟨na.toArray⟩, .slice A n c]] X fun e w' => e = .returned (.bool true) ∧ Mod (fun _ => False) X w' from by
        have h := rsame_any na na A6 A c6 c xs xs X ((hr7.keep (hX.agree fun b hb => ⟨Nat.lt_of_lt_of_le hb hs7, id⟩)).mono fun b hb => Nat.lt_of_lt_of_le hb (Nat.le_trans hs7 hX.size)) (HA.out X (HM7.out.trans' hX)) (by have := HXl.out; unfold maxLen; omega) (by have := HXl.out; unfold maxLen; omega)
        rw [show sameE na na xs xs = true by unfold sameE; simp] at h
        rw [show (Value.slice A6 xs.length c6) = .slice A6 k6 c6 by rw [HK6.out], show (Value.slice A xs.length c) = .slice A n c by rw [HNx.out]] at h
        exact h))
      have u0' : W7.cell? ⟨w6.heap.size, 0, none⟩ = some (.string ⟨na.toArray⟩) := by rw [hp_cell hb7]; rfl
      have u1' : W7.cell? ⟨w6.heap.size, 1, none⟩ = some (.slice A6 k6 c6) := by rw [hp_cell hb7]; rfl
      have v0' : W7.cell? ⟨w.heap.size, 0, none⟩ = some (.string ⟨na.toArray⟩) := by rw [hp_cell (HCa.out _ HM7.out)]; rfl
      have v1' : W7.cell? ⟨w.heap.size, 1, none⟩ = some (.slice A n c) := by rw [hp_cell (HCa.out _ HM7.out)]; rfl
      have y0' : W7.cell? ⟨w.heap.size + 1, 0, none⟩ = some (.string ⟨nb.toArray⟩) := by rw [hp_cell (HCb.out _ HM7.out)]; rfl
      have y1' : W7.cell? ⟨w.heap.size + 1, 1, none⟩ = some (.slice By m cy) := by rw [hp_cell (HCb.out _ HM7.out)]; rfl
      have u0 := cell_regrown u0'
      have u1 := cell_regrown u1'
      have v0 := cell_regrown v0'
      have v1 := cell_regrown v1'
      have y0 := cell_regrown y0'
      have y1 := cell_regrown y1'
      clear u0' u1' v0' v1' y0' y1'
      clear hW7 hm7 hb7 hr7 hs7
      by_cases hzb : mayE nb ys = true
      · obtain rfl : fb = 0 := by rw [HFb.out]; unfold bytF; rw [if_pos hzb]
        have HXf := Lib.hid (show xb = packV nb ys by rw [HXb.out]; unfold bytX; rw [if_pos hzb])
        obtain ⟨sz, hsz⟩ : ∃ z, z = sameE na nb xs ys := ⟨_, rfl⟩
        have heq : (xa == xb) = sz := by
          rw [hsz, ← pack_same HZa.out hzb, HXe.out, HXf.out, Bool.eq_iff_iff]
          simp
        have hsn : (sz != sz) = false := by simp
        have HSm2 := Lib.hid (fun X (hX : Mod (fun _ => False) W7 X) => (show Calls Try.prog 30 #[.agg #[.string ⟨na.toArray⟩, .slice A n c], .agg #[.string ⟨nb.toArray⟩, .slice By m cy]] X fun e w' => e = .returned (.bool sz) ∧ Mod (fun _ => False) X w' from by
          have h := rsame_any na nb A By c cy xs ys X (HA.out X (HM7.out.trans' hX)) (HB.out X (HM7.out.trans' hX)) (by have := HXl.out; unfold maxLen; omega) (by have := HYl.out; unfold maxLen; omega)
          rw [← HNx.out, ← HNy.out, ← hsz] at h
          exact h))
        have HM47 := Lib.hid ((HM45.out.trans' HM56.out).trans' (show Mod (fun _ => False) w6 W7 from HMw.out))
        have qa := fun d os => run_str_of (HR4.out.keep ((HM47.out.trans' (mod_regrown W7 d os)).agree fun b hb => ⟨hb, id⟩)) c4
        have qb := fun d os => run_str_of (HR5.out.keep (((HM56.out.trans' HMw.out).trans' (mod_regrown W7 d os)).agree fun b hb => ⟨hb, id⟩)) c5
        rw [← HK4.out] at qa
        rw [← HK5.out] at qb
        clear hzb hsz
        refine wp_region_quiet_below (by kernel_rfl) (by kernel_rfl) ?_
        repeat (go_big_quiet_step ((first
          | (go_at_call 12; with_reducible exact regM fun X hX => (HNum.out _ X).mono fun _ _ ⟨he, hm⟩ => ⟨he, by rw [← hm]; exact Mod.refl _ _⟩)
          | (go_at_call 30; with_reducible exact regM fun X hX => HSm1.out X hX)
          | (go_at_call 30; with_reducible exact regM fun X hX => HSm2.out X hX)
          | fail)))
        refine wpQuiet_nil ?_
        intro W8 hW8
        have HM8 := Lib.hid (HM7.out.trans' (mod_of_regrown hW8))
        clear hW8
        go_wp2
        go_meet
        exact HM8.out
      · obtain rfl : fb = 2 := by rw [HFb.out]; unfold bytF; rw [if_neg hzb]
        clear hzb
        refine wp_region_quiet_below (by kernel_rfl) (by kernel_rfl) ?_
        repeat (go_big_quiet_step ((first
          | (go_at_call 12; with_reducible exact regM fun X hX => (HNum.out _ X).mono fun _ _ ⟨he, hm⟩ => ⟨he, by rw [← hm]; exact Mod.refl _ _⟩)
          | (go_at_call 30; with_reducible exact regM fun X hX => HSm1.out X hX)
          | fail)))
        refine wpQuiet_nil ?_
        intro W8 hW8
        have HM8 := Lib.hid (HM7.out.trans' (mod_of_regrown hW8))
        clear hW8
        go_wp2
        go_meet
        exact HM8.out
    · obtain rfl : fa = 2 := by rw [HFa.out]; unfold bytF; rw [if_neg hza]
      clear hza
      go_wp2
      go_meet
      exact HM5.out
  case rest =>
    have HMc := Lib.hid hcut
    clear hcut
    have hof := (eof_any _ Ac cc s wc (HS.out wc HMc.out) (by rw [← HNs.out]; omega)).mono fun _ _ h => of_uni h
    unfold OfU at hof
    rw [← HNs.out] at hof
    have HOf2 := Lib.hid hof
    clear hof
    go_upto_if 102 with (first
      | (go_at_call 32
         (with_reducible refine (HOf2.out).mono ?_)
         rintro e w2 ⟨nm, l, A2, c2, k2, f2, rfl, hk2, hr2, hz2, hn2, hm2⟩
         have HM2 := Lib.hid (HMc.out.trans' hm2)
         have HM2' := Lib.hid hm2
         have HK2 := Lib.hid hk2
         have HR2 := Lib.hid hr2
         have HZ2 := Lib.hid hz2
         have HN2 := Lib.hid hn2
         clear hm2 hk2 hr2 hz2 hn2)
      | (go_at_call 12; refine (HNum.out _ _).mono ?_; rintro e w' ⟨rfl, rfl⟩)
      | fail)
    go_cut [] (fun wx => Mod (fun _ => False) w0 wx)
    case first =>
      by_cases hf2 : f2 = 0
      · subst hf2
        obtain ⟨g1, g2, g3, g4, g5⟩ := of_some (HZ2.out rfl)
        obtain ⟨W3, hW3⟩ : ∃ W3, W3 = w2.alloc (.cells #[.string ⟨nm.toArray⟩, .slice A2 k2 c2] 35) := ⟨_, rfl⟩
        have hm3 : Mod (fun _ => False) w2 W3 := by rw [hW3]; (repeat' (first | exact Mod.refl _ _ | assumption | refine Mod.alloc ?_ _ | refine Mod.drew ?_ | refine Mod.drewN ?_ _ | refine Mod.setCell ?_ (by first | exact Or.inl rfl | (right; simp; done) | (right; simp; omega) | (left; simp; done)) _))
        have hby := (ebytes_any nm A2 c2 l W3 (by omega) ((HR2.out.keep (hm3.agree fun b hb => ⟨hb, id⟩)).mono fun b hb => Nat.lt_of_lt_of_le hb hm3.size) (by omega) g4).mono fun _ _ h => byt_uni h
        unfold BytU at hby
        rw [← HK2.out, show bytF nm l = 0 by unfold bytF; rw [if_pos g2]] at hby
        have HBy2 := Lib.hid hby
        rw [hW3] at HBy2
        have HBx2 := Lib.hid (show bytX nm l = s by unfold bytX; rw [if_pos g2, g1])
        have HM3 := Lib.hid (HM2.out.trans' hm3)
        rw [hW3] at HM3
        have hss : (s != s) = false := by simp
        clear g1 g2 g3 g4 g5 hm3 hW3 hby
        go_wp2_with (first
          | (go_at_call 31
             (with_reducible refine (HBy2.out).mono ?_)
             rintro e w4 ⟨A4, c4, k4, rfl, hk4, hr4, hm4⟩
             rw [HBx2.out] at hk4 hr4
             have qa := run_str_of hr4 c4
             rw [← hk4] at qa
             have HM4 := Lib.hid (HM3.out.trans' hm4)
             have qb := run_str_of (HS.out w4 HM4.out) cc
             rw [← HNs.out] at qb
             clear hm4 hk4 hr4)
          | (go_at_call 12; refine (HNum.out _ _).mono ?_; rintro e w' ⟨rfl, rfl⟩)
          | fail)
        go_meet
        exact HM4.out
      · obtain rfl : f2 = 4 := HN2.out hf2
        clear hf2
        go_wp2
        go_meet
        exact HM2.out.alloc _
    case rest =>
      have HMc2 := Lib.hid hcut
      have a0wc : wc.cell? ⟨w.heap.size, 0, none⟩ = some (.string ⟨na.toArray⟩) := by rw [hp_cell (HCa.out _ hcut)]; rfl
      have a1wc : wc.cell? ⟨w.heap.size, 1, none⟩ = some (.slice A n c) := by rw [hp_cell (HCa.out _ hcut)]; rfl
      have a1wcz : wc.cell? ⟨w.heap.size, 0 + 1, none⟩ = some (.slice A n c) := by rw [hp_cell (HCa.out _ hcut)]; rfl
      have b0wc : wc.cell? ⟨w.heap.size + 1, 0, none⟩ = some (.string ⟨nb.toArray⟩) := by rw [hp_cell (HCb.out _ hcut)]; rfl
      have b1wc : wc.cell? ⟨w.heap.size + 1, 1, none⟩ = some (.slice By m cy) := by rw [hp_cell (HCb.out _ hcut)]; rfl
      have b1wcz : wc.cell? ⟨w.heap.size + 1, 0 + 1, none⟩ = some (.slice By m cy) := by rw [hp_cell (HCb.out _ hcut)]; rfl
      clear hcut
      have hc1 := achange_any A By c cy xs ys wc (HA.out wc HMc2.out) (HB.out wc HMc2.out) HXl.out HYl.out HFxA.out HFyA.out
      unfold ChgEnds at hc1
      rw [← HNx.out, ← HNy.out] at hc1
      by_cases hE : chgE xs ys = 0
      · obtain ⟨R, hR⟩ : ∃ R, R = chgA xs ys := ⟨_, rfl⟩
        rw [hE, chgR_ok hE, ← hR] at hc1
        have HC1 := Lib.hid hc1
        have HE := Lib.hid hE
        have HR := Lib.hid hR
        have hrl : R.length ≤ 50 := by rw [hR]; exact (chgE_zero hE).2.2.2
        obtain ⟨r, hr⟩ : ∃ r, r = R.length := ⟨_, rfl⟩
        rw [← hr] at hc1 hrl
        have HC1 := Lib.hid hc1
        have HRl := Lib.hid hr
        have HMay := Lib.hid (show mayAs R = true by rw [hR]; exact chgA_may hE)
        have HAg := Lib.hid (show chgE R ys = 0 ∧ chgR R ys = R by rw [hR]; exact chgE_again hE)
        have HFr := Lib.hid (show ∀ a ∈ R, FitA a from fun a ha => by
          have := mayA_fits (((mayAs_iff R).1 HMay.out).2.1 a ha)
          unfold FitA
          omega)
        clear hc1 hE hR hr
        go_wp2_with (first
          | (go_at_call 8
             (with_reducible refine (HC1.out).mono ?_)
             rintro e w2 ⟨A2, c2, rfl, hown, hm2⟩
             have HM2 := Lib.hid (HMc2.out.trans' hm2)
             have hr2 := (rd_of5 (HRl.out ▸ hown : OwnS wc.heap.size 25 2 At.cs w2 (.slice A2 R.length c2) R) At.cs_len).mono (D' := fun b => b < w2.heap.size) fun b hb => (hown.fresh b (by rw [HRl.out]; exact hb)).2
             have hc2 := achange_any A2 By c2 cy R ys w2 hr2 (HB.out w2 HM2.out) (by rw [← HRl.out]; omega) HYl.out HFr.out HFyA.out
             unfold ChgEnds at hc2
             rw [HAg.out.1, HAg.out.2, ← HRl.out, ← HNy.out] at hc2
             have HC2 := Lib.hid hc2
             have HR2 := Lib.hid hr2
             have a0w2 : w2.cell? ⟨w.heap.size, 0, none⟩ = some (.string ⟨na.toArray⟩) := by rw [hp_cell (HCa.out _ HM2.out)]; rfl
             have a1w2 : w2.cell? ⟨w.heap.size, 1, none⟩ = some (.slice A n c) := by rw [hp_cell (HCa.out _ HM2.out)]; rfl
             have a1w2z : w2.cell? ⟨w.heap.size, 0 + 1, none⟩ = some (.slice A n c) := by rw [hp_cell (HCa.out _ HM2.out)]; rfl
             have b0w2 : w2.cell? ⟨w.heap.size + 1, 0, none⟩ = some (.string ⟨nb.toArray⟩) := by rw [hp_cell (HCb.out _ HM2.out)]; rfl
             have b1w2 : w2.cell? ⟨w.heap.size + 1, 1, none⟩ = some (.slice By m cy) := by rw [hp_cell (HCb.out _ HM2.out)]; rfl
             have b1w2z : w2.cell? ⟨w.heap.size + 1, 0 + 1, none⟩ = some (.slice By m cy) := by rw [hp_cell (HCb.out _ HM2.out)]; rfl
             clear hm2 hown hr2 hc2)
          | (go_at_call 8
             (with_reducible refine (HC2.out).mono ?_)
             rintro e w3 ⟨A3, c3, rfl, hown, hm3⟩
             have HM3 := Lib.hid (HM2.out.trans' hm3)
             have hr3 := (rd_of5 (HRl.out ▸ hown : OwnS w2.heap.size 25 2 At.cs w3 (.slice A3 R.length c3) R) At.cs_len).mono (D' := fun b => b < w3.heap.size) fun b hb => (hown.fresh b (by rw [HRl.out]; exact hb)).2
             have hr23 := (HR2.out.keep (hm3.agree fun b hb => ⟨hb, id⟩)).mono (D' := fun b => b < w3.heap.size) fun b hb => Nat.lt_of_lt_of_le hb hm3.size
             have hsa := sameAttrs_any _ _ A2 A3 c2 c3 R R w3 hr23 hr3 (by unfold maxLen; rw [← HRl.out]; omega) (by unfold maxLen; rw [← HRl.out]; omega) (fun b hb => hb) (fun b hb => hb)
             rw [decide_eq_true rfl, ← HRl.out] at hsa
             have HSa := Lib.hid hsa
             have HR3 := Lib.hid hr23
             clear hm3 hown hr3 hr23 hsa)
          | (go_at_call 20
             (with_reducible refine (HSa.out).mono ?_)
             rintro e w4 ⟨rfl, hm4⟩
             have HM4 := Lib.hid (HM3.out.trans' hm4)
             have hr4 := (HR3.out.keep (hm4.agree fun b hb => ⟨hb, id⟩)).mono (D' := fun b => b < w4.heap.size) fun b hb => Nat.lt_of_lt_of_le hb hm4.size
             have hmy := emays_any A2 c2 R w4 hr4 (by rw [← HRl.out]; omega) HFr.out
             rw [HMay.out, ← HRl.out] at hmy
             have HMyR := Lib.hid hmy
             have HR4 := Lib.hid hr4
             clear hm4 hmy hr4)
          | (go_at_call 11
             (with_reducible refine (HMyR.out).mono ?_)
             rintro e w5 ⟨rfl, hm5⟩
             have HM5 := Lib.hid (HM4.out.trans' hm5)
             have HR5 := Lib.hid ((HR4.out.keep (hm5.agree fun b hb => ⟨hb, id⟩)).mono (D' := fun b => b < w5.heap.size) fun b hb => Nat.lt_of_lt_of_le hb hm5.size)
             clear hm5)
          | (go_at_call 12; refine (HNum.out _ _).mono ?_; rintro e w' ⟨rfl, rfl⟩)
          | fail)
        have HRR := Lib.hid (fun X (hX : Mod (fun _ => False) w5 X) => (HR5.out.keep (hX.agree fun b hb => ⟨hb, id⟩)).mono (D' := fun b => b < X.heap.size) fun b hb => Nat.lt_of_lt_of_le hb hX.size)
        go_loopw [21] (fun i wr => ∃ k : Nat, k ≤ m ∧ i = .int .i64 k ∧ Mod (fun _ => False) w5 wr) (fun i _ => m - (intOf i).toNat)
        case atStart => exact ⟨0, Nat.zero_le _, rfl, Mod.refl _ _⟩
        case round =>
          obtain ⟨k, hk, rfl, hmr⟩ := hrel
          have HMR := Lib.hid hmr
          have HMW := Lib.hid (HM5.out.trans' hmr)
          have a0wr : wr.cell? ⟨w.heap.size, 0, none⟩ = some (.string ⟨na.toArray⟩) := by rw [hp_cell (HCa.out _ HMW.out)]; rfl
          have a1wr : wr.cell? ⟨w.heap.size, 1, none⟩ = some (.slice A n c) := by rw [hp_cell (HCa.out _ HMW.out)]; rfl
          have a1wrz : wr.cell? ⟨w.heap.size, 0 + 1, none⟩ = some (.slice A n c) := by rw [hp_cell (HCa.out _ HMW.out)]; rfl
          have b0wr : wr.cell? ⟨w.heap.size + 1, 0, none⟩ = some (.string ⟨nb.toArray⟩) := by rw [hp_cell (HCb.out _ HMW.out)]; rfl
          have b1wr : wr.cell? ⟨w.heap.size + 1, 1, none⟩ = some (.slice By m cy) := by rw [hp_cell (HCb.out _ HMW.out)]; rfl
          have b1wrz : wr.cell? ⟨w.heap.size + 1, 0 + 1, none⟩ = some (.slice By m cy) := by rw [hp_cell (HCb.out _ HMW.out)]; rfl
          clear hmr
          by_cases hkm : k < m
          · have hky : k < ys.length := by rw [← HNy.out]; exact hkm
            obtain ⟨g2, o2, rfl, -, q0, q1⟩ := rd2 (HB.out _ HMW.out) hky
            obtain ⟨y, hy⟩ : ∃ y, y = ys[k] := ⟨_, rfl⟩
            rw [← hy] at q0 q1
            have hin : decide (y ∈ R) = !decide (y.V = []) := by rw [HR.out]; exact chg_has xs ys (by rw [hy]; exact List.getElem_mem hky)
            have hh := fun X (hX : Mod (fun _ => False) wr X) => ehas_any _ A2 c2 R y X (HRR.out X (HMR.out.trans' hX)) (fun b hb => hb) (by unfold maxLen; rw [← HRl.out]; omega)
            rw [← HRl.out] at hh
            have e1 := cell_regrown b1wr
            have e0 := cell_regrown q0
            have e2 := cell_regrown q1
            clear hy
            obtain ⟨yT, yV⟩ := y
            have hin : decide ((⟨yT, yV⟩ : At) ∈ R) = !decide (yV = []) := hin
            unfold At.val at hh
            by_cases hv : yV = []
            · subst hv
              rw [show (!decide (([] : Bs) = [])) = false from rfl] at hin
              rw [hin] at hh
              have HH := Lib.hid hh
              clear hh hin q0 q1
              go_wp2
              refine wp_region_quiet_below (by kernel_rfl) (by kernel_rfl) ?_
              repeat (go_big_quiet_step ((first
                | (go_at_call 21; with_reducible exact regM fun X hX => HH.out X hX)
                | fail)))
              refine wpQuiet_nil ?_
              intro W1 hW1
              have HR1 := Lib.hid (mod_of_regrown hW1)
              clear hW1 e0 e1 e2
              go_wp2
              exact ⟨⟨k + 1, by omega, by go_num, HMR.out.trans' HR1.out⟩, by simp only [intOf]; omega⟩
            · rw [show (!decide (yV = [])) = true by simp [hv]] at hin
              rw [hin] at hh
              have hne : (yV != ([] : Bs)) = true := by simpa using hv
              have hne2 : yV.isEmpty = false := by cases yV with | nil => exact absurd rfl hv | cons a l => rfl
              have hne3 : (yV == ([] : Bs)) = false := by simpa using hv
              have HH := Lib.hid hh
              clear hh hin q0 q1 hv
              go_wp2
              refine wp_region_quiet_below (by kernel_rfl) (by kernel_rfl) ?_
              repeat (go_big_quiet_step ((first
                | (go_at_call 21; with_reducible exact regM fun X hX => HH.out X hX)
                | fail)))
              refine wpQuiet_nil ?_
              intro W1 hW1
              have HR1 := Lib.hid (mod_of_regrown hW1)
              clear hW1 e0 e1 e2
              go_wp2
              exact ⟨⟨k + 1, by omega, by go_num, HMR.out.trans' HR1.out⟩, by simp only [intOf]; omega⟩
          · go_wp2
            clear hkm
            go_loopw [22] (fun i wq => ∃ j : Nat, j ≤ r ∧ i = .int .i64 j ∧ Mod (fun _ => False) wr wq) (fun i _ => r - (intOf i).toNat)
            case atStart => exact ⟨0, Nat.zero_le _, rfl, Mod.refl _ _⟩
            case round =>
              obtain ⟨wq, rfl⟩ : ∃ wq : World, wq = wr := ⟨_, rfl⟩
              obtain ⟨j, hj, rfl, hmq⟩ := hrel
              have HMQ := Lib.hid (HMR.out.trans' hmq)
              have HMq := Lib.hid hmq
              have HMV := Lib.hid (HMW.out.trans' hmq)
              have a0wq : wq.cell? ⟨w.heap.size, 0, none⟩ = some (.string ⟨na.toArray⟩) := by rw [hp_cell (HCa.out _ HMV.out)]; rfl
              have a1wq : wq.cell? ⟨w.heap.size, 1, none⟩ = some (.slice A n c) := by rw [hp_cell (HCa.out _ HMV.out)]; rfl
              have a1wqz : wq.cell? ⟨w.heap.size, 0 + 1, none⟩ = some (.slice A n c) := by rw [hp_cell (HCa.out _ HMV.out)]; rfl
              have b0wq : wq.cell? ⟨w.heap.size + 1, 0, none⟩ = some (.string ⟨nb.toArray⟩) := by rw [hp_cell (HCb.out _ HMV.out)]; rfl
              have b1wq : wq.cell? ⟨w.heap.size + 1, 1, none⟩ = some (.slice By m cy) := by rw [hp_cell (HCb.out _ HMV.out)]; rfl
              have b1wqz : wq.cell? ⟨w.heap.size + 1, 0 + 1, none⟩ = some (.slice By m cy) := by rw [hp_cell (HCb.out _ HMV.out)]; rfl
              clear hmq
              by_cases hjr : j < r
              · have hjR : j < R.length := by rw [← HRl.out]; exact hjr
                obtain ⟨g3, o3, rfl, -, p0, p1⟩ := rd2 (HRR.out _ HMQ.out) hjR
                obtain ⟨x, hx⟩ : ∃ x, x = R[j] := ⟨_, rfl⟩
                rw [← hx] at p0 p1
                have hxm : x ∈ chgA xs ys := by rw [← HR.out, hx]; exact List.getElem_mem hjR
                have HTy := Lib.hid (chg_typed hxm)
                have HP0 := Lib.hid (fun X (hX : Mod (fun _ => False) wq X) => (hX.cell (p := ⟨g3, o3 + j * 2, none⟩) (World.block_lt_of_cell? wq _ p0) id).trans p0)
                have HP1 := Lib.hid (fun X (hX : Mod (fun _ => False) wq X) => (hX.cell (p := ⟨g3, o3 + j * 2 + 1, none⟩) (World.block_lt_of_cell? wq _ p1) id).trans p1)
                clear hx hxm p0 p1
                go_wp2
                go_loopw [23, 24] (fun tv jv wx => ∃ i : Nat, i ≤ m ∧ tv = .bool (tyIn (ys.take i) x) ∧ jv = .int .i64 i ∧ Mod (fun _ => False) wq wx) (fun _ jv _ => m - (intOf jv).toNat)
                case atStart => exact ⟨0, Nat.zero_le _, rfl, rfl, Mod.refl _ _⟩
                case round =>
                  obtain ⟨wx, rfl⟩ : ∃ wx : World, wx = wr := ⟨_, rfl⟩
                  obtain ⟨i, hi, rfl, rfl, hmx⟩ := hrel
                  have HMX := Lib.hid (HMV.out.trans' hmx)
                  have HMx' := Lib.hid hmx
                  have a0wx : wx.cell? ⟨w.heap.size, 0, none⟩ = some (.string ⟨na.toArray⟩) := by rw [hp_cell (HCa.out _ HMX.out)]; rfl
                  have a1wx : wx.cell? ⟨w.heap.size, 1, none⟩ = some (.slice A n c) := by rw [hp_cell (HCa.out _ HMX.out)]; rfl
                  have a1wxz : wx.cell? ⟨w.heap.size, 0 + 1, none⟩ = some (.slice A n c) := by rw [hp_cell (HCa.out _ HMX.out)]; rfl
                  have b0wx : wx.cell? ⟨w.heap.size + 1, 0, none⟩ = some (.string ⟨nb.toArray⟩) := by rw [hp_cell (HCb.out _ HMX.out)]; rfl
                  have b1wx : wx.cell? ⟨w.heap.size + 1, 1, none⟩ = some (.slice By m cy) := by rw [hp_cell (HCb.out _ HMX.out)]; rfl
                  have b1wxz : wx.cell? ⟨w.heap.size + 1, 0 + 1, none⟩ = some (.slice By m cy) := by rw [hp_cell (HCb.out _ HMX.out)]; rfl
                  have p0 := HP0.out _ hmx
                  have p1 := HP1.out _ hmx
                  clear hmx
                  obtain ⟨tz, htz⟩ : ∃ z, z = tyIn (ys.take i) x := ⟨_, rfl⟩
                  rw [← htz]
                  by_cases him : i < m
                  · have hiy : i < ys.length := by rw [← HNy.out]; exact him
                    obtain ⟨g2, o2, rfl, -, q0, q1⟩ := rd2 (HB.out _ HMX.out) hiy
                    have hnx := tyIn_take ys x i hiy
                    obtain ⟨y, hy⟩ : ∃ y, y = ys[i] := ⟨_, rfl⟩
                    rw [← hy] at q0 q1 hnx
                    rw [← htz] at hnx
                    have HNxt := Lib.hid hnx
                    clear hy htz hnx
                    cases tz
                    · have hyx : (y.T == x.T) = decide (x.T = y.T) := by
                        rw [Bool.eq_iff_iff]
                        simp only [beq_iff_eq, decide_eq_true_eq]
                        exact ⟨fun h => h.symm, fun h => h.symm⟩
                      obtain ⟨d, hd⟩ : ∃ d, d = decide (x.T = y.T) := ⟨_, rfl⟩
                      rw [← hd] at hyx
                      have HD := Lib.hid hd
                      clear hd
                      go_wp2
                      go_quiet (fail)
                      go_wp2
                      exact ⟨⟨i + 1, by omega, by rw [HNxt.out, HD.out]; rfl, by go_num, HMx'.out.trans' ((Mod.refl _ wx).drewN nq)⟩, by simp only [intOf]; omega⟩
                    · go_wp2
                      go_quiet (fail)
                      go_wp2
                      exact ⟨⟨i + 1, by omega, by rw [HNxt.out]; rfl, by go_num, HMx'.out.trans' ((Mod.refl _ wx).drewN nq)⟩, by simp only [intOf]; omega⟩
                  · have hte : tz = tyIn ys x := by rw [htz, List.take_of_length_le (by rw [← HNy.out]; omega)]
                    clear htz
                    have f1 := cell_regrown a1wx
                    have f2 := cell_regrown b1wx
                    have f3 := cell_regrown p0
                    have f4 := cell_regrown p1
                    cases tz
                    · have hmem : decide (x ∈ xs) = true := decide_eq_true (HTy.out.2 hte.symm)
                      have hh := fun X (hX : Mod (fun _ => False) wx X) => has_any _ A c xs x X (HA.out X (HMX.out.trans' hX)) (by have := HXl.out; unfold maxLen; omega) (fun b hb => hb)
                      rw [hmem, ← HNx.out] at hh
                      unfold At.val at hh
                      have HH := Lib.hid hh
                      clear hh hmem hte p0 p1
                      go_wp2
                      refine wp_region_quiet_below (by kernel_rfl) (by kernel_rfl) ?_
                      repeat (go_big_quiet_step ((first
                        | (go_at_call 22; with_reducible exact regM fun X hX => HH.out X hX)
                        | fail)))
                      refine wpQuiet_nil ?_
                      intro W1 hW1
                      have HR1 := Lib.hid (mod_of_regrown hW1)
                      clear hW1 f1 f2 f3 f4
                      go_wp2
                      exact ⟨⟨j + 1, by omega, by go_num, HMq.out.trans' (HMx'.out.trans' HR1.out)⟩, by simp only [intOf]; omega⟩
                    · have hmem : decide (x ∈ ys) = true := decide_eq_true (HTy.out.1 hte.symm)
                      have hh := fun X (hX : Mod (fun _ => False) wx X) => has_any _ By cy ys x X (HB.out X (HMX.out.trans' hX)) (by have := HYl.out; unfold maxLen; omega) (fun b hb => hb)
                      rw [hmem, ← HNy.out] at hh
                      unfold At.val at hh
                      have HH := Lib.hid hh
                      clear hh hmem hte p0 p1
                      go_wp2
                      refine wp_region_quiet_below (by kernel_rfl) (by kernel_rfl) ?_
                      repeat (go_big_quiet_step ((first
                        | (go_at_call 22; with_reducible exact regM fun X hX => HH.out X hX)
                        | fail)))
                      refine wpQuiet_nil ?_
                      intro W1 hW1
                      have HR1 := Lib.hid (mod_of_regrown hW1)
                      clear hW1 f1 f2 f3 f4
                      go_wp2
                      exact ⟨⟨j + 1, by omega, by go_num, HMq.out.trans' (HMx'.out.trans' HR1.out)⟩, by simp only [intOf]; omega⟩
              · clear hj
                go_wp2
                go_ret
                exact ⟨rfl, HM0.out.trans' HMV.out⟩
      · have hE0 : ¬ ((chgE xs ys : Nat) : Int) = 0 := by omega
        obtain ⟨E, hEE⟩ : ∃ E : Nat, E = chgE xs ys := ⟨_, rfl⟩
        obtain ⟨r, hr⟩ : ∃ r, r = (chgR xs ys).length := ⟨_, rfl⟩
        rw [← hEE] at hE0
        rw [← hEE, ← hr] at hc1
        have hE1 : (((E : Nat) : Int) == 0) = false := by rw [beq_eq_false_iff_ne]; exact hE0
        have hE2 : (((E : Nat) : Int) != 0) = true := by rw [bne_iff_ne]; exact hE0
        have HC1 := Lib.hid hc1
        clear hc1 hE hEE hr
        go_wp2_with (first
          | (go_at_call 8
             (with_reducible refine (HC1.out).mono ?_)
             rintro e w2 ⟨A2, c2, rfl, -, hm2⟩
             have HM2 := Lib.hid (HMc2.out.trans' hm2)
             clear hm2)
          | (go_at_call 12; refine (HNum.out _ _).mono ?_; rintro e w' ⟨rfl, rfl⟩)
          | fail)
        go_ret
        exact ⟨rfl, HM0.out.trans' HM2.out⟩
end Go.Proofs.Ytccnkcaagigceaa
