/-
  The law EntryBytes: its walk.
-/
import Derived.Test.YtccnkcaagigceaaGreatEntryYf
import Derived.Test.YtccnkcaagigceaaGreatEntryN
import Derived.Test.YtccnkcaagigceaaGreatEntryD
import Derived.Test.YtccnkcaagigceaaGreatRefH
import Derived.Test.YtccnkcaagigceaaGreatRefJ
namespace Go.Proofs.YtccnkcaagigceaaGreat
open Go.RowKit Go.Shelf
attribute [local go_sem] Oper.semAt_some

theorem few_len {xs : List At} (h : Few xs) : (attrsV xs).length ≤ 15 * xs.length + totB xs := by
  have hf := h.fit
  clear h
  revert hf
  induction xs using snoc_ind with
  | h0 => intro _; simp [attrsV]
  | hs l x ih =>
    intro hf
    have h1 := ih fun a ha => hf a (List.mem_append.2 (.inl ha))
    have h2 := hf x (List.mem_append.2 (.inr (by simp)))
    rw [totB_snoc]
    have e : attrsV (l ++ [x]) = attrsV l ++ attrV x := by unfold attrsV; rw [List.flatMap_append]; simp
    rw [e, List.length_append, attrV_len, List.length_append]
    unfold mB
    simp only [List.length_cons, List.length_nil]
    omega
theorem takeA_all {t : UInt8} (ht : t ≠ 0) {l : List At} (hb : (attrsV l).length ≤ 4194304) (hf : ∀ a ∈ l, Fits a) : takeA t (valV t (attrsV l)) = if mayAs l = true then some (l, []) else none := by
  have h := takeV_val (t := t) (b := attrsV l) ht hb []
  rw [List.append_nil] at h
  exact takeA_y h (attrsP_enc l _ (Nat.le_refl _) hf)
theorem bytes0 {t : UInt8} {x : Bs} (ht : t ≠ 0) (hx : x.length ≤ 4194304) : Wt.bytes ⟨[], 0⟩ t x = ⟨valV t x, 0⟩ := (Wt.bytes_ok [] ht hx).trans (by simp)
theorem put_mod {w0 w6 W7 w8 : World} (h6 : Mod (fun _ => False) w0 w6) (h7 : Mod (fun _ => False) w0 W7) (h8 : Mod (fun b => b = w6.heap.size ∨ w6.heap.size < b) W7 w8) : Mod (fun _ => False) w0 w8 :=
  h7.trans h8 fun b hb => .inr (by have := h6.size; rcases hb with hb | hb <;> omega)
theorem mayE_as {nm : Bs} {xs : List At} (h : mayE nm xs = true) : mayAs xs = true := by
  unfold mayE at h
  rw [Bool.and_eq_true] at h
  exact h.2
set_option maxRecDepth 100000 in
set_option maxHeartbeats 16000000 in
theorem entryBytes_any (na : Bs) (A : Option Addr) (c : Nat) (xs : List At) (Ac : Option Addr) (cc : Nat) (s : Bs) (t : UInt8) (w : World) (hA : Rd (fun b => b < w.heap.size) w 2 At.cs A xs) (hS : Rd (fun b => b < w.heap.size) w 1 csU Ac s)
    (hlx : xs.length ≤ maxLen) (hna : na.length ≤ 9223372036854775807) (hls : s.length ≤ maxLen) (hcc : s.length ≤ cc) :
    Calls Tryz.prog 3 #[.agg #[.string ⟨na.toArray⟩, .slice A xs.length c], .slice Ac s.length cc, .int .u8 (t.toNat : Int)] w fun e w' => e = .returned (.bool true) ∧ Mod (fun _ => False) w w' := by
  unfold maxLen at hls
  have HK := Lib.hid (fun X => known_any X)
  have hFx := kat1 xs
  obtain ⟨n, hn⟩ : ∃ n, n = xs.length := ⟨_, rfl⟩
  obtain ⟨q, hq⟩ : ∃ q, q = s.length := ⟨_, rfl⟩
  obtain ⟨w0, hw0⟩ : ∃ w0, w0 = w.alloc (.cells #[.string ⟨na.toArray⟩, .slice A n c] 24) := ⟨_, rfl⟩
  have hm0 : Mod (fun _ => False) w w0 := by rw [hw0]; (repeat' (first | exact Mod.refl _ _ | assumption | refine Mod.alloc ?_ _ | refine Mod.drew ?_ | refine Mod.drewN ?_ _ | refine Mod.setCell ?_ (by first | exact Or.inl rfl | (right; simp; done) | (right; simp; omega) | (left; simp; done)) _))
  have ha0 : w0.heap[w.heap.size]? = some (.cells #[.string ⟨na.toArray⟩, .slice A n c] 24 (0, 0)) := by rw [hw0]; exact hp_new _ _
  have HA := Lib.hid (fun X (hX : Mod (fun _ => False) w0 X) => (hA.mod (hm0.trans' hX) (fun b hb => ⟨hb, id⟩)).mono (D' := fun b => b < X.heap.size) fun b hb => Nat.lt_of_lt_of_le hb (hm0.trans' hX).size)
  have HS := Lib.hid (fun X (hX : Mod (fun _ => False) w0 X) => (hS.mod (hm0.trans' hX) (fun b hb => ⟨hb, id⟩)).mono (D' := fun b => b < X.heap.size) fun b hb => Nat.lt_of_lt_of_le hb (hm0.trans' hX).size)
  have hc := fun X (hX : Mod (fun _ => False) w0 X) => (show X.cell? ⟨w.heap.size, 0, none⟩ = some (.string ⟨na.toArray⟩) ∧ X.cell? ⟨w.heap.size, 1, none⟩ = some (.slice A n c) ∧ X.cell? ⟨w.heap.size, 0 + 1, none⟩ = some (.slice A n c) from ⟨by rw [hp_cell (hp_mod ha0 hX id)]; rfl, by rw [hp_cell (hp_mod ha0 hX id)]; rfl, by rw [hp_cell (hp_mod ha0 hX id)]; rfl⟩)
  have HC := Lib.hid hc
  have HMx := Lib.hid (fun X (hX : Mod (fun _ => False) w0 X) => rmuch_any A c xs X (HA.out X hX) hlx)
  obtain ⟨z1, hz1⟩ : ∃ z, z = muchB xs := ⟨_, rfl⟩
  rw [← hn] at HMx ⊢
  rw [← hq] at hls hcc ⊢
  rw [← hz1] at HMx hFx
  have HM0 := Lib.hid hm0
  have HW0 := Lib.hid hw0
  have HNx := Lib.hid hn
  have HNs := Lib.hid hq
  have HFx := Lib.hid hFx
  have HNum := Lib.hid (fun k X => num_any k X)
  have HNa := Lib.hid hna
  have HCc := Lib.hid hcc
  obtain ⟨x0, x1, x1'⟩ := HC.out _ (Mod.refl _ _)
  rw [hw0] at x0 x1 x1'
  clear hn hq hz1 hA hS hlx hm0 ha0 hFx hw0 hc hna hcc
  by_cases ha9 : 9000 < na.length
  · have e1 : decide ((9000 : Int) < (na.length : Int)) = true := by rw [decide_eq_true_eq]; omega
    clear ha9
    go_enter Tryz.func3, Tryz.ntmps3
    go_wp2_with (first
      | (go_at_call 5
         (with_reducible refine (HK.out _).mono ?_)
         rintro e wk ⟨rfl, hmk⟩
         first | rw [← HW0.out] at hmk | skip
         have HMk := Lib.hid hmk
         clear hmk)
      | fail)
    go_ret
    exact ⟨rfl, HM0.out.trans' HMk.out⟩
  have ea : decide ((9000 : Int) < (na.length : Int)) = false := by rw [decide_eq_false_iff_not]; omega
  cases z1
  case' true =>
    go_enter Tryz.func3, Tryz.ntmps3
    go_wp2_with (first
      | (go_at_call 4
         rw [← HW0.out]
         (with_reducible refine (HMx.out _ (Mod.refl _ _)).mono ?_)
         rintro e w1 ⟨rfl, hm1⟩
         have HM1 := Lib.hid hm1
         obtain ⟨c0w1, c1w1, c2w1⟩ := HC.out w1 hm1
         clear hm1)
      | (go_at_call 5
         (with_reducible refine (HK.out _).mono ?_)
         rintro e wk ⟨rfl, hmk⟩
         first | rw [← HW0.out] at hmk | skip
         have HMk := Lib.hid hmk
         clear hmk)
      | fail)
    go_ret
    exact ⟨rfl, HM0.out.trans' (HM1.out.trans' HMk.out)⟩
  by_cases hq9 : 20000 < q
  · have e1 : decide ((20000 : Int) < (q : Int)) = true := by rw [decide_eq_true_eq]; omega
    clear hq9
    go_enter Tryz.func3, Tryz.ntmps3
    go_wp2_with (first
      | (go_at_call 4
         rw [← HW0.out]
         (with_reducible refine (HMx.out _ (Mod.refl _ _)).mono ?_)
         rintro e w1 ⟨rfl, hm1⟩
         have HM1 := Lib.hid hm1
         obtain ⟨c0w1, c1w1, c2w1⟩ := HC.out w1 hm1
         clear hm1)
      | (go_at_call 5
         (with_reducible refine (HK.out _).mono ?_)
         rintro e wk ⟨rfl, hmk⟩
         first | rw [← HW0.out] at hmk | skip
         have HMk := Lib.hid hmk
         clear hmk)
      | fail)
    go_ret
    exact ⟨rfl, HM0.out.trans' (HM1.out.trans' HMk.out)⟩
  have ec : decide ((20000 : Int) < (q : Int)) = false := by rw [decide_eq_false_iff_not]; omega
  by_cases ht : t = 0
  · have ht1 : ((t.toNat : Int) == 0) = true := by rw [ht]; rfl
    clear ht
    go_enter Tryz.func3, Tryz.ntmps3
    go_wp2_with (first
      | (go_at_call 4
         rw [← HW0.out]
         (with_reducible refine (HMx.out _ (Mod.refl _ _)).mono ?_)
         rintro e w1 ⟨rfl, hm1⟩
         have HM1 := Lib.hid hm1
         obtain ⟨c0w1, c1w1, c2w1⟩ := HC.out w1 hm1
         clear hm1)
      | (go_at_call 5
         (with_reducible refine (HK.out _).mono ?_)
         rintro e wk ⟨rfl, hmk⟩
         first | rw [← HW0.out] at hmk | skip
         have HMk := Lib.hid hmk
         clear hmk)
      | fail)
    go_ret
    exact ⟨rfl, HM0.out.trans' (HM1.out.trans' HMk.out)⟩
  have ht1 : ((t.toNat : Int) == 0) = false := by
    rw [beq_eq_false_iff_ne]; intro e; exact ht (UInt8.toNat_inj.1 (by show t.toNat = 0; omega))
  have hfx := HFx.out rfl
  have hxl : xs.length ≤ 1099511627776 := by have := hfx.1; omega
  have hal : (attrsV xs).length ≤ 30000 := by have := few_len hfx; have := hfx.1; have := hfx.2; omega
  have HXl := Lib.hid hxl
  have HAl := Lib.hid hal
  have HFit := Lib.hid (show ∀ a ∈ xs, a.T.length + a.V.length ≤ 4194294 from fun a ha => by have := hfx.fit a ha; omega)
  have HFxA := Lib.hid hfx.fitA
  have HT := Lib.hid ht
  have hBx := fun X (hX : Mod (fun _ => False) w0 X) => (ebytes_any na A c xs X HNa.out (HA.out X hX) hxl hfx.fitA).mono fun _ _ h => byt_uni h
  unfold BytU at hBx
  obtain ⟨f1, hf1⟩ : ∃ z, z = bytF na xs := ⟨_, rfl⟩
  obtain ⟨x1b, hx1b⟩ : ∃ z, z = bytX na xs := ⟨_, rfl⟩
  rw [← HNx.out, ← hf1, ← hx1b] at hBx
  have HBx := Lib.hid hBx
  have HF1 := Lib.hid hf1
  have HX1 := Lib.hid hx1b
  obtain ⟨qv, hqv⟩ : ∃ z, z = valV t (attrsV xs) := ⟨_, rfl⟩
  have HQv := Lib.hid hqv
  have HQl := Lib.hid (show qv.length ≤ 1099511627776 by rw [hqv, valV_len]; omega)
  have HNa9 := Lib.hid (show na.length ≤ 9000 by omega)
  clear hBx hxl hal hfx ht hf1 hx1b hqv ha9
  cases ho : ofE s with
  | none =>
    have HO := Lib.hid ho
    clear ho
    go_enter Tryz.func3, Tryz.ntmps3
    go_upto_if 72 with (first
      | (go_at_call 4
         rw [← HW0.out]
         (with_reducible refine (HMx.out _ (Mod.refl _ _)).mono ?_)
         rintro e w1 ⟨rfl, hm1⟩
         have HM1 := Lib.hid hm1
         obtain ⟨c0w1, c1w1, c2w1⟩ := HC.out w1 hm1
         clear hm1)
      | (go_at_call 6
         (with_reducible refine (HBx.out w1 HM1.out).mono ?_)
         rintro e w2 ⟨A2, c2, k2, rfl, hk2, hr2, hm2⟩
         have HM02 := Lib.hid (HM1.out.trans' hm2)
         have HC := Lib.hid (fun X (hX : Mod (fun _ => False) w2 X) => HC.out X (HM02.out.trans' hX))
         have HA := Lib.hid (fun X (hX : Mod (fun _ => False) w2 X) => HA.out X (HM02.out.trans' hX))
         have HS := Lib.hid (fun X (hX : Mod (fun _ => False) w2 X) => HS.out X (HM02.out.trans' hX))
         have HM2 := Lib.hid (Mod.refl (fun _ => False) w2)
         have HK2 := Lib.hid hk2
         have HR2 := Lib.hid hr2
         obtain ⟨c0w2, c1w2, c2w2⟩ := HC.out w2 HM2.out
         have hof := eof_any _ Ac cc s w2 (HS.out w2 HM2.out) (by rw [← HNs.out]; omega)
         unfold OfEnds at hof
         rw [← HNs.out] at hof
         have HOf := Lib.hid hof
         clear hm2 hk2 hr2 hof)
      | (go_at_call 7
         (with_reducible refine (HOf.out).mono ?_)
         rintro e w3 ⟨he3, hm3⟩
         rw [HO.out] at he3
         subst he3
         obtain ⟨W3, hW3⟩ : ∃ W3, W3 = w3.alloc (.cells #[.string ⟨#[]⟩, .slice none 0 0] 24) := ⟨_, rfl⟩
         have hm3' : Mod (fun _ => False) w3 W3 := by rw [hW3]; (repeat' (first | exact Mod.refl _ _ | assumption | refine Mod.alloc ?_ _ | refine Mod.drew ?_ | refine Mod.drewN ?_ _ | refine Mod.setCell ?_ (by first | exact Or.inl rfl | (right; simp; done) | (right; simp; omega) | (left; simp; done)) _))
         have HM3 := Lib.hid ((HM2.out.trans' hm3).trans' hm3')
         have hb3 : W3.heap[w3.heap.size]? = some (.cells #[.string ⟨#[]⟩, .slice none 0 0] 24 (0, 0)) := by rw [hW3]; exact hp_new _ _
         have hgo := gof_any _ Ac cc s W3 (HS.out W3 HM3.out) (by rw [← HNs.out]; omega) (by rw [← HNs.out]; exact HCc.out)
         unfold GOfEnds at hgo
         rw [← HNs.out] at hgo
         have HB3 := Lib.hid hb3
         rw [hW3] at hgo
         have HGo := Lib.hid hgo
         have HW3 := Lib.hid hW3
         clear hm3 hm3' hb3 hgo hW3)
      | (go_at_call 8
         (with_reducible refine (HGo.out).mono ?_)
         rintro e w4 ⟨nm4, l4, A4, c4, k4, z4, rfl, hk4, hr4, hy4, hf4, hm4⟩
         have hz4 : z4 = false := by
           cases z4
           · rfl
           · have := hy4 rfl
             rw [HO.out] at this
             cases this
         subst hz4
         obtain ⟨-, rfl, rfl⟩ := hf4 rfl
         rw [← HW3.out] at hm4
         have HM4 := Lib.hid (HM3.out.trans' hm4)
         have hb4 := hp_mod HB3.out hm4 id
         obtain rfl : k4 = 0 := hk4
         obtain ⟨W4, hW4⟩ : ∃ W4, W4 = w4.alloc (.cells #[.string ⟨#[]⟩, .slice A4 0 c4] 24) := ⟨_, rfl⟩
         have hm5 : Mod (fun _ => False) w4 W4 := by rw [hW4]; (repeat' (first | exact Mod.refl _ _ | assumption | refine Mod.alloc ?_ _ | refine Mod.drew ?_ | refine Mod.drewN ?_ _ | refine Mod.setCell ?_ (by first | exact Or.inl rfl | (right; simp; done) | (right; simp; omega) | (left; simp; done)) _))
         have HM5 := Lib.hid (HM4.out.trans' hm5)
         have hsm := rsame_any [] [] none A4 0 c4 [] [] W4 (Rd.nil _ _ _ _ _) (Rd.nil _ _ _ _ _) (by simp [maxLen]) (by simp [maxLen])
         rw [show sameE [] [] [] [] = true from rfl, show ([] : List At).length = 0 from rfl] at hsm
         have HSm := Lib.hid hsm
         rw [hW4] at HSm
         have hb5 := hp_mod hb4 hm5 id
         have hv5 : W4.heap[w4.heap.size]? = some (.cells #[.string ⟨#[]⟩, .slice A4 0 c4] 24 (0, 0)) := by rw [hW4]; exact hp_new _ _
         have b0 : W4.cell? ⟨w3.heap.size, 0, none⟩ = some (.string ⟨#[]⟩) := by rw [hp_cell hb5]; rfl
         have b1 : W4.cell? ⟨w3.heap.size, 1, none⟩ = some (.slice none 0 0) := by rw [hp_cell hb5]; rfl
         have b1' : W4.cell? ⟨w3.heap.size, 0 + 1, none⟩ = some (.slice none 0 0) := by rw [hp_cell hb5]; rfl
         have v0 : W4.cell? ⟨w4.heap.size, 0, none⟩ = some (.string ⟨#[]⟩) := by rw [hp_cell hv5]; rfl
         have v1 : W4.cell? ⟨w4.heap.size, 1, none⟩ = some (.slice A4 0 c4) := by rw [hp_cell hv5]; rfl
         have v1' : W4.cell? ⟨w4.heap.size, 0 + 1, none⟩ = some (.slice A4 0 c4) := by rw [hp_cell hv5]; rfl
         rw [hW4] at HM5 b0 b1 b1' v0 v1 v1'
         clear hb5 hv5
         clear hy4 hf4 hr4 hm4 hb4 hm5 hsm hW4)
      | (go_at_call 9
         (with_reducible refine (HSm.out).mono ?_)
         rintro e w6 ⟨rfl, hm6⟩
         have HM6 := Lib.hid (HM5.out.trans' hm6)
         obtain ⟨W7, hW7⟩ : ∃ W7, W7 = w6.alloc (.cells #[.slice none 0 0, .int .i64 0] 39) := ⟨_, rfl⟩
         have hm7 : Mod (fun _ => False) w6 W7 := by rw [hW7]; (repeat' (first | exact Mod.refl _ _ | assumption | refine Mod.alloc ?_ _ | refine Mod.drew ?_ | refine Mod.drewN ?_ _ | refine Mod.setCell ?_ (by first | exact Or.inl rfl | (right; simp; done) | (right; simp; omega) | (left; simp; done)) _))
         have hb7 : W7.heap[w6.heap.size]? = some (.cells #[.slice none 0 0, .int .i64 0] 39 (0, 0)) := by rw [hW7]; exact hp_new _ _
         have HM7 := Lib.hid (HM6.out.trans' hm7)
         obtain ⟨c0w7, c1w7, c2w7⟩ := HC.out W7 HM7.out
         have hpt := eput_any _ w6.heap.size ⟨[], 0⟩ t A c xs _ W7 (WrAt.new0 hb7) (by simp) (HA.out W7 HM7.out) (fun b hb => hb) HFit.out (Nat.le_trans HAl.out (by omega))
         rw [bytes0 HT.out (Nat.le_trans HAl.out (by omega)), ← HNx.out, ← HQv.out] at hpt
         have HPut := Lib.hid hpt
         rw [hW7] at HPut HM7 c0w7 c1w7 c2w7
         clear hm6 hm7 hb7 hpt hW7)
      | (go_at_call 10; refine (HNum.out _ _).mono ?_; rintro e w' ⟨rfl, rfl⟩)
      | fail)
    go_upto_region 11 with (first
      | (go_at_call 11
         (with_reducible refine (HPut.out).mono ?_)
         rintro e w8 ⟨⟨r8, rfl⟩, hat8, hm8⟩
         have hen := wend_any _ _ _ _ w8 hat8 HQl.out
         have HEn := Lib.hid hen
         have HM8 := Lib.hid (put_mod HM6.out HM7.out hm8)
         obtain ⟨c0w8, c1w8, c2w8⟩ := HC.out w8 HM8.out
         clear hat8 hm8 hen)
      | (go_at_call 12
         (with_reducible refine (HEn.out).mono ?_)
         rintro e w9 ⟨he9, hm9⟩
         obtain ⟨A9, c9, he9, ho9⟩ := he9
         obtain ⟨k9, hk9⟩ : ∃ k, k = qv.length := ⟨_, rfl⟩
         have he9 : e = .returned (.tuple #[.slice A9 qv.length c9, .int .i64 0]) := he9
         have ho9 : OwnS w8.heap.size 5 1 csU w9 (.slice A9 qv.length c9) qv := ho9
         rw [← hk9] at he9
         subst he9
         have HK9 := Lib.hid hk9
         have HM9 := Lib.hid (HM8.out.trans' hm9)
         have HR9 := Lib.hid ((rd_of5 ho9 csU_len).mono (D' := fun b => b < w9.heap.size) fun b hb => (ho9.fresh b hb).2)
         obtain ⟨c0w9, c1w9, c2w9⟩ := HC.out w9 HM9.out
         clear hm9 hk9 ho9)
      | fail)
    go_cut [97] (fun v wx => v = .bool false ∧ Mod (fun _ => False) w9 wx)
    case first =>
      have m0 : Mod (fun _ => False) w9 w9.drew := (Mod.refl _ _).drew
      obtain ⟨d0, d1, d2⟩ := HC.out w9.drew (HM9.out.trans' m0)
      have r9 := HR9.out.keep (m0.agree fun b hb => ⟨hb, id⟩)
      have q0 := run_str_of r9 c9
      rw [← HK9.out] at q0
      have hg := gattrs_any t A c xs w9.drew (HA.out _ (HM9.out.trans' m0)) HXl.out (Nat.le_trans HAl.out (by omega))
      rw [← HNx.out, ← HQv.out, ← HK9.out] at hg
      have HG := Lib.hid hg
      have HR9d := Lib.hid r9
      have HM0d := Lib.hid m0
      have hss : (qv != qv) = false := by simp
      clear hg r9 m0
      go_region_law (first
        | (go_simp; go_at_call 13
           (with_reducible refine HG.out.mono ?_)
           rintro e w11 ⟨A11, c11, rfl, hown, hm11⟩
           have M11 := HM0d.out.trans' hm11
           have q1 := run_str_of (HR9d.out.keep (hm11.agree fun b hb => ⟨hb, id⟩)) c9
           have q2 := run_str_of (rd_of5 hown csU_len) c11
           rw [← HK9.out] at q1 q2
           clear hown hm11)
        | (go_simp; go_at_call 10; refine (HNum.out _ _).mono ?_; rintro e w' ⟨rfl, rfl⟩)
        | fail)
      all_goals
        go_wp2_with fail
        go_meet
        exact ⟨rfl, M11⟩
    case rest =>
      obtain ⟨rfl, hmc⟩ := hcut
      have HMc := Lib.hid (HM9.out.trans' hmc)
      have htr := tread_any _ A9 c9 qv wc (HR9.out.keep (hmc.agree fun b hb => ⟨hb, id⟩)) HQl.out
      rw [← HK9.out] at htr
      have HTr := Lib.hid htr
      obtain ⟨c0wc, c1wc, c2wc⟩ := HC.out wc HMc.out
      clear hmc htr
      cases hme : mayE na xs with
      | true =>
        have HMe := Lib.hid hme
        have HMay := Lib.hid (mayE_as hme)
        clear hme
        have htk' : ∀ D p T W, RrAt D p T W qv false → Calls Tryz.prog 15 #[.pointer (some ⟨p, 0, none⟩), .int .u8 (t.toNat : Int)] W (TakeAEnds D p T W (some (xs, []))) := fun D p T W hr => by
          have h := etake_any D p T qv false t W hr HQl.out
          rw [if_neg (by decide), HQv.out, takeA_all HT.out (Nat.le_trans HAl.out (by omega)) HFit.out, if_pos HMay.out] at h
          exact h
        have HTk' := Lib.hid htk'
        clear htk'
        obtain rfl : f1 = 0 := by rw [HF1.out]; unfold bytF; rw [if_pos HMe.out]
        obtain rfl : x1b = packV na xs := by rw [HX1.out]; unfold bytX; rw [if_pos HMe.out]
        go_upto_region 20 with (first
          | (go_at_call 14
             (with_reducible refine (HTr.out).mono ?_)
             rintro e w13 ⟨p, T, D, rfl, hp13, hD13, hat13, hm13⟩
             have HM13 := Lib.hid (HMc.out.trans' hm13)
             have HTk := Lib.hid (HTk'.out _ _ _ _ hat13)
             have HP := Lib.hid (Nat.le_trans HMc.out.size hp13)
             have HPl := Lib.hid hat13.lt
             obtain ⟨c0w13, c1w13, c2w13⟩ := HC.out w13 HM13.out
             clear hp13 hat13 hm13)
          | (go_at_call 15
             (with_reducible refine (HTk.out).mono ?_)
             rintro e w14 ⟨⟨A14, c14, he14, ho14, hat14⟩, hm14⟩
             obtain ⟨k14, hk14⟩ : ∃ k, k = xs.length := ⟨_, rfl⟩
             rw [← hk14] at he14
             subst he14
             have HK14 := Lib.hid hk14
             have HM14 := Lib.hid (HM13.out.trans hm14 fun b hb => .inr (by rw [hb]; exact HP.out))
             have HR14 := Lib.hid ((rd_of5 ho14 At.cs_len).mono (D' := fun b => b < w14.heap.size) fun b hb => (ho14.fresh b hb).2)
             have HAt14 := Lib.hid hat14
             have hmy := rmays_any A c xs w14 (HA.out _ HM14.out) HXl.out HFxA.out
             rw [HMay.out, ← HNx.out] at hmy
             have HMy := Lib.hid hmy
             obtain ⟨c0w14, c1w14, c2w14⟩ := HC.out w14 HM14.out
             clear ho14 hm14 hat14 hk14 hmy)
          | (go_at_call 16
             (with_reducible refine (HMy.out).mono ?_)
             rintro e w15 ⟨rfl, hm15⟩
             have HM15 := Lib.hid (HM14.out.trans' hm15)
             have hre := rend_any _ _ _ _ _ w15 (HAt14.out.keep hm15 id fun _ _ => id)
             rw [if_neg (by simp)] at hre
             have HRe := Lib.hid hre
             have hsa := sameAttrs_any _ _ A14 A c14 c xs xs w15 (HR14.out.keep (hm15.agree fun b hb => ⟨hb, id⟩)) (HA.out _ HM15.out) (by unfold maxLen; have := HXl.out; omega) (by unfold maxLen; have := HXl.out; omega) (fun b hb => Nat.lt_of_lt_of_le hb hm15.size) (fun b hb => hb)
             rw [decide_eq_true rfl, show (Value.slice A14 xs.length c14) = .slice A14 k14 c14 by rw [HK14.out], ← HNx.out] at hsa
             have HSa := Lib.hid hsa
             clear hsa
             obtain ⟨c0w15, c1w15, c2w15⟩ := HC.out w15 HM15.out
             clear hm15 hre)
          | (go_at_call 17; (with_reducible refine HRe.out.mono ?_); rintro e w' ⟨rfl, rfl⟩)
          | (go_at_call 18
             (with_reducible refine (HSa.out).mono ?_)
             rintro e w16 ⟨rfl, hm16⟩
             have HM16 := Lib.hid (HM15.out.trans' hm16)
             have hrn := rentry_any na A c xs w16 HNa.out (HA.out _ HM16.out) HXl.out HFxA.out
             rw [HMe.out, ← HNx.out] at hrn
             have HRn := Lib.hid hrn
             clear hrn
             obtain ⟨c0w16, c1w16, c2w16⟩ := HC.out w16 HM16.out
             clear hm16)
          | (go_at_call 19
             (with_reducible refine (HRn.out).mono ?_)
             rintro e w17 ⟨rfl, hm17⟩
             have HM17 := Lib.hid (HM16.out.trans' hm17)
             obtain ⟨c0w17, c1w17, c2w17⟩ := HC.out w17 HM17.out
             clear hm17)
          | (go_at_call 10; refine (HNum.out _ _).mono ?_; rintro e w' ⟨rfl, rfl⟩)
          | fail)
        have m0 : Mod (fun _ => False) w17 w17.drew := (Mod.refl _ _).drew
        obtain ⟨d0, d1, d2⟩ := HC.out w17.drew (HM17.out.trans' m0)
        have r2 := (HR2.out.keep ((HM17.out.trans' m0).agree (fun b hb => ⟨hb, id⟩)))
        have q0 := run_str_of r2 c2
        rw [← HK2.out] at q0
        have hg := gpack_any na A c xs w17.drew (HA.out _ (HM17.out.trans' m0)) HXl.out (Nat.le_trans HAl.out (by omega)) (Nat.le_trans HNa9.out (by omega))
        rw [← HNx.out, ← HK2.out] at hg
        have HG := Lib.hid hg
        have HR2d := Lib.hid r2
        have HM0d := Lib.hid (HM17.out.trans' m0)
        have hss : (packV na xs == packV na xs) = true := by simp
        clear hg r2 m0
        go_region_law (first
          | (go_simp; go_at_call 20
             (with_reducible refine HG.out.mono ?_)
             rintro e w18 ⟨A18, c18, rfl, hown, hm18⟩
             have M18 := HM0d.out.trans' hm18
             have q1 := run_str_of (HR2d.out.keep (hm18.agree fun b hb => ⟨Nat.lt_of_lt_of_le hb HM0d.out.size, id⟩)) c2
             have q2 := run_str_of (rd_of5 hown csU_len) c18
             rw [← HK2.out] at q1 q2
             clear hown hm18)
          | (go_simp; go_at_call 10; refine (HNum.out _ _).mono ?_; rintro e w' ⟨rfl, rfl⟩)
          | (go_simp; go_at_call 5
             (with_reducible refine (HK.out _).mono ?_)
             rintro e w19 ⟨rfl, hm19⟩
             have M19 := M18.trans' hm19
             clear hm19)
          | fail)
        all_goals
          go_wp2
          go_ret
          exact ⟨rfl, HM0.out.trans' (HM02.out.trans' M19)⟩
      | false =>
        have HMe := Lib.hid hme
        clear hme
        by_cases hmay : mayAs xs = true
        · have HMay := Lib.hid hmay
          clear hmay
          have htk' : ∀ D p T W, RrAt D p T W qv false → Calls Tryz.prog 15 #[.pointer (some ⟨p, 0, none⟩), .int .u8 (t.toNat : Int)] W (TakeAEnds D p T W (some (xs, []))) := fun D p T W hr => by
            have h := etake_any D p T qv false t W hr HQl.out
            rw [if_neg (by decide), HQv.out, takeA_all HT.out (Nat.le_trans HAl.out (by omega)) HFit.out, if_pos HMay.out] at h
            exact h
          have HTk' := Lib.hid htk'
          clear htk'
          obtain rfl : f1 = 2 := by rw [HF1.out]; unfold bytF; rw [if_neg (by rw [HMe.out]; decide)]
          obtain rfl : k2 = 0 := by rw [HK2.out, HX1.out]; unfold bytX; rw [if_neg (by rw [HMe.out]; decide)]; rfl
          go_wp2_with (first
            | (go_at_call 14
               (with_reducible refine (HTr.out).mono ?_)
               rintro e w13 ⟨p, T, D, rfl, hp13, hD13, hat13, hm13⟩
               have HM13 := Lib.hid (HMc.out.trans' hm13)
               have HTk := Lib.hid (HTk'.out _ _ _ _ hat13)
               have HP := Lib.hid (Nat.le_trans HMc.out.size hp13)
               have HPl := Lib.hid hat13.lt
               obtain ⟨c0w13, c1w13, c2w13⟩ := HC.out w13 HM13.out
               clear hp13 hat13 hm13)
            | (go_at_call 15
               (with_reducible refine (HTk.out).mono ?_)
               rintro e w14 ⟨⟨A14, c14, he14, ho14, hat14⟩, hm14⟩
               obtain ⟨k14, hk14⟩ : ∃ k, k = xs.length := ⟨_, rfl⟩
               rw [← hk14] at he14
               subst he14
               have HK14 := Lib.hid hk14
               have HM14 := Lib.hid (HM13.out.trans hm14 fun b hb => .inr (by rw [hb]; exact HP.out))
               have HR14 := Lib.hid ((rd_of5 ho14 At.cs_len).mono (D' := fun b => b < w14.heap.size) fun b hb => (ho14.fresh b hb).2)
               have HAt14 := Lib.hid hat14
               have hmy := rmays_any A c xs w14 (HA.out _ HM14.out) HXl.out HFxA.out
               rw [HMay.out, ← HNx.out] at hmy
               have HMy := Lib.hid hmy
               obtain ⟨c0w14, c1w14, c2w14⟩ := HC.out w14 HM14.out
               clear ho14 hm14 hat14 hk14 hmy)
            | (go_at_call 16
               (with_reducible refine (HMy.out).mono ?_)
               rintro e w15 ⟨rfl, hm15⟩
               have HM15 := Lib.hid (HM14.out.trans' hm15)
               have hre := rend_any _ _ _ _ _ w15 (HAt14.out.keep hm15 id fun _ _ => id)
               rw [if_neg (by simp)] at hre
               have HRe := Lib.hid hre
               have hsa := sameAttrs_any _ _ A14 A c14 c xs xs w15 (HR14.out.keep (hm15.agree fun b hb => ⟨hb, id⟩)) (HA.out _ HM15.out) (by unfold maxLen; have := HXl.out; omega) (by unfold maxLen; have := HXl.out; omega) (fun b hb => Nat.lt_of_lt_of_le hb hm15.size) (fun b hb => hb)
               rw [decide_eq_true rfl, show (Value.slice A14 xs.length c14) = .slice A14 k14 c14 by rw [HK14.out], ← HNx.out] at hsa
               have HSa := Lib.hid hsa
               clear hsa
               obtain ⟨c0w15, c1w15, c2w15⟩ := HC.out w15 HM15.out
               clear hm15 hre)
            | (go_at_call 17; (with_reducible refine HRe.out.mono ?_); rintro e w' ⟨rfl, rfl⟩)
            | (go_at_call 18
               (with_reducible refine (HSa.out).mono ?_)
               rintro e w16 ⟨rfl, hm16⟩
               have HM16 := Lib.hid (HM15.out.trans' hm16)
               have hrn := rentry_any na A c xs w16 HNa.out (HA.out _ HM16.out) HXl.out HFxA.out
               rw [HMe.out, ← HNx.out] at hrn
               have HRn := Lib.hid hrn
               clear hrn
               obtain ⟨c0w16, c1w16, c2w16⟩ := HC.out w16 HM16.out
               clear hm16)
            | (go_at_call 19
               (with_reducible refine (HRn.out).mono ?_)
               rintro e w17 ⟨rfl, hm17⟩
               have HM17 := Lib.hid (HM16.out.trans' hm17)
               obtain ⟨c0w17, c1w17, c2w17⟩ := HC.out w17 HM17.out
               clear hm17)
            | (go_at_call 10; refine (HNum.out _ _).mono ?_; rintro e w' ⟨rfl, rfl⟩)
            | (go_at_call 5
               (with_reducible refine (HK.out _).mono ?_)
               rintro e wk ⟨rfl, hmk⟩
               have HMk := Lib.hid hmk
               clear hmk)
            | fail)
          go_ret
          exact ⟨rfl, HM0.out.trans' (HM02.out.trans' (HM17.out.trans' HMk.out))⟩
        · have HMay := Lib.hid hmay
          clear hmay
          have htk' : ∀ D p T W, RrAt D p T W qv false → Calls Tryz.prog 15 #[.pointer (some ⟨p, 0, none⟩), .int .u8 (t.toNat : Int)] W (TakeAEnds D p T W (none)) := fun D p T W hr => by
            have h := etake_any D p T qv false t W hr HQl.out
            rw [if_neg (by decide), HQv.out, takeA_all HT.out (Nat.le_trans HAl.out (by omega)) HFit.out, if_neg HMay.out] at h
            exact h
          have HTk' := Lib.hid htk'
          clear htk'
          obtain rfl : f1 = 2 := by rw [HF1.out]; unfold bytF; rw [if_neg (by rw [HMe.out]; decide)]
          obtain rfl : k2 = 0 := by rw [HK2.out, HX1.out]; unfold bytX; rw [if_neg (by rw [HMe.out]; decide)]; rfl
          go_wp2_with (first
            | (go_at_call 14
               (with_reducible refine (HTr.out).mono ?_)
               rintro e w13 ⟨p, T, D, rfl, hp13, hD13, hat13, hm13⟩
               have HM13 := Lib.hid (HMc.out.trans' hm13)
               have HTk := Lib.hid (HTk'.out _ _ _ _ hat13)
               have HP := Lib.hid (Nat.le_trans HMc.out.size hp13)
               have HPl := Lib.hid hat13.lt
               obtain ⟨c0w13, c1w13, c2w13⟩ := HC.out w13 HM13.out
               clear hp13 hat13 hm13)
            | (go_at_call 15
               (with_reducible refine (HTk.out).mono ?_)
               rintro e w14 ⟨⟨rfl, s14, hat14⟩, hm14⟩
               have HM14 := Lib.hid (HM13.out.trans hm14 fun b hb => .inr (by rw [hb]; exact HP.out))
               have HAt14 := Lib.hid hat14
               have hmy := rmays_any A c xs w14 (HA.out _ HM14.out) HXl.out HFxA.out
               rw [show mayAs xs = false from eq_false_of_ne_true HMay.out, ← HNx.out] at hmy
               have HMy := Lib.hid hmy
               obtain ⟨c0w14, c1w14, c2w14⟩ := HC.out w14 HM14.out
               clear hm14 hat14 hmy)
            | (go_at_call 16
               (with_reducible refine (HMy.out).mono ?_)
               rintro e w15 ⟨rfl, hm15⟩
               have HM15 := Lib.hid (HM14.out.trans' hm15)
               have hre := rend_any _ _ _ _ _ w15 (HAt14.out.keep hm15 id fun _ _ => id)
               rw [if_pos (.inl rfl)] at hre
               have HRe := Lib.hid hre
               have hrn := rentry_any na A c xs w15 HNa.out (HA.out _ HM15.out) HXl.out HFxA.out
               rw [HMe.out, ← HNx.out] at hrn
               have HRn := Lib.hid hrn
               clear hrn
               obtain ⟨c0w15, c1w15, c2w15⟩ := HC.out w15 HM15.out
               clear hm15 hre)
            | (go_at_call 17; (with_reducible refine HRe.out.mono ?_); rintro e w' ⟨rfl, rfl⟩)
            | (go_at_call 19
               (with_reducible refine (HRn.out).mono ?_)
               rintro e w17 ⟨rfl, hm17⟩
               have HM17 := Lib.hid (HM15.out.trans' hm17)
               obtain ⟨c0w17, c1w17, c2w17⟩ := HC.out w17 HM17.out
               clear hm17)
            | (go_at_call 10; refine (HNum.out _ _).mono ?_; rintro e w' ⟨rfl, rfl⟩)
            | (go_at_call 5
               (with_reducible refine (HK.out _).mono ?_)
               rintro e wk ⟨rfl, hmk⟩
               have HMk := Lib.hid hmk
               clear hmk)
            | fail)
          go_ret
          exact ⟨rfl, HM0.out.trans' (HM02.out.trans' (HM17.out.trans' HMk.out))⟩
  | some v =>
    obtain ⟨nm, l⟩ := v
    have HO := Lib.hid ho
    have HLl := Lib.hid (of_some ho).2.2.1
    clear ho
    go_enter Tryz.func3, Tryz.ntmps3
    go_upto_if 72 with (first
      | (go_at_call 4
         rw [← HW0.out]
         (with_reducible refine (HMx.out _ (Mod.refl _ _)).mono ?_)
         rintro e w1 ⟨rfl, hm1⟩
         have HM1 := Lib.hid hm1
         obtain ⟨c0w1, c1w1, c2w1⟩ := HC.out w1 hm1
         clear hm1)
      | (go_at_call 6
         (with_reducible refine (HBx.out w1 HM1.out).mono ?_)
         rintro e w2 ⟨A2, c2, k2, rfl, hk2, hr2, hm2⟩
         have HM02 := Lib.hid (HM1.out.trans' hm2)
         have HC := Lib.hid (fun X (hX : Mod (fun _ => False) w2 X) => HC.out X (HM02.out.trans' hX))
         have HA := Lib.hid (fun X (hX : Mod (fun _ => False) w2 X) => HA.out X (HM02.out.trans' hX))
         have HS := Lib.hid (fun X (hX : Mod (fun _ => False) w2 X) => HS.out X (HM02.out.trans' hX))
         have HM2 := Lib.hid (Mod.refl (fun _ => False) w2)
         have HK2 := Lib.hid hk2
         have HR2 := Lib.hid hr2
         obtain ⟨c0w2, c1w2, c2w2⟩ := HC.out w2 HM2.out
         have hof := eof_any _ Ac cc s w2 (HS.out w2 HM2.out) (by rw [← HNs.out]; omega)
         unfold OfEnds at hof
         rw [← HNs.out] at hof
         have HOf := Lib.hid hof
         clear hm2 hk2 hr2 hof)
      | (go_at_call 7
         (with_reducible refine (HOf.out).mono ?_)
         rintro e w3 ⟨he3, hm3⟩
         rw [HO.out] at he3
         obtain ⟨A3, c3, he3, ho3⟩ := he3
         obtain ⟨k3, hk3⟩ : ∃ k, k = l.length := ⟨_, rfl⟩
         rw [← hk3] at he3
         subst he3
         have HK3 := Lib.hid hk3
         have R3 := (rd_of5 ho3 At.cs_len).mono (D' := fun b => b < w3.heap.size) fun b hb => (ho3.fresh b hb).2
         obtain ⟨W3, hW3⟩ : ∃ W3, W3 = w3.alloc (.cells #[.string ⟨nm.toArray⟩, .slice A3 k3 c3] 24) := ⟨_, rfl⟩
         have hm3' : Mod (fun _ => False) w3 W3 := by rw [hW3]; (repeat' (first | exact Mod.refl _ _ | assumption | refine Mod.alloc ?_ _ | refine Mod.drew ?_ | refine Mod.drewN ?_ _ | refine Mod.setCell ?_ (by first | exact Or.inl rfl | (right; simp; done) | (right; simp; omega) | (left; simp; done)) _))
         have HM3 := Lib.hid ((HM2.out.trans' hm3).trans' hm3')
         have hb3 : W3.heap[w3.heap.size]? = some (.cells #[.string ⟨nm.toArray⟩, .slice A3 k3 c3] 24 (0, 0)) := by rw [hW3]; exact hp_new _ _
         have hgo := gof_any _ Ac cc s W3 (HS.out W3 HM3.out) (by rw [← HNs.out]; omega) (by rw [← HNs.out]; exact HCc.out)
         unfold GOfEnds at hgo
         rw [← HNs.out] at hgo
         have HB3 := Lib.hid hb3
         rw [hW3] at hgo
         have HGo := Lib.hid hgo
         have HW3 := Lib.hid hW3
         have HR3 := Lib.hid (R3.keep (hm3'.agree fun b hb => ⟨hb, id⟩))
         clear hm3 hm3' hb3 hgo hW3 R3 ho3 hk3)
      | (go_at_call 8
         (with_reducible refine (HGo.out).mono ?_)
         rintro e w4 ⟨nm4, l4, A4, c4, k4, z4, rfl, hk4, hr4, hy4, hf4, hm4⟩
         have hz4 : z4 = true := by
           cases z4
           · rw [HO.out] at hf4
             cases (hf4 rfl).1
           · rfl
         subst hz4
         have he4 := hy4 rfl
         rw [HO.out] at he4
         injection he4 with he4
         injection he4 with he4 he5
         subst he4 he5
         rw [← HW3.out] at hm4
         have HM4 := Lib.hid (HM3.out.trans' hm4)
         have hb4 := hp_mod HB3.out hm4 id
         have hs3 := hp_lt HB3.out
         have hs4 := hm4.size
         obtain ⟨W4, hW4⟩ : ∃ W4, W4 = w4.alloc (.cells #[.string ⟨nm.toArray⟩, .slice A4 k4 c4] 24) := ⟨_, rfl⟩
         have hm5 : Mod (fun _ => False) w4 W4 := by rw [hW4]; (repeat' (first | exact Mod.refl _ _ | assumption | refine Mod.alloc ?_ _ | refine Mod.drew ?_ | refine Mod.drewN ?_ _ | refine Mod.setCell ?_ (by first | exact Or.inl rfl | (right; simp; done) | (right; simp; omega) | (left; simp; done)) _))
         have HM5 := Lib.hid (HM4.out.trans' hm5)
         have hsm := rsame_any nm nm A3 A4 c3 c4 l l W4 (((HR3.out.keep (hm4.agree fun b hb => ⟨by omega, id⟩)).keep (hm5.agree fun b hb => ⟨by omega, id⟩)).mono fun b hb => by have := hm5.size; omega) ((hr4.keep (hm5.agree fun b hb => ⟨hb, id⟩)).mono fun b hb => Nat.lt_of_lt_of_le hb hm5.size) (by unfold maxLen; have := HLl.out; omega) (by unfold maxLen; have := HLl.out; omega)
         rw [show sameE nm nm l l = true by unfold sameE; simp, ← HK3.out, show (Value.slice A4 k3 c4) = .slice A4 k4 c4 by rw [HK3.out, hk4]] at hsm
         have HSm := Lib.hid hsm
         rw [hW4] at HSm
         have hb5 := hp_mod hb4 hm5 id
         have hv5 : W4.heap[w4.heap.size]? = some (.cells #[.string ⟨nm.toArray⟩, .slice A4 k4 c4] 24 (0, 0)) := by rw [hW4]; exact hp_new _ _
         have b0 : W4.cell? ⟨w3.heap.size, 0, none⟩ = some (.string ⟨nm.toArray⟩) := by rw [hp_cell hb5]; rfl
         have b1 : W4.cell? ⟨w3.heap.size, 1, none⟩ = some (.slice A3 k3 c3) := by rw [hp_cell hb5]; rfl
         have b1' : W4.cell? ⟨w3.heap.size, 0 + 1, none⟩ = some (.slice A3 k3 c3) := by rw [hp_cell hb5]; rfl
         have v0 : W4.cell? ⟨w4.heap.size, 0, none⟩ = some (.string ⟨nm.toArray⟩) := by rw [hp_cell hv5]; rfl
         have v1 : W4.cell? ⟨w4.heap.size, 1, none⟩ = some (.slice A4 k4 c4) := by rw [hp_cell hv5]; rfl
         have v1' : W4.cell? ⟨w4.heap.size, 0 + 1, none⟩ = some (.slice A4 k4 c4) := by rw [hp_cell hv5]; rfl
         rw [hW4] at HM5 b0 b1 b1' v0 v1 v1'
         clear hb5 hv5 hk4
         clear hy4 hf4 hr4 hm4 hb4 hm5 hsm hW4)
      | (go_at_call 9
         (with_reducible refine (HSm.out).mono ?_)
         rintro e w6 ⟨rfl, hm6⟩
         have HM6 := Lib.hid (HM5.out.trans' hm6)
         obtain ⟨W7, hW7⟩ : ∃ W7, W7 = w6.alloc (.cells #[.slice none 0 0, .int .i64 0] 39) := ⟨_, rfl⟩
         have hm7 : Mod (fun _ => False) w6 W7 := by rw [hW7]; (repeat' (first | exact Mod.refl _ _ | assumption | refine Mod.alloc ?_ _ | refine Mod.drew ?_ | refine Mod.drewN ?_ _ | refine Mod.setCell ?_ (by first | exact Or.inl rfl | (right; simp; done) | (right; simp; omega) | (left; simp; done)) _))
         have hb7 : W7.heap[w6.heap.size]? = some (.cells #[.slice none 0 0, .int .i64 0] 39 (0, 0)) := by rw [hW7]; exact hp_new _ _
         have HM7 := Lib.hid (HM6.out.trans' hm7)
         obtain ⟨c0w7, c1w7, c2w7⟩ := HC.out W7 HM7.out
         have hpt := eput_any _ w6.heap.size ⟨[], 0⟩ t A c xs _ W7 (WrAt.new0 hb7) (by simp) (HA.out W7 HM7.out) (fun b hb => hb) HFit.out (Nat.le_trans HAl.out (by omega))
         rw [bytes0 HT.out (Nat.le_trans HAl.out (by omega)), ← HNx.out, ← HQv.out] at hpt
         have HPut := Lib.hid hpt
         rw [hW7] at HPut HM7 c0w7 c1w7 c2w7
         clear hm6 hm7 hb7 hpt hW7)
      | (go_at_call 10; refine (HNum.out _ _).mono ?_; rintro e w' ⟨rfl, rfl⟩)
      | fail)
    go_upto_region 11 with (first
      | (go_at_call 11
         (with_reducible refine (HPut.out).mono ?_)
         rintro e w8 ⟨⟨r8, rfl⟩, hat8, hm8⟩
         have hen := wend_any _ _ _ _ w8 hat8 HQl.out
         have HEn := Lib.hid hen
         have HM8 := Lib.hid (put_mod HM6.out HM7.out hm8)
         obtain ⟨c0w8, c1w8, c2w8⟩ := HC.out w8 HM8.out
         clear hat8 hm8 hen)
      | (go_at_call 12
         (with_reducible refine (HEn.out).mono ?_)
         rintro e w9 ⟨he9, hm9⟩
         obtain ⟨A9, c9, he9, ho9⟩ := he9
         obtain ⟨k9, hk9⟩ : ∃ k, k = qv.length := ⟨_, rfl⟩
         have he9 : e = .returned (.tuple #[.slice A9 qv.length c9, .int .i64 0]) := he9
         have ho9 : OwnS w8.heap.size 5 1 csU w9 (.slice A9 qv.length c9) qv := ho9
         rw [← hk9] at he9
         subst he9
         have HK9 := Lib.hid hk9
         have HM9 := Lib.hid (HM8.out.trans' hm9)
         have HR9 := Lib.hid ((rd_of5 ho9 csU_len).mono (D' := fun b => b < w9.heap.size) fun b hb => (ho9.fresh b hb).2)
         obtain ⟨c0w9, c1w9, c2w9⟩ := HC.out w9 HM9.out
         clear hm9 hk9 ho9)
      | fail)
    go_cut [97] (fun v wx => v = .bool false ∧ Mod (fun _ => False) w9 wx)
    case first =>
      have m0 : Mod (fun _ => False) w9 w9.drew := (Mod.refl _ _).drew
      obtain ⟨d0, d1, d2⟩ := HC.out w9.drew (HM9.out.trans' m0)
      have r9 := HR9.out.keep (m0.agree fun b hb => ⟨hb, id⟩)
      have q0 := run_str_of r9 c9
      rw [← HK9.out] at q0
      have hg := gattrs_any t A c xs w9.drew (HA.out _ (HM9.out.trans' m0)) HXl.out (Nat.le_trans HAl.out (by omega))
      rw [← HNx.out, ← HQv.out, ← HK9.out] at hg
      have HG := Lib.hid hg
      have HR9d := Lib.hid r9
      have HM0d := Lib.hid m0
      have hss : (qv != qv) = false := by simp
      clear hg r9 m0
      go_region_law (first
        | (go_simp; go_at_call 13
           (with_reducible refine HG.out.mono ?_)
           rintro e w11 ⟨A11, c11, rfl, hown, hm11⟩
           have M11 := HM0d.out.trans' hm11
           have q1 := run_str_of (HR9d.out.keep (hm11.agree fun b hb => ⟨hb, id⟩)) c9
           have q2 := run_str_of (rd_of5 hown csU_len) c11
           rw [← HK9.out] at q1 q2
           clear hown hm11)
        | (go_simp; go_at_call 10; refine (HNum.out _ _).mono ?_; rintro e w' ⟨rfl, rfl⟩)
        | fail)
      all_goals
        go_wp2_with fail
        go_meet
        exact ⟨rfl, M11⟩
    case rest =>
      obtain ⟨rfl, hmc⟩ := hcut
      have HMc := Lib.hid (HM9.out.trans' hmc)
      have htr := tread_any _ A9 c9 qv wc (HR9.out.keep (hmc.agree fun b hb => ⟨hb, id⟩)) HQl.out
      rw [← HK9.out] at htr
      have HTr := Lib.hid htr
      obtain ⟨c0wc, c1wc, c2wc⟩ := HC.out wc HMc.out
      clear hmc htr
      cases hme : mayE na xs with
      | true =>
        have HMe := Lib.hid hme
        have HMay := Lib.hid (mayE_as hme)
        clear hme
        have htk' : ∀ D p T W, RrAt D p T W qv false → Calls Tryz.prog 15 #[.pointer (some ⟨p, 0, none⟩), .int .u8 (t.toNat : Int)] W (TakeAEnds D p T W (some (xs, []))) := fun D p T W hr => by
          have h := etake_any D p T qv false t W hr HQl.out
          rw [if_neg (by decide), HQv.out, takeA_all HT.out (Nat.le_trans HAl.out (by omega)) HFit.out, if_pos HMay.out] at h
          exact h
        have HTk' := Lib.hid htk'
        clear htk'
        obtain rfl : f1 = 0 := by rw [HF1.out]; unfold bytF; rw [if_pos HMe.out]
        obtain rfl : x1b = packV na xs := by rw [HX1.out]; unfold bytX; rw [if_pos HMe.out]
        go_upto_region 20 with (first
          | (go_at_call 14
             (with_reducible refine (HTr.out).mono ?_)
             rintro e w13 ⟨p, T, D, rfl, hp13, hD13, hat13, hm13⟩
             have HM13 := Lib.hid (HMc.out.trans' hm13)
             have HTk := Lib.hid (HTk'.out _ _ _ _ hat13)
             have HP := Lib.hid (Nat.le_trans HMc.out.size hp13)
             have HPl := Lib.hid hat13.lt
             obtain ⟨c0w13, c1w13, c2w13⟩ := HC.out w13 HM13.out
             clear hp13 hat13 hm13)
          | (go_at_call 15
             (with_reducible refine (HTk.out).mono ?_)
             rintro e w14 ⟨⟨A14, c14, he14, ho14, hat14⟩, hm14⟩
             obtain ⟨k14, hk14⟩ : ∃ k, k = xs.length := ⟨_, rfl⟩
             rw [← hk14] at he14
             subst he14
             have HK14 := Lib.hid hk14
             have HM14 := Lib.hid (HM13.out.trans hm14 fun b hb => .inr (by rw [hb]; exact HP.out))
             have HR14 := Lib.hid ((rd_of5 ho14 At.cs_len).mono (D' := fun b => b < w14.heap.size) fun b hb => (ho14.fresh b hb).2)
             have HAt14 := Lib.hid hat14
             have hmy := rmays_any A c xs w14 (HA.out _ HM14.out) HXl.out HFxA.out
             rw [HMay.out, ← HNx.out] at hmy
             have HMy := Lib.hid hmy
             obtain ⟨c0w14, c1w14, c2w14⟩ := HC.out w14 HM14.out
             clear ho14 hm14 hat14 hk14 hmy)
          | (go_at_call 16
             (with_reducible refine (HMy.out).mono ?_)
             rintro e w15 ⟨rfl, hm15⟩
             have HM15 := Lib.hid (HM14.out.trans' hm15)
             have hre := rend_any _ _ _ _ _ w15 (HAt14.out.keep hm15 id fun _ _ => id)
             rw [if_neg (by simp)] at hre
             have HRe := Lib.hid hre
             have hsa := sameAttrs_any _ _ A14 A c14 c xs xs w15 (HR14.out.keep (hm15.agree fun b hb => ⟨hb, id⟩)) (HA.out _ HM15.out) (by unfold maxLen; have := HXl.out; omega) (by unfold maxLen; have := HXl.out; omega) (fun b hb => Nat.lt_of_lt_of_le hb hm15.size) (fun b hb => hb)
             rw [decide_eq_true rfl, show (Value.slice A14 xs.length c14) = .slice A14 k14 c14 by rw [HK14.out], ← HNx.out] at hsa
             have HSa := Lib.hid hsa
             clear hsa
             obtain ⟨c0w15, c1w15, c2w15⟩ := HC.out w15 HM15.out
             clear hm15 hre)
          | (go_at_call 17; (with_reducible refine HRe.out.mono ?_); rintro e w' ⟨rfl, rfl⟩)
          | (go_at_call 18
             (with_reducible refine (HSa.out).mono ?_)
             rintro e w16 ⟨rfl, hm16⟩
             have HM16 := Lib.hid (HM15.out.trans' hm16)
             have hrn := rentry_any na A c xs w16 HNa.out (HA.out _ HM16.out) HXl.out HFxA.out
             rw [HMe.out, ← HNx.out] at hrn
             have HRn := Lib.hid hrn
             clear hrn
             obtain ⟨c0w16, c1w16, c2w16⟩ := HC.out w16 HM16.out
             clear hm16)
          | (go_at_call 19
             (with_reducible refine (HRn.out).mono ?_)
             rintro e w17 ⟨rfl, hm17⟩
             have HM17 := Lib.hid (HM16.out.trans' hm17)
             obtain ⟨c0w17, c1w17, c2w17⟩ := HC.out w17 HM17.out
             clear hm17)
          | (go_at_call 10; refine (HNum.out _ _).mono ?_; rintro e w' ⟨rfl, rfl⟩)
          | fail)
        have m0 : Mod (fun _ => False) w17 w17.drew := (Mod.refl _ _).drew
        obtain ⟨d0, d1, d2⟩ := HC.out w17.drew (HM17.out.trans' m0)
        have r2 := (HR2.out.keep ((HM17.out.trans' m0).agree (fun b hb => ⟨hb, id⟩)))
        have q0 := run_str_of r2 c2
        rw [← HK2.out] at q0
        have hg := gpack_any na A c xs w17.drew (HA.out _ (HM17.out.trans' m0)) HXl.out (Nat.le_trans HAl.out (by omega)) (Nat.le_trans HNa9.out (by omega))
        rw [← HNx.out, ← HK2.out] at hg
        have HG := Lib.hid hg
        have HR2d := Lib.hid r2
        have HM0d := Lib.hid (HM17.out.trans' m0)
        have hss : (packV na xs == packV na xs) = true := by simp
        clear hg r2 m0
        go_region_law (first
          | (go_simp; go_at_call 20
             (with_reducible refine HG.out.mono ?_)
             rintro e w18 ⟨A18, c18, rfl, hown, hm18⟩
             have M18 := HM0d.out.trans' hm18
             have q1 := run_str_of (HR2d.out.keep (hm18.agree fun b hb => ⟨Nat.lt_of_lt_of_le hb HM0d.out.size, id⟩)) c2
             have q2 := run_str_of (rd_of5 hown csU_len) c18
             rw [← HK2.out] at q1 q2
             clear hown hm18)
          | (go_simp; go_at_call 10; refine (HNum.out _ _).mono ?_; rintro e w' ⟨rfl, rfl⟩)
          | (go_simp; go_at_call 5
             (with_reducible refine (HK.out _).mono ?_)
             rintro e w19 ⟨rfl, hm19⟩
             have M19 := M18.trans' hm19
             clear hm19)
          | fail)
        all_goals
          go_wp2
          go_ret
          exact ⟨rfl, HM0.out.trans' (HM02.out.trans' M19)⟩
      | false =>
        have HMe := Lib.hid hme
        clear hme
        by_cases hmay : mayAs xs = true
        · have HMay := Lib.hid hmay
          clear hmay
          have htk' : ∀ D p T W, RrAt D p T W qv false → Calls Tryz.prog 15 #[.pointer (some ⟨p, 0, none⟩), .int .u8 (t.toNat : Int)] W (TakeAEnds D p T W (some (xs, []))) := fun D p T W hr => by
            have h := etake_any D p T qv false t W hr HQl.out
            rw [if_neg (by decide), HQv.out, takeA_all HT.out (Nat.le_trans HAl.out (by omega)) HFit.out, if_pos HMay.out] at h
            exact h
          have HTk' := Lib.hid htk'
          clear htk'
          obtain rfl : f1 = 2 := by rw [HF1.out]; unfold bytF; rw [if_neg (by rw [HMe.out]; decide)]
          obtain rfl : k2 = 0 := by rw [HK2.out, HX1.out]; unfold bytX; rw [if_neg (by rw [HMe.out]; decide)]; rfl
          go_wp2_with (first
            | (go_at_call 14
               (with_reducible refine (HTr.out).mono ?_)
               rintro e w13 ⟨p, T, D, rfl, hp13, hD13, hat13, hm13⟩
               have HM13 := Lib.hid (HMc.out.trans' hm13)
               have HTk := Lib.hid (HTk'.out _ _ _ _ hat13)
               have HP := Lib.hid (Nat.le_trans HMc.out.size hp13)
               have HPl := Lib.hid hat13.lt
               obtain ⟨c0w13, c1w13, c2w13⟩ := HC.out w13 HM13.out
               clear hp13 hat13 hm13)
            | (go_at_call 15
               (with_reducible refine (HTk.out).mono ?_)
               rintro e w14 ⟨⟨A14, c14, he14, ho14, hat14⟩, hm14⟩
               obtain ⟨k14, hk14⟩ : ∃ k, k = xs.length := ⟨_, rfl⟩
               rw [← hk14] at he14
               subst he14
               have HK14 := Lib.hid hk14
               have HM14 := Lib.hid (HM13.out.trans hm14 fun b hb => .inr (by rw [hb]; exact HP.out))
               have HR14 := Lib.hid ((rd_of5 ho14 At.cs_len).mono (D' := fun b => b < w14.heap.size) fun b hb => (ho14.fresh b hb).2)
               have HAt14 := Lib.hid hat14
               have hmy := rmays_any A c xs w14 (HA.out _ HM14.out) HXl.out HFxA.out
               rw [HMay.out, ← HNx.out] at hmy
               have HMy := Lib.hid hmy
               obtain ⟨c0w14, c1w14, c2w14⟩ := HC.out w14 HM14.out
               clear ho14 hm14 hat14 hk14 hmy)
            | (go_at_call 16
               (with_reducible refine (HMy.out).mono ?_)
               rintro e w15 ⟨rfl, hm15⟩
               have HM15 := Lib.hid (HM14.out.trans' hm15)
               have hre := rend_any _ _ _ _ _ w15 (HAt14.out.keep hm15 id fun _ _ => id)
               rw [if_neg (by simp)] at hre
               have HRe := Lib.hid hre
               have hsa := sameAttrs_any _ _ A14 A c14 c xs xs w15 (HR14.out.keep (hm15.agree fun b hb => ⟨hb, id⟩)) (HA.out _ HM15.out) (by unfold maxLen; have := HXl.out; omega) (by unfold maxLen; have := HXl.out; omega) (fun b hb => Nat.lt_of_lt_of_le hb hm15.size) (fun b hb => hb)
               rw [decide_eq_true rfl, show (Value.slice A14 xs.length c14) = .slice A14 k14 c14 by rw [HK14.out], ← HNx.out] at hsa
               have HSa := Lib.hid hsa
               clear hsa
               obtain ⟨c0w15, c1w15, c2w15⟩ := HC.out w15 HM15.out
               clear hm15 hre)
            | (go_at_call 17; (with_reducible refine HRe.out.mono ?_); rintro e w' ⟨rfl, rfl⟩)
            | (go_at_call 18
               (with_reducible refine (HSa.out).mono ?_)
               rintro e w16 ⟨rfl, hm16⟩
               have HM16 := Lib.hid (HM15.out.trans' hm16)
               have hrn := rentry_any na A c xs w16 HNa.out (HA.out _ HM16.out) HXl.out HFxA.out
               rw [HMe.out, ← HNx.out] at hrn
               have HRn := Lib.hid hrn
               clear hrn
               obtain ⟨c0w16, c1w16, c2w16⟩ := HC.out w16 HM16.out
               clear hm16)
            | (go_at_call 19
               (with_reducible refine (HRn.out).mono ?_)
               rintro e w17 ⟨rfl, hm17⟩
               have HM17 := Lib.hid (HM16.out.trans' hm17)
               obtain ⟨c0w17, c1w17, c2w17⟩ := HC.out w17 HM17.out
               clear hm17)
            | (go_at_call 10; refine (HNum.out _ _).mono ?_; rintro e w' ⟨rfl, rfl⟩)
            | (go_at_call 5
               (with_reducible refine (HK.out _).mono ?_)
               rintro e wk ⟨rfl, hmk⟩
               have HMk := Lib.hid hmk
               clear hmk)
            | fail)
          go_ret
          exact ⟨rfl, HM0.out.trans' (HM02.out.trans' (HM17.out.trans' HMk.out))⟩
        · have HMay := Lib.hid hmay
          clear hmay
          have htk' : ∀ D p T W, RrAt D p T W qv false → Calls Tryz.prog 15 #[.pointer (some ⟨p, 0, none⟩), .int .u8 (t.toNat : Int)] W (TakeAEnds D p T W (none)) := fun D p T W hr => by
            have h := etake_any D p T qv false t W hr HQl.out
            rw [if_neg (by decide), HQv.out, takeA_all HT.out (Nat.le_trans HAl.out (by omega)) HFit.out, if_neg HMay.out] at h
            exact h
          have HTk' := Lib.hid htk'
          clear htk'
          obtain rfl : f1 = 2 := by rw [HF1.out]; unfold bytF; rw [if_neg (by rw [HMe.out]; decide)]
          obtain rfl : k2 = 0 := by rw [HK2.out, HX1.out]; unfold bytX; rw [if_neg (by rw [HMe.out]; decide)]; rfl
          go_wp2_with (first
            | (go_at_call 14
               (with_reducible refine (HTr.out).mono ?_)
               rintro e w13 ⟨p, T, D, rfl, hp13, hD13, hat13, hm13⟩
               have HM13 := Lib.hid (HMc.out.trans' hm13)
               have HTk := Lib.hid (HTk'.out _ _ _ _ hat13)
               have HP := Lib.hid (Nat.le_trans HMc.out.size hp13)
               have HPl := Lib.hid hat13.lt
               obtain ⟨c0w13, c1w13, c2w13⟩ := HC.out w13 HM13.out
               clear hp13 hat13 hm13)
            | (go_at_call 15
               (with_reducible refine (HTk.out).mono ?_)
               rintro e w14 ⟨⟨rfl, s14, hat14⟩, hm14⟩
               have HM14 := Lib.hid (HM13.out.trans hm14 fun b hb => .inr (by rw [hb]; exact HP.out))
               have HAt14 := Lib.hid hat14
               have hmy := rmays_any A c xs w14 (HA.out _ HM14.out) HXl.out HFxA.out
               rw [show mayAs xs = false from eq_false_of_ne_true HMay.out, ← HNx.out] at hmy
               have HMy := Lib.hid hmy
               obtain ⟨c0w14, c1w14, c2w14⟩ := HC.out w14 HM14.out
               clear hm14 hat14 hmy)
            | (go_at_call 16
               (with_reducible refine (HMy.out).mono ?_)
               rintro e w15 ⟨rfl, hm15⟩
               have HM15 := Lib.hid (HM14.out.trans' hm15)
               have hre := rend_any _ _ _ _ _ w15 (HAt14.out.keep hm15 id fun _ _ => id)
               rw [if_pos (.inl rfl)] at hre
               have HRe := Lib.hid hre
               have hrn := rentry_any na A c xs w15 HNa.out (HA.out _ HM15.out) HXl.out HFxA.out
               rw [HMe.out, ← HNx.out] at hrn
               have HRn := Lib.hid hrn
               clear hrn
               obtain ⟨c0w15, c1w15, c2w15⟩ := HC.out w15 HM15.out
               clear hm15 hre)
            | (go_at_call 17; (with_reducible refine HRe.out.mono ?_); rintro e w' ⟨rfl, rfl⟩)
            | (go_at_call 19
               (with_reducible refine (HRn.out).mono ?_)
               rintro e w17 ⟨rfl, hm17⟩
               have HM17 := Lib.hid (HM15.out.trans' hm17)
               obtain ⟨c0w17, c1w17, c2w17⟩ := HC.out w17 HM17.out
               clear hm17)
            | (go_at_call 10; refine (HNum.out _ _).mono ?_; rintro e w' ⟨rfl, rfl⟩)
            | (go_at_call 5
               (with_reducible refine (HK.out _).mono ?_)
               rintro e wk ⟨rfl, hmk⟩
               have HMk := Lib.hid hmk
               clear hmk)
            | fail)
          go_ret
          exact ⟨rfl, HM0.out.trans' (HM02.out.trans' (HM17.out.trans' HMk.out))⟩
end Go.Proofs.YtccnkcaagigceaaGreat
