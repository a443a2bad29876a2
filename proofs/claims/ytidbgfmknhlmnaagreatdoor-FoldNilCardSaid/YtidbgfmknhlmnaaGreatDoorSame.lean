/-
  Lists of numbers compared.
-/
import Derived.Test.YtidbgfmknhlmnaaGreatDoorFieldsE
namespace Go.Proofs.YtidbgfmknhlmnaaGreatDoor
open Go.RowKit Go.Shelf
attribute [local go_sem] Oper.semAt_some

theorem i32s_t : SliceT Tryz.prog 22 21 1 4 := SliceT.mk' (z := .int .i32 0) Tryz.underlying22 (by kernel_rfl) rfl (by decide)
set_option maxRecDepth 100000 in
set_option maxHeartbeats 1000000 in
theorem same_any (D1 D2 : Nat → Prop) (A B : Option Addr) (c d : Nat) (xs ys : List Int) (w : World) (hA : Rd D1 w 1 csI A xs) (hB : Rd D2 w 1 csI B ys) (hx : xs.length ≤ maxLen) (hy : ys.length ≤ maxLen) (h1 : ∀ b, D1 b → b < w.heap.size) (h2 : ∀ b, D2 b → b < w.heap.size) :
    Calls Tryz.prog 13 #[.slice A xs.length c, .slice B ys.length d] w fun e w' => e = .returned (.bool (decide (xs = ys))) ∧ Mod (fun _ => False) w w' := by
  unfold maxLen at hx hy
  obtain ⟨n, hn⟩ : ∃ n, n = xs.length := ⟨_, rfl⟩
  obtain ⟨m, hm⟩ : ∃ m, m = ys.length := ⟨_, rfl⟩
  rw [← hn] at hx ⊢
  rw [← hm] at hy ⊢
  have HN := Lib.hid hn
  have HM := Lib.hid hm
  have HA := Lib.hid hA
  have HB := Lib.hid hB
  have H1 := Lib.hid h1
  have H2 := Lib.hid h2
  obtain ⟨r, hr⟩ : ∃ r, r = decide (xs = ys) := ⟨_, rfl⟩
  rw [← hr]
  have HR := Lib.hid hr
  clear hn hm hA hB h1 h2 hr
  by_cases hnm : n = m
  · subst hnm
    have hne : ((n : Int) != (n : Int)) = false := by simp
    go_enter Tryz.func13, Tryz.ntmps13
    go_wp2
    go_loopw [5] (fun i wr => ∃ k : Nat, k ≤ n ∧ i = .int .i64 k ∧ xs.take k = ys.take k ∧ Mod (fun _ => False) w wr) (fun i _ => n - (intOf i).toNat)
    case atStart => exact ⟨0, Nat.zero_le _, rfl, by simp, Mod.refl _ _⟩
    case round =>
      obtain ⟨k, hk, rfl, he, hmw⟩ := hrel
      have HE := Lib.hid he
      have HMw := Lib.hid hmw
      clear he hmw
      by_cases hlt : k < n
      · have hkx : k < xs.length := by rw [← HN.out]; exact hlt
        have hky : k < ys.length := by rw [← HM.out]; exact hlt
        obtain ⟨b1, o1, rfl, -, q1⟩ := rdI (HA.out.mod HMw.out (fun b hb => ⟨H1.out b hb, id⟩)) hkx
        obtain ⟨b2, o2, rfl, -, q2⟩ := rdI (HB.out.mod HMw.out (fun b hb => ⟨H2.out b hb, id⟩)) hky
        obtain ⟨x, hx'⟩ : ∃ x, x = xs[k] := ⟨_, rfl⟩
        obtain ⟨y, hy'⟩ : ∃ y, y = ys[k] := ⟨_, rfl⟩
        rw [← hx'] at q1
        rw [← hy'] at q2
        have HTx := Lib.hid (show xs.take (k + 1) = xs.take k ++ [x] by rw [hx']; exact List.take_succ_eq_append_getElem hkx)
        have HTy := Lib.hid (show ys.take (k + 1) = ys.take k ++ [y] by rw [hy']; exact List.take_succ_eq_append_getElem hky)
        clear hx' hy'
        by_cases hxy : x = y
        · subst hxy
          have hne2 : (x != x) = false := by simp
          go_wp2
          go_quiet (fail)
          go_wp2
          exact ⟨⟨k + 1, by omega, by go_num, by rw [HTx.out, HTy.out, HE.out], HMw.out.drewN _⟩, by simp only [intOf]; omega⟩
        · have hne2 : (x != y) = true := by simp [hxy]
          have HF := Lib.hid (show r = false by
            rw [HR.out]
            simp only [decide_eq_false_iff_not]
            intro e
            subst e
            have := HTx.out.symm.trans HTy.out
            rw [List.append_cancel_left_eq] at this
            simp at this
            exact hxy this)
          clear hxy
          go_wp2
          go_quiet (fail)
          go_wp2
          go_ret
          exact ⟨by rw [HF.out]; rfl, HMw.out.drewN _⟩
      · obtain rfl : k = n := by omega
        have HT := Lib.hid (show r = true by
          rw [HR.out]
          have h := HE.out
          rw [HN.out, List.take_length] at h
          rw [← HN.out, HM.out, List.take_length] at h
          simpa using h)
        go_wp2
        go_ret
        exact ⟨by rw [HT.out]; rfl, HMw.out⟩
  · have hne : ((n : Int) != (m : Int)) = true := by simp; omega
    have HF := Lib.hid (show r = false by
      rw [HR.out]
      simp only [decide_eq_false_iff_not]
      intro e
      subst e
      exact hnm (HN.out.trans HM.out.symm))
    clear hnm
    go_enter Tryz.func13, Tryz.ntmps13
    go_wp2
    go_ret
    exact ⟨by rw [HF.out]; rfl, Mod.refl _ _⟩
end Go.Proofs.YtidbgfmknhlmnaaGreatDoor
