/-
  The package entry and the document's layer 19: which names, types and attributes may be.
-/
import Derived.Test.YtccnkcaagigceaaGreatEntryA
namespace Go.Proofs.YtccnkcaagigceaaGreat
open Go.RowKit Go.Shelf
attribute [local go_sem] Oper.semAt_some

/-- A byte among a type's. -/
structure CT (d : UInt8) (x1 x2 x3 x4 x5 : Bool) : Prop where
  h1 : decide (97 ≤ (d.toNat : Int)) = x1
  h2 : decide ((d.toNat : Int) ≤ 122) = x2
  h3 : decide (48 ≤ (d.toNat : Int)) = x3
  h4 : decide ((d.toNat : Int) ≤ 57) = x4
  h5 : ((d.toNat : Int) == 45) = x5
theorem cts (d : UInt8) : ∃ x1 x2 x3 x4 x5, CT d x1 x2 x3 x4 x5 := ⟨_, _, _, _, _, rfl, rfl, rfl, rfl, rfl⟩
theorem CT.small {d : UInt8} {x1 x2 x3 x4 x5 : Bool} (h : CT d x1 x2 x3 x4 x5) : smallB d = (x1 && x2) := by
  unfold smallB
  rw [← h.h1, ← h.h2]
  rw [Bool.eq_iff_iff]; simp; omega
theorem CT.typ {d : UInt8} {x1 x2 x3 x4 x5 : Bool} (h : CT d x1 x2 x3 x4 x5) : typB d = ((x1 && x2) || x5 || (x3 && x4)) := by
  have k5 : decide (d.toNat = 45) = x5 := by rw [← h.h5, Bool.eq_iff_iff, decide_eq_true_eq, beq_iff_eq]; omega
  have k3 : decide (48 ≤ d.toNat) = x3 := by rw [← h.h3, decide_eq_decide]; omega
  have k4 : decide (d.toNat ≤ 57) = x4 := by rw [← h.h4, decide_eq_decide]; omega
  unfold typB
  rw [h.small, k3, k4, k5]
theorem esmall_any (d : UInt8) (w : World) : Calls Tryz.prog 72 #[.int .u8 d.toNat] w fun e w' => e = .returned (.bool (smallB d)) ∧ w = w' := by
  obtain ⟨x1, x2, x3, x4, x5, hc⟩ := cts d
  rw [hc.small]
  obtain ⟨h1, h2, -, -, -⟩ := hc
  cases x1 <;> cases x2
  all_goals
    go_enter Tryz.func72, Tryz.ntmps72
    go_wp2
    go_ret
    exact ⟨rfl, rfl⟩
def tyK (s : Bs) (k : Nat) : Bool := smallB (s.headD 0) && (s.take k).all typB
theorem tyK_succ (s : Bs) (k : Nat) (h : k < s.length) : tyK s (k + 1) = (tyK s k && typB s[k]) := by
  unfold tyK
  rw [List.take_succ_eq_append_getElem h, List.all_append]
  simp [Bool.and_assoc]
theorem mayTy_eq (s : Bs) (h1 : 1 ≤ s.length) (h2 : s.length ≤ 32) : mayTy s = tyK s s.length := by
  unfold mayTy tyK; simp [h1, h2]
set_option maxRecDepth 100000 in
set_option maxHeartbeats 2000000 in
theorem etype_any (s : Bs) (w : World) (hl : s.length ≤ 9223372036854775807) : Calls Tryz.prog 59 #[.string ⟨s.toArray⟩] w fun e w' => e = .returned (.bool (mayTy s)) ∧ w = w' := by
  rcases Nat.eq_zero_or_pos s.length with h0 | h0
  · have : s = [] := List.eq_nil_of_length_eq_zero h0
    subst this
    have hm : mayTy [] = false := rfl
    rw [hm]
    go_enter Tryz.func59, Tryz.ntmps59
    go_wp2
    go_loop [4, 5, 6, 26] (fun g _ _ i => g = .bool true ∧ i = .int .i64 0) (fun _ _ _ _ => 0)
    case atStart => exact ⟨rfl, rfl⟩
    case round =>
      obtain ⟨rfl, rfl⟩ := hrel
      go_wp2
      go_ret
      exact ⟨rfl, rfl⟩
  by_cases h2 : 32 < s.length
  · have hm : mayTy s = false := by unfold mayTy; simp; omega
    rw [hm]
    clear hm
    go_enter Tryz.func59, Tryz.ntmps59
    go_wp2
    go_ret
    exact ⟨rfl, rfl⟩
  obtain ⟨z, hz⟩ : ∃ z, z = mayTy s := ⟨_, rfl⟩
  rw [← hz]
  have HZ := Lib.hid (show z = tyK s s.length by rw [hz, mayTy_eq s h0 (by omega)])
  obtain ⟨c, hc⟩ : ∃ c, c = s[0] := ⟨_, rfl⟩
  have h7 : ∀ h, (⟨s.toArray⟩ : ByteArray)[0]'h = c := fun h => by rw [hc]; rfl
  have H0 := Lib.hid (show tyK s 0 = smallB c by unfold tyK; rw [hc]; cases s with | nil => simp at h0 | cons a s => simp)
  have HS := Lib.hid (fun d X => esmall_any d X)
  obtain ⟨n, hn⟩ : ∃ n, n = s.length := ⟨_, rfl⟩
  have hmk : (⟨s.toArray⟩ : ByteArray).size = n := by rw [hn]; rfl
  have HN := Lib.hid hn
  have hn0 : 0 < n := by omega
  have hn32 : n ≤ 32 := by omega
  obtain ⟨g0, hg0⟩ : ∃ g0, g0 = smallB c := ⟨_, rfl⟩
  have HG0 := Lib.hid hg0
  have HS0 := Lib.hid (HS.out c)
  rw [← hg0] at HS0
  clear hz hc hn h0 h2 hl hg0
  go_enter Tryz.func59, Tryz.ntmps59
  go_wp2_with (first
    | (go_at_call 72; refine (HS0.out _).mono ?_; rintro e w' ⟨rfl, rfl⟩)
    | fail)
  go_loop [4, 5, 6, 26] (fun g _ _ i => ∃ k : Nat, k ≤ n ∧ i = .int .i64 k ∧ g = .bool (tyK s k)) (fun _ _ _ i => n - (intOf i).toNat)
  case atStart => exact ⟨0, by omega, rfl, by rw [H0.out, HG0.out]⟩
  case round =>
    obtain ⟨k, hk, rfl, rfl⟩ := hrel
    by_cases hlt : k < n
    · have hks : k < s.length := by rw [← HN.out]; exact hlt
      obtain ⟨d, hd⟩ : ∃ d, d = s[k] := ⟨_, rfl⟩
      have h8 : ∀ h, (⟨s.toArray⟩ : ByteArray)[k]'h = d := fun h => by rw [hd]; rfl
      obtain ⟨x1, x2, x3, x4, x5, hct⟩ := cts d
      have HK := Lib.hid (show tyK s (k + 1) = (tyK s k && ((x1 && x2) || x5 || (x3 && x4))) by rw [tyK_succ s k hks, ← hd, hct.typ])
      have HSd := Lib.hid (HS.out d)
      rw [hct.small] at HSd
      obtain ⟨-, -, e3, e4, e5⟩ := hct
      generalize tyK s k = g at *
      clear hd
      cases g
      · clear e3 e4 e5
        go_wp2
        exact ⟨⟨k + 1, by omega, by go_num, by rw [HK.out]; rfl⟩, by simp only [intOf]; omega⟩
      generalize (x1 && x2) = q at *
      cases q
      case' true => clear e3 e4 e5
      case' false =>
        cases x5
        case' true => clear e3 e4
        case' false =>
          cases x3
          case' false => clear e4
          case' true => cases x4
      all_goals
        go_wp2_with (first
          | (go_at_call 72; refine (HSd.out _).mono ?_; rintro e w' ⟨rfl, rfl⟩)
          | fail)
        exact ⟨⟨k + 1, by omega, by go_num, by rw [HK.out]; rfl⟩, by simp only [intOf]; omega⟩
    · obtain rfl : k = n := by omega
      have hz : tyK s k = z := by rw [HZ.out, ← HN.out]
      rw [hz]
      clear hz
      cases z
      all_goals
        go_wp2
        go_ret
        exact ⟨rfl, rfl⟩
theorem ename_any (s : Bs) (w : World) (hl : s.length ≤ 9223372036854775807) : Calls Tryz.prog 49 #[.string ⟨s.toArray⟩] w fun e w' => e = .returned (.bool (mayNm s)) ∧ Mod (fun _ => False) w w' := by
  unfold mayNm
  by_cases h : s.length ≤ 1000
  · have HV := Lib.hid (fun X => uvalid_any s X (by omega))
    have he : decide (s.length ≤ 1000) = true := by simpa using h
    rw [he, Bool.true_and]
    obtain ⟨z, hz⟩ : ∃ z, z = validU s := ⟨_, rfl⟩
    rw [← hz] at HV ⊢
    clear hz he
    go_enter Tryz.func49, Tryz.ntmps49
    go_wp2_with (first
      | (go_at_call 63; refine (HV.out _).mono ?_; rintro e w' ⟨rfl, hm⟩)
      | fail)
    go_ret
    exact ⟨rfl, hm⟩
  · have he : decide (s.length ≤ 1000) = false := by simpa using h
    rw [he, Bool.false_and]
    clear he
    go_enter Tryz.func49, Tryz.ntmps49
    go_wp2
    go_ret
    exact ⟨rfl, Mod.refl _ _⟩
theorem rname_any (s : Bs) (w : World) (hl : s.length ≤ 9223372036854775807) : Calls Tryz.prog 40 #[.string ⟨s.toArray⟩] w fun e w' => e = .returned (.bool (mayNm s)) ∧ Mod (fun _ => False) w w' := by
  unfold mayNm
  by_cases h : s.length ≤ 1000
  · have HV := Lib.hid (fun X => rvalid_any s X (by omega))
    have he : decide (s.length ≤ 1000) = true := by simpa using h
    rw [he, Bool.true_and]
    obtain ⟨z, hz⟩ : ∃ z, z = validU s := ⟨_, rfl⟩
    rw [← hz] at HV ⊢
    clear hz he
    go_enter Tryz.func40, Tryz.ntmps40
    go_wp2_with (first
      | (go_at_call 58; refine (HV.out _).mono ?_; rintro e w' ⟨rfl, hm⟩)
      | fail)
    go_ret
    exact ⟨rfl, hm⟩
  · have he : decide (s.length ≤ 1000) = false := by simpa using h
    rw [he, Bool.false_and]
    clear he
    go_enter Tryz.func40, Tryz.ntmps40
    go_wp2
    go_ret
    exact ⟨rfl, Mod.refl _ _⟩
theorem eattr_any (a : At) (w : World) (h1 : a.T.length ≤ 9223372036854775807) (h2 : a.V.length ≤ 9223372036854775807) : Calls Tryz.prog 42 #[a.val] w fun e w' => e = .returned (.bool (mayA a)) ∧ Mod (fun _ => False) w w' := by
  unfold mayA At.val
  have HT := Lib.hid (fun X => etype_any a.T X h1)
  have HN := Lib.hid (fun X => ename_any a.V X h2)
  obtain ⟨z1, hz1⟩ : ∃ z, z = mayTy a.T := ⟨_, rfl⟩
  obtain ⟨z2, hz2⟩ : ∃ z, z = mayNm a.V := ⟨_, rfl⟩
  rw [← hz1] at HT ⊢
  rw [← hz2] at HN ⊢
  clear hz1 hz2
  cases z1
  all_goals
    go_enter Tryz.func42, Tryz.ntmps42
    go_wp2_with (first
      | (go_at_call 59; refine (HT.out _).mono ?_; rintro e w' ⟨rfl, rfl⟩)
      | (go_at_call 49; refine (HN.out _).mono ?_; rintro e w' ⟨rfl, hm⟩)
      | fail)
    go_ret
    first
    | exact ⟨rfl, ((Mod.refl _ w).alloc _).trans' hm⟩
    | exact ⟨rfl, by (repeat' (first | exact Mod.refl _ _ | assumption | refine Mod.alloc ?_ _ | refine Mod.drew ?_ | refine Mod.drewN ?_ _ | refine Mod.setCell ?_ (by first | exact Or.inl rfl | (right; simp; done) | (right; simp; omega) | (left; simp; done)) _))⟩
set_option maxRecDepth 100000 in
set_option maxHeartbeats 4000000 in
theorem rattr_any (a : At) (w : World) (hl1 : a.T.length ≤ 9223372036854775807) (hl2 : a.V.length ≤ 9223372036854775807) : Calls Tryz.prog 38 #[a.val] w fun e w' => e = .returned (.bool (mayA a)) ∧ Mod (fun _ => False) w w' := by
  obtain ⟨s, v⟩ := a
  obtain ⟨z, hz⟩ : ∃ z, z = mayA ⟨s, v⟩ := ⟨_, rfl⟩
  rw [← hz]
  unfold At.val
  simp only at hl1 hl2 ⊢
  unfold mayA at hz
  simp only at hz
  have HN := Lib.hid (fun X => rname_any v X hl2)
  rcases Nat.eq_zero_or_pos s.length with h0 | h0
  · have : s = [] := List.eq_nil_of_length_eq_zero h0
    subst this
    obtain rfl : z = false := by rw [hz]; rfl
    clear hz
    go_enter Tryz.func38, Tryz.ntmps38
    go_wp2
    go_ret
    exact ⟨rfl, by (repeat' (first | exact Mod.refl _ _ | assumption | refine Mod.alloc ?_ _ | refine Mod.drew ?_ | refine Mod.drewN ?_ _ | refine Mod.setCell ?_ (by first | exact Or.inl rfl | (right; simp; done) | (right; simp; omega) | (left; simp; done)) _))⟩
  by_cases h2 : 32 < s.length
  · obtain rfl : z = false := by rw [hz]; unfold mayTy; simp; omega
    clear hz
    go_enter Tryz.func38, Tryz.ntmps38
    go_wp2
    go_ret
    exact ⟨rfl, by (repeat' (first | exact Mod.refl _ _ | assumption | refine Mod.alloc ?_ _ | refine Mod.drew ?_ | refine Mod.drewN ?_ _ | refine Mod.setCell ?_ (by first | exact Or.inl rfl | (right; simp; done) | (right; simp; omega) | (left; simp; done)) _))⟩
  obtain ⟨c, hc⟩ : ∃ c, c = s[0] := ⟨_, rfl⟩
  have h7 : ∀ h, (⟨s.toArray⟩ : ByteArray)[0]'h = c := fun h => by rw [hc]; rfl
  have H0 := Lib.hid (show tyK s 0 = smallB c by unfold tyK; rw [hc]; cases s with | nil => simp at h0 | cons a s => simp)
  have HZ := Lib.hid (show z = (tyK s s.length && mayNm v) by rw [hz, mayTy_eq s h0 (by omega)])
  obtain ⟨n, hn⟩ : ∃ n, n = s.length := ⟨_, rfl⟩
  have hmk : (⟨s.toArray⟩ : ByteArray).size = n := by rw [hn]; rfl
  have HN2 := Lib.hid hn
  have hn0 : 0 < n := by omega
  have hn32 : n ≤ 32 := by omega
  obtain ⟨nm, hnm⟩ : ∃ nm, nm = mayNm v := ⟨_, rfl⟩
  rw [← hnm] at HN HZ
  obtain ⟨y1, y2, y3, y4, y5, hct⟩ := cts c
  rw [hct.small] at H0
  have e1 : decide ((c.toNat : Int) < 97) = !y1 := by rw [← hct.h1, Bool.eq_iff_iff]; simp
  have e2 : decide (122 < (c.toNat : Int)) = !y2 := by rw [← hct.h2, Bool.eq_iff_iff]; simp
  have HF := Lib.hid (show ∀ k, tyK s k = true → tyK s 0 = true from fun k h => by unfold tyK at *; simp at h ⊢; exact h.1)
  clear hz hc hn h0 h2 hl1 hl2 hnm hct
  cases y1
  · obtain rfl : z = false := by
      rw [HZ.out]
      cases hk : tyK s s.length
      · rfl
      · have := HF.out _ hk; rw [H0.out] at this; cases this
    clear HZ e2
    go_enter Tryz.func38, Tryz.ntmps38
    go_wp2
    go_ret
    exact ⟨rfl, by (repeat' (first | exact Mod.refl _ _ | assumption | refine Mod.alloc ?_ _ | refine Mod.drew ?_ | refine Mod.drewN ?_ _ | refine Mod.setCell ?_ (by first | exact Or.inl rfl | (right; simp; done) | (right; simp; omega) | (left; simp; done)) _))⟩
  cases y2
  · obtain rfl : z = false := by
      rw [HZ.out]
      cases hk : tyK s s.length
      · rfl
      · have := HF.out _ hk; rw [H0.out] at this; cases this
    clear HZ
    go_enter Tryz.func38, Tryz.ntmps38
    go_wp2
    go_ret
    exact ⟨rfl, by (repeat' (first | exact Mod.refl _ _ | assumption | refine Mod.alloc ?_ _ | refine Mod.drew ?_ | refine Mod.drewN ?_ _ | refine Mod.setCell ?_ (by first | exact Or.inl rfl | (right; simp; done) | (right; simp; omega) | (left; simp; done)) _))⟩
  cases nm
  · obtain rfl : z = false := by rw [HZ.out, Bool.and_false]
    clear HZ
    go_enter Tryz.func38, Tryz.ntmps38
    go_wp2_with (first
      | (go_at_call 40; refine (HN.out _).mono ?_; rintro e w' ⟨rfl, hm⟩)
      | fail)
    go_ret
    exact ⟨rfl, ((Mod.refl _ w).alloc _).trans' hm⟩
  · rw [Bool.and_true] at HZ
    simp only [Bool.and_self] at H0
    go_enter Tryz.func38, Tryz.ntmps38
    go_wp2_with (first
      | (go_at_call 40; refine (HN.out _).mono ?_; rintro e w' ⟨rfl, hm⟩)
      | fail)
    have c0 := (hm.cell (p := ⟨w.heap.size, 0, none⟩) (by simp) id).trans (hp_cell (hp_new _ _) 0)
    simp only [List.getElem?_toArray, List.getElem?_cons_zero] at c0
    have HM := Lib.hid (((Mod.refl (fun _ => False) w).alloc _).trans' hm)
    clear hm e1 e2
    go_loop [3, 4, 5] (fun i _ _ => ∃ k : Nat, k ≤ n ∧ i = .int .i64 k ∧ tyK s k = true) (fun i _ _ => n - (intOf i).toNat)
    case atStart => exact ⟨0, by omega, rfl, H0.out⟩
    case round =>
      obtain ⟨k, hk, rfl, hty⟩ := hrel
      have HTy := Lib.hid hty
      clear hty
      by_cases hlt : k < n
      · have hks : k < s.length := by rw [← HN2.out]; exact hlt
        obtain ⟨d, hd⟩ : ∃ d, d = s[k] := ⟨_, rfl⟩
        have h8 : ∀ h, (⟨s.toArray⟩ : ByteArray)[k]'h = d := fun h => by rw [hd]; rfl
        obtain ⟨x1, x2, x3, x4, x5, hct⟩ := cts d
        have HK := Lib.hid (show tyK s (k + 1) = (((x1 && x2) || x5 || (x3 && x4))) by rw [tyK_succ s k hks, ← hd, hct.typ, HTy.out, Bool.true_and])
        have HNo := Lib.hid (show tyK s (k + 1) = false → z = false from fun h => by
          rw [HZ.out]
          have ht : tyK s s.length = false := by
            cases hf : tyK s s.length
            · rfl
            · have h9 : typB d = false := by
                rw [tyK_succ s k hks, HTy.out, ← hd] at h; simpa using h
              unfold tyK at hf
              simp at hf
              have := hf.2 d (by rw [hd]; exact List.getElem_mem hks)
              rw [h9] at this; cases this
          exact ht)
        obtain ⟨e1, e2, e3, e4, e5⟩ := hct
        clear hd
        cases x1 <;> cases x2 <;> cases x3 <;> cases x4 <;> cases x5
        all_goals try (exfalso; simp only [decide_eq_true_eq, decide_eq_false_iff_not, beq_iff_eq, beq_eq_false_iff_ne, ne_eq] at e1 e2 e3 e4 e5; omega)
        all_goals
          go_wp2
          first
          | exact ⟨⟨k + 1, by omega, by go_num, by rw [HK.out]; rfl⟩, by simp only [intOf]; omega⟩
          | (obtain rfl := HNo.out (by rw [HK.out]; rfl)
             go_ret
             exact ⟨rfl, HM.out⟩)
      · obtain rfl : k = n := by omega
        obtain rfl : z = true := by rw [HZ.out, ← HN2.out]; exact HTy.out
        go_wp2
        go_ret
        exact ⟨rfl, HM.out⟩
end Go.Proofs.YtccnkcaagigceaaGreat
