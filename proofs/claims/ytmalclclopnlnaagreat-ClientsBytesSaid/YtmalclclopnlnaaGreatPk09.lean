/-
  Texts of this claim, one behind the other: EntryB, Qb, EntryC.
-/
import Derived.Test.YtmalclclopnlnaaGreatPk00
import Derived.Test.YtmalclclopnlnaaGreatPk08
import Derived.Lib.QuietBelow
import Derived.BigQuiet
/-
  The package entry and the document's layer 19: which names, types and attributes may be.
-/
namespace Go.Proofs.YtmalclclopnlnaaGreat
open Go.RowKit Go.Shelf
attribute [local go_sem] Oper.semAt_some

/-- A byte among a type's. -/
structure CT (d : UInt8) (x1 x2 x3 x4 x5 : Bool) : Prop where
  h1 : decide (97 ≤ (d.toNat : Int)) = x1
  h2 : decide ((d.toNat : Int) ≤ 122) = x2
  h3 : decide (48 ≤ (d.toNat : Int)) = x3
  h4 : decide ((d.toNat : Int) ≤ 57) = x4
  h5 : ((d.toNat : Int) == 45) = x5
theorem cts (d : UInt8) : ∃ x1 x2 x3 x4 x5, CT d x1 x2 x3 x4 x5 := ⟨_, _, _, _, _, rfl, rfl, rfl, rfl, rfl⟩
theorem CT.small {d : UInt8} {x1 x2 x3 x4 x5 : Bool} (h : CT d x1 x2 x3 x4 x5) : smallB d = (x1 && x2) := by
  unfold smallB
  rw [← h.h1, ← h.h2]
  rw [Bool.eq_iff_iff]; simp; omega
theorem CT.typ {d : UInt8} {x1 x2 x3 x4 x5 : Bool} (h : CT d x1 x2 x3 x4 x5) : typB d = ((x1 && x2) || x5 || (x3 && x4)) := by
  have k5 : decide (d.toNat = 45) = x5 := by rw [← h.h5, Bool.eq_iff_iff, decide_eq_true_eq, beq_iff_eq]; omega
  have k3 : decide (48 ≤ d.toNat) = x3 := by rw [← h.h3, decide_eq_decide]; omega
  have k4 : decide (d.toNat ≤ 57) = x4 := by rw [← h.h4, decide_eq_decide]; omega
  unfold typB
  rw [h.small, k3, k4, k5]
theorem esmall_any (d : UInt8) (w : World) : Calls Tryz.prog 136 #[.int .u8 d.toNat] w fun e w' => e = .returned (.bool (smallB d)) ∧ w = w' := by
  obtain ⟨x1, x2, x3, x4, x5, hc⟩ := cts d
  rw [hc.small]
  obtain ⟨h1, h2, -, -, -⟩ := hc
  cases x1 <;> cases x2
  all_goals
    go_enter Tryz.func136, Tryz.ntmps136
    go_wp2
    go_ret
    exact ⟨rfl, rfl⟩
def tyK (s : Bs) (k : Nat) : Bool := smallB (s.headD 0) && (s.take k).all typB
theorem tyK_succ (s : Bs) (k : Nat) (h : k < s.length) : tyK s (k + 1) = (tyK s k && typB s[k]) := by
  unfold tyK
  rw [List.take_succ_eq_append_getElem h, List.all_append]
  simp [Bool.and_assoc]
theorem mayTy_eq (s : Bs) (h1 : 1 ≤ s.length) (h2 : s.length ≤ 32) : mayTy s = tyK s s.length := by
  unfold mayTy tyK; simp [h1, h2]
set_option maxRecDepth 100000 in
set_option maxHeartbeats 2000000 in
theorem etype_any (s : Bs) (w : World) (hl : s.length ≤ 9223372036854775807) : Calls Tryz.prog 127 #[.string ⟨s.toArray⟩] w fun e w' => e = .returned (.bool (mayTy s)) ∧ w = w' := by
  rcases Nat.eq_zero_or_pos s.length with h0 | h0
  · have : s = [] := List.eq_nil_of_length_eq_zero h0
    subst this
    have hm : mayTy [] = false := rfl
    rw [hm]
    go_enter Tryz.func127, Tryz.ntmps127
    go_wp2
    go_loop [4, 5, 6, 26] (fun g _ _ i => g = .bool true ∧ i = .int .i64 0) (fun _ _ _ _ => 0)
    case atStart => exact ⟨rfl, rfl⟩
    case round =>
      obtain ⟨rfl, rfl⟩ := hrel
      go_wp2
      go_ret
      exact ⟨rfl, rfl⟩
  by_cases h2 : 32 < s.length
  · have hm : mayTy s = false := by unfold mayTy; simp; omega
    rw [hm]
    clear hm
    go_enter Tryz.func127, Tryz.ntmps127
    go_wp2
    go_ret
    exact ⟨rfl, rfl⟩
  obtain ⟨z, hz⟩ : ∃ z, z = mayTy s := ⟨_, rfl⟩
  rw [← hz]
  have HZ := Lib.hid (show z = tyK s s.length by rw [hz, mayTy_eq s h0 (by omega)])
  obtain ⟨c, hc⟩ : ∃ c, c = s[0] := ⟨_, rfl⟩
  have h7 : ∀ h, (⟨s.toArray⟩ : ByteArray)[0]'h = c := fun h => by rw [hc]; rfl
  have H0 := Lib.hid (show tyK s 0 = smallB c by unfold tyK; rw [hc]; cases s with | nil => simp at h0 | cons a s => simp)
  have HS := Lib.hid (fun d X => esmall_any d X)
  obtain ⟨n, hn⟩ : ∃ n, n = s.length := ⟨_, rfl⟩
  have hmk : (⟨s.toArray⟩ : ByteArray).size = n := by rw [hn]; rfl
  have HN := Lib.hid hn
  have hn0 : 0 < n := by omega
  have hn32 : n ≤ 32 := by omega
  obtain ⟨g0, hg0⟩ : ∃ g0, g0 = smallB c := ⟨_, rfl⟩
  have HG0 := Lib.hid hg0
  have HS0 := Lib.hid (HS.out c)
  rw [← hg0] at HS0
  clear hz hc hn h0 h2 hl hg0
  go_enter Tryz.func127, Tryz.ntmps127
  go_wp2_with (first
    | (go_at_call 136; refine (HS0.out _).mono ?_; rintro e w' ⟨rfl, rfl⟩)
    | fail)
  go_loop [4, 5, 6, 26] (fun g _ _ i => ∃ k : Nat, k ≤ n ∧ i = .int .i64 k ∧ g = .bool (tyK s k)) (fun _ _ _ i => n - (intOf i).toNat)
  case atStart => exact ⟨0, by omega, rfl, by rw [H0.out, HG0.out]⟩
  case round =>
    obtain ⟨k, hk, rfl, rfl⟩ := hrel
    by_cases hlt : k < n
    · have hks : k < s.length := by rw [← HN.out]; exact hlt
      obtain ⟨d, hd⟩ : ∃ d, d = s[k] := ⟨_, rfl⟩
      have h8 : ∀ h, (⟨s.toArray⟩ : ByteArray)[k]'h = d := fun h => by rw [hd]; rfl
      obtain ⟨x1, x2, x3, x4, x5, hct⟩ := cts d
      have HK := Lib.hid (show tyK s (k + 1) = (tyK s k && ((x1 && x2) || x5 || (x3 && x4))) by rw [tyK_succ s k hks, ← hd, hct.typ])
      have HSd := Lib.hid (HS.out d)
      rw [hct.small] at HSd
      obtain ⟨-, -, e3, e4, e5⟩ := hct
      generalize tyK s k = g at *
      clear hd
      cases g
      · clear e3 e4 e5
        go_wp2
        exact ⟨⟨k + 1, by omega, by go_num, by rw [HK.out]; rfl⟩, by simp only [intOf]; omega⟩
      generalize (x1 && x2) = q at *
      cases q
      case' true => clear e3 e4 e5
      case' false =>
        cases x5
        case' true => clear e3 e4
        case' false =>
          cases x3
          case' false => clear e4
          case' true => cases x4
      all_goals
        go_wp2_with (first
          | (go_at_call 136; refine (HSd.out _).mono ?_; rintro e w' ⟨rfl, rfl⟩)
          | fail)
        exact ⟨⟨k + 1, by omega, by go_num, by rw [HK.out]; rfl⟩, by simp only [intOf]; omega⟩
    · obtain rfl : k = n := by omega
      have hz : tyK s k = z := by rw [HZ.out, ← HN.out]
      rw [hz]
      clear hz
      cases z
      all_goals
        go_wp2
        go_ret
        exact ⟨rfl, rfl⟩
theorem ename_any (s : Bs) (w : World) (hl : s.length ≤ 9223372036854775807) : Calls Tryz.prog 90 #[.string ⟨s.toArray⟩] w fun e w' => e = .returned (.bool (mayNm s)) ∧ Mod (fun _ => False) w w' := by
  unfold mayNm
  by_cases h : s.length ≤ 1000
  · have HV := Lib.hid (fun X => uvalid_any s X (by omega))
    have he : decide (s.length ≤ 1000) = true := by simpa using h
    rw [he, Bool.true_and]
    obtain ⟨z, hz⟩ : ∃ z, z = validU s := ⟨_, rfl⟩
    rw [← hz] at HV ⊢
    clear hz he
    go_enter Tryz.func90, Tryz.ntmps90
    go_wp2_with (first
      | (go_at_call 113; refine (HV.out _).mono ?_; rintro e w' ⟨rfl, hm⟩)
      | fail)
    go_ret
    exact ⟨rfl, hm⟩
  · have he : decide (s.length ≤ 1000) = false := by simpa using h
    rw [he, Bool.false_and]
    clear he
    go_enter Tryz.func90, Tryz.ntmps90
    go_wp2
    go_ret
    exact ⟨rfl, Mod.refl _ _⟩
theorem rname_any (s : Bs) (w : World) (hl : s.length ≤ 9223372036854775807) : Calls Tryz.prog 60 #[.string ⟨s.toArray⟩] w fun e w' => e = .returned (.bool (mayNm s)) ∧ Mod (fun _ => False) w w' := by
  unfold mayNm
  by_cases h : s.length ≤ 1000
  · have HV := Lib.hid (fun X => rvalid_any s X (by omega))
    have he : decide (s.length ≤ 1000) = true := by simpa using h
    rw [he, Bool.true_and]
    obtain ⟨z, hz⟩ : ∃ z, z = validU s := ⟨_, rfl⟩
    rw [← hz] at HV ⊢
    clear hz he
    go_enter Tryz.func60, Tryz.ntmps60
    go_wp2_with (first
      | (go_at_call 83; refine (HV.out _).mono ?_; rintro e w' ⟨rfl, hm⟩)
      | fail)
    go_ret
    exact ⟨rfl, hm⟩
  · have he : decide (s.length ≤ 1000) = false := by simpa using h
    rw [he, Bool.false_and]
    clear he
    go_enter Tryz.func60, Tryz.ntmps60
    go_wp2
    go_ret
    exact ⟨rfl, Mod.refl _ _⟩
theorem eattr_any (a : At) (w : World) (h1 : a.T.length ≤ 9223372036854775807) (h2 : a.V.length ≤ 9223372036854775807) : Calls Tryz.prog 114 #[a.val] w fun e w' => e = .returned (.bool (mayA a)) ∧ Mod (fun _ => False) w w' := by
  unfold mayA At.val
  have HT := Lib.hid (fun X => etype_any a.T X h1)
  have HN := Lib.hid (fun X => ename_any a.V X h2)
  obtain ⟨z1, hz1⟩ : ∃ z, z = mayTy a.T := ⟨_, rfl⟩
  obtain ⟨z2, hz2⟩ : ∃ z, z = mayNm a.V := ⟨_, rfl⟩
  rw [← hz1] at HT ⊢
  rw [← hz2] at HN ⊢
  clear hz1 hz2
  cases z1
  all_goals
    go_enter Tryz.func114, Tryz.ntmps114
    go_wp2_with (first
      | (go_at_call 127; refine (HT.out _).mono ?_; rintro e w' ⟨rfl, rfl⟩)
      | (go_at_call 90; refine (HN.out _).mono ?_; rintro e w' ⟨rfl, hm⟩)
      | fail)
    go_ret
    first
    | exact ⟨rfl, ((Mod.refl _ w).alloc _).trans' hm⟩
    | exact ⟨rfl, by (repeat' (first | exact Mod.refl _ _ | assumption | refine Mod.alloc ?_ _ | refine Mod.drew ?_ | refine Mod.drewN ?_ _ | refine Mod.setCell ?_ (by first | exact Or.inl rfl | (right; simp; done) | (right; simp; omega) | (left; simp; done)) _))⟩
set_option maxRecDepth 100000 in
set_option maxHeartbeats 4000000 in
theorem rattr_any (a : At) (w : World) (hl1 : a.T.length ≤ 9223372036854775807) (hl2 : a.V.length ≤ 9223372036854775807) : Calls Tryz.prog 84 #[a.val] w fun e w' => e = .returned (.bool (mayA a)) ∧ Mod (fun _ => False) w w' := by
  obtain ⟨s, v⟩ := a
  obtain ⟨z, hz⟩ : ∃ z, z = mayA ⟨s, v⟩ := ⟨_, rfl⟩
  rw [← hz]
  unfold At.val
  simp only at hl1 hl2 ⊢
  unfold mayA at hz
  simp only at hz
  have HN := Lib.hid (fun X => rname_any v X hl2)
  rcases Nat.eq_zero_or_pos s.length with h0 | h0
  · have : s = [] := List.eq_nil_of_length_eq_zero h0
    subst this
    obtain rfl : z = false := by rw [hz]; rfl
    clear hz
    go_enter Tryz.func84, Tryz.ntmps84
    go_wp2
    go_ret
    exact ⟨rfl, by (repeat' (first | exact Mod.refl _ _ | assumption | refine Mod.alloc ?_ _ | refine Mod.drew ?_ | refine Mod.drewN ?_ _ | refine Mod.setCell ?_ (by first | exact Or.inl rfl | (right; simp; done) | (right; simp; omega) | (left; simp; done)) _))⟩
  by_cases h2 : 32 < s.length
  · obtain rfl : z = false := by rw [hz]; unfold mayTy; simp; omega
    clear hz
    go_enter Tryz.func84, Tryz.ntmps84
    go_wp2
    go_ret
    exact ⟨rfl, by (repeat' (first | exact Mod.refl _ _ | assumption | refine Mod.alloc ?_ _ | refine Mod.drew ?_ | refine Mod.drewN ?_ _ | refine Mod.setCell ?_ (by first | exact Or.inl rfl | (right; simp; done) | (right; simp; omega) | (left; simp; done)) _))⟩
  obtain ⟨c, hc⟩ : ∃ c, c = s[0] := ⟨_, rfl⟩
  have h7 : ∀ h, (⟨s.toArray⟩ : ByteArray)[0]'h = c := fun h => by rw [hc]; rfl
  have H0 := Lib.hid (show tyK s 0 = smallB c by unfold tyK; rw [hc]; cases s with | nil => simp at h0 | cons a s => simp)
  have HZ := Lib.hid (show z = (tyK s s.length && mayNm v) by rw [hz, mayTy_eq s h0 (by omega)])
  obtain ⟨n, hn⟩ : ∃ n, n = s.length := ⟨_, rfl⟩
  have hmk : (⟨s.toArray⟩ : ByteArray).size = n := by rw [hn]; rfl
  have HN2 := Lib.hid hn
  have hn0 : 0 < n := by omega
  have hn32 : n ≤ 32 := by omega
  obtain ⟨nm, hnm⟩ : ∃ nm, nm = mayNm v := ⟨_, rfl⟩
  rw [← hnm] at HN HZ
  obtain ⟨y1, y2, y3, y4, y5, hct⟩ := cts c
  rw [hct.small] at H0
  have e1 : decide ((c.toNat : Int) < 97) = !y1 := by rw [← hct.h1, Bool.eq_iff_iff]; simp
  have e2 : decide (122 < (c.toNat : Int)) = !y2 := by rw [← hct.h2, Bool.eq_iff_iff]; simp
  have HF := Lib.hid (show ∀ k, tyK s k = true → tyK s 0 = true from fun k h => by unfold tyK at *; simp at h ⊢; exact h.1)
  clear hz hc hn h0 h2 hl1 hl2 hnm hct
  cases y1
  · obtain rfl : z = false := by
      rw [HZ.out]
      cases hk : tyK s s.length
      · rfl
      · have := HF.out _ hk; rw [H0.out] at this; cases this
    clear HZ e2
    go_enter Tryz.func84, Tryz.ntmps84
    go_wp2
    go_ret
    exact ⟨rfl, by (repeat' (first | exact Mod.refl _ _ | assumption | refine Mod.alloc ?_ _ | refine Mod.drew ?_ | refine Mod.drewN ?_ _ | refine Mod.setCell ?_ (by first | exact Or.inl rfl | (right; simp; done) | (right; simp; omega) | (left; simp; done)) _))⟩
  cases y2
  · obtain rfl : z = false := by
      rw [HZ.out]
      cases hk : tyK s s.length
      · rfl
      · have := HF.out _ hk; rw [H0.out] at this; cases this
    clear HZ
    go_enter Tryz.func84, Tryz.ntmps84
    go_wp2
    go_ret
    exact ⟨rfl, by (repeat' (first | exact Mod.refl _ _ | assumption | refine Mod.alloc ?_ _ | refine Mod.drew ?_ | refine Mod.drewN ?_ _ | refine Mod.setCell ?_ (by first | exact Or.inl rfl | (right; simp; done) | (right; simp; omega) | (left; simp; done)) _))⟩
  cases nm
  · obtain rfl : z = false := by rw [HZ.out, Bool.and_false]
    clear HZ
    go_enter Tryz.func84, Tryz.ntmps84
    go_wp2_with (first
      | (go_at_call 60; refine (HN.out _).mono ?_; rintro e w' ⟨rfl, hm⟩)
      | fail)
    go_ret
    exact ⟨rfl, ((Mod.refl _ w).alloc _).trans' hm⟩
  · rw [Bool.and_true] at HZ
    simp only [Bool.and_self] at H0
    go_enter Tryz.func84, Tryz.ntmps84
    go_wp2_with (first
      | (go_at_call 60; refine (HN.out _).mono ?_; rintro e w' ⟨rfl, hm⟩)
      | fail)
    have c0 := (hm.cell (p := ⟨w.heap.size, 0, none⟩) (by simp) id).trans (hp_cell (hp_new _ _) 0)
    simp only [List.getElem?_toArray, List.getElem?_cons_zero] at c0
    have HM := Lib.hid (((Mod.refl (fun _ => False) w).alloc _).trans' hm)
    clear hm e1 e2
    go_loop [3, 4, 5] (fun i _ _ => ∃ k : Nat, k ≤ n ∧ i = .int .i64 k ∧ tyK s k = true) (fun i _ _ => n - (intOf i).toNat)
    case atStart => exact ⟨0, by omega, rfl, H0.out⟩
    case round =>
      obtain ⟨k, hk, rfl, hty⟩ := hrel
      have HTy := Lib.hid hty
      clear hty
      by_cases hlt : k < n
      · have hks : k < s.length := by rw [← HN2.out]; exact hlt
        obtain ⟨d, hd⟩ : ∃ d, d = s[k] := ⟨_, rfl⟩
        have h8 : ∀ h, (⟨s.toArray⟩ : ByteArray)[k]'h = d := fun h => by rw [hd]; rfl
        obtain ⟨x1, x2, x3, x4, x5, hct⟩ := cts d
        have HK := Lib.hid (show tyK s (k + 1) = (((x1 && x2) || x5 || (x3 && x4))) by rw [tyK_succ s k hks, ← hd, hct.typ, HTy.out, Bool.true_and])
        have HNo := Lib.hid (show tyK s (k + 1) = false → z = false from fun h => by
          rw [HZ.out]
          have ht : tyK s s.length = false := by
            cases hf : tyK s s.length
            · rfl
            · have h9 : typB d = false := by
                rw [tyK_succ s k hks, HTy.out, ← hd] at h; simpa using h
              unfold tyK at hf
              simp at hf
              have := hf.2 d (by rw [hd]; exact List.getElem_mem hks)
              rw [h9] at this; cases this
          exact ht)
        obtain ⟨e1, e2, e3, e4, e5⟩ := hct
        clear hd
        cases x1 <;> cases x2 <;> cases x3 <;> cases x4 <;> cases x5
        all_goals try (exfalso; simp only [decide_eq_true_eq, decide_eq_false_iff_not, beq_iff_eq, beq_eq_false_iff_ne, ne_eq] at e1 e2 e3 e4 e5; omega)
        all_goals
          go_wp2
          first
          | exact ⟨⟨k + 1, by omega, by go_num, by rw [HK.out]; rfl⟩, by simp only [intOf]; omega⟩
          | (obtain rfl := HNo.out (by rw [HK.out]; rfl)
             go_ret
             exact ⟨rfl, HM.out⟩)
      · obtain rfl : k = n := by omega
        obtain rfl : z = true := by rw [HZ.out, ← HN2.out]; exact HTy.out
        go_wp2
        go_ret
        exact ⟨rfl, HM.out⟩
end Go.Proofs.YtmalclclopnlnaaGreat
/-
  A region that draws its order, whose operations read and whose callees may lay blocks: one walk in the order of the text.
-/
namespace Go.Proofs.YtmalclclopnlnaaGreat
open Go.RowKit Go.Sort

section
variable {P : Program} {f : FuncId} {args : Array Value} {w : World} {v : Value}
theorem mod_regrown (w : World) (d : Nat) (os : Array Obj) : Mod (fun _ => False) w (grow (redrawn w d) os) :=
  Mod.of_below (below_regrown w d os) _ (fun b h1 h2 => by omega)
theorem mod_of_regrown {w' : World} (h : ∃ p : Regrown, w' = grow (redrawn w p.d) p.os) : Mod (fun _ => False) w w' := by
  obtain ⟨p, rfl⟩ := h
  exact mod_regrown w p.d p.os
theorem regrown_of_mod {w' : World} (h : Mod (fun _ => False) w w') : ∃ p : Regrown, w' = grow (redrawn w p.d) p.os :=
  regrown_of_below (h.below (fun _ h => h.elim) (Nat.le_refl _))
/-- A callee's contract, at whatever world behind w. -/
theorem regM {d : Nat} {os : Array Obj} (h : ∀ X, Mod (fun _ => False) w X → Calls P f args X fun e w' => e = .returned v ∧ Mod (fun _ => False) X w') :
    Calls P f args (grow (redrawn w d) os) fun e w'' => e = .returned v ∧ ∃ p : Regrown, w'' = grow (redrawn w p.d) p.os :=
  (h _ (mod_regrown w d os)).mono fun _ _ ⟨he, hm⟩ => ⟨he, regrown_of_mod ((mod_regrown w d os).trans' hm)⟩
theorem regE {d : Nat} {os : Array Obj} (h : ∀ X, Mod (fun _ => False) w X → Calls P f args X fun e w' => e = .returned v ∧ X = w') :
    Calls P f args (grow (redrawn w d) os) fun e w'' => e = .returned v ∧ ∃ p : Regrown, w'' = grow (redrawn w p.d) p.os :=
  regM fun X hX => (h X hX).mono fun _ _ ⟨he, hm⟩ => ⟨he, by rw [← hm]; exact Mod.refl _ _⟩
end
end Go.Proofs.YtmalclclopnlnaaGreat
/-
  Lists of attributes that may be; entries that may be.
-/
namespace Go.Proofs.YtmalclclopnlnaaGreat
open Go.RowKit Go.Shelf
attribute [local go_sem] Oper.semAt_some

theorem wp_asE {P : Program} {c : Code} {Q : Exit → Act → World → Prop} {a : Act} {w : World} (Φ : World → Prop) (hΦ : Φ w) (h : ∀ W, Φ W → c.wp P Q a W) : c.wp P Q a w := h w hΦ
def FitA (a : At) : Prop := a.T.length ≤ 9223372036854775807 ∧ a.V.length ≤ 9223372036854775807
/-- The cells of element k, at hand. -/
theorem rd2 {D : Nat → Prop} {w : World} {A : Option Addr} {xs : List At} (h : Rd D w 2 At.cs A xs) {k : Nat} (hk : k < xs.length) :
    ∃ b off, A = some ⟨b, off, none⟩ ∧ D b ∧ w.cell? ⟨b, off + k * 2, none⟩ = some (.string ⟨xs[k].T.toArray⟩) ∧ w.cell? ⟨b, off + k * 2 + 1, none⟩ = some (.string ⟨xs[k].V.toArray⟩) := by
  obtain ⟨b, off, rfl, hd, hc⟩ := h (by omega)
  exact ⟨b, off, rfl, hd, hc k hk 0 _ rfl, hc k hk 1 _ rfl⟩
theorem mayAs_no {xs : List At} {k : Nat} (hk : k < xs.length) (h : okAt xs k = false) : mayAs xs = false := by
  cases hm : mayAs xs
  · rfl
  · unfold mayAs at hm
    rw [Bool.and_eq_true, List.all_eq_true] at hm
    rw [hm.2 k (List.mem_range.2 hk)] at h; cases h
theorem mayAs_yes {xs : List At} (h : ∀ i, i < xs.length → okAt xs i = true) : mayAs xs = decide (xs.length ≤ 50) := by
  unfold mayAs
  rw [List.all_eq_true.2 fun i hi => h i (List.mem_range.1 hi), Bool.and_true]
theorem ltA_cmp (a b : At) : decide (0 ≤ cmpA a b) = !ltA a b := by
  unfold ltA
  rcases cmpA_range a b with h | h | h <;> rw [h] <;> rfl
theorem rless_any (a b : At) (w : World) : Calls Tryz.prog 85 #[a.val, b.val] w fun e w' => e = .returned (.bool (ltA a b)) ∧ (w.alloc a.box).alloc b.box = w' := by
  obtain ⟨z, hz⟩ : ∃ z, z = ltA a b := ⟨_, rfl⟩
  rw [← hz]
  rw [ltA_less] at hz
  obtain ⟨aT, aV⟩ := a
  obtain ⟨bT, bV⟩ := b
  unfold At.val At.box
  simp only at hz ⊢
  obtain ⟨x1, e1⟩ : ∃ x, Op.bytesLess aT bT = x := ⟨_, rfl⟩
  obtain ⟨x2, e2⟩ : ∃ x, decide (aT = bT) = x := ⟨_, rfl⟩
  obtain ⟨x3, e3⟩ : ∃ x, Op.bytesLess aV bV = x := ⟨_, rfl⟩
  rw [e1, e2, e3] at hz
  subst hz
  have e2' : (aT == bT) = x2 := by rw [← e2, Bool.eq_iff_iff]; simp
  have t1 : (⟨aT.toArray⟩ : ByteArray).toList = aT := by simp
  have t2 : (⟨bT.toArray⟩ : ByteArray).toList = bT := by simp
  have t3 : (⟨aV.toArray⟩ : ByteArray).toList = aV := by simp
  have t4 : (⟨bV.toArray⟩ : ByteArray).toList = bV := by simp
  cases x1 <;> cases x2 <;> cases x3
  all_goals
    go_enter Tryz.func85, Tryz.ntmps85
    go_wp2
    go_ret
    exact ⟨rfl, rfl⟩
set_option maxRecDepth 100000 in
set_option maxHeartbeats 4000000 in
theorem emays_any (A : Option Addr) (c : Nat) (xs : List At) (w : World) (hA : Rd (fun b => b < w.heap.size) w 2 At.cs A xs) (hl : xs.length ≤ 1099511627776) (hf : ∀ a ∈ xs, FitA a) :
    Calls Tryz.prog 91 #[.slice A xs.length c] w fun e w' => e = .returned (.bool (mayAs xs)) ∧ Mod (fun _ => False) w w' := by
  obtain ⟨z, hz⟩ : ∃ z, z = mayAs xs := ⟨_, rfl⟩
  rw [← hz]
  have HZ := Lib.hid hz
  obtain ⟨n, hn⟩ : ∃ n, n = xs.length := ⟨_, rfl⟩
  rw [← hn] at hl ⊢
  have HN := Lib.hid hn
  have HF := Lib.hid hf
  have HA := Lib.hid (fun X (hX : Mod (fun _ => False) w X) => (hA.mod hX (fun b hb => ⟨hb, id⟩)))
  clear hA hz hn hf
  go_enter Tryz.func91, Tryz.ntmps91
  go_wp2
  go_loopw [7] (fun i wr => ∃ k : Nat, k ≤ n ∧ i = .int .i64 k ∧ (∀ i, i < k → okAt xs i = true) ∧ Mod (fun _ => False) w wr) (fun i _ => n - (intOf i).toNat)
  case atStart => exact ⟨0, by omega, rfl, fun i h => by omega, Mod.refl _ _⟩
  case round =>
    obtain ⟨k, hk, rfl, hok, hm⟩ := hrel
    have HOk := Lib.hid hok
    have HM := Lib.hid hm
    clear hok hm
    by_cases hlt : k < n
    · have hkx : k < xs.length := by rw [← HN.out]; exact hlt
      obtain ⟨b, off, rfl, hbl, k0, k1⟩ := rd2 (HA.out _ HM.out) hkx
      obtain ⟨x, hx⟩ : ∃ x, x = xs[k] := ⟨_, rfl⟩
      rw [← hx] at k0 k1
      have hfx := HF.out x (by rw [hx]; exact List.getElem_mem hkx)
      have HAt := Lib.hid (fun X => eattr_any x X hfx.1 hfx.2)
      have HO := Lib.hid (show okAt xs k = (mayA x && (decide (k = 0) || ltA (xs.getD (k - 1) ⟨[], []⟩) x)) by rw [okAt_at hkx, ← hx])
      have HX := Lib.hid hx
      clear hx hfx
      obtain ⟨m, hm⟩ : ∃ m, m = mayA x := ⟨_, rfl⟩
      rw [← hm] at HAt HO
      clear hm
      obtain ⟨xT, xV⟩ := x
      unfold At.val at HAt
      simp only at HAt k0 k1
      cases m
      · have hno := Lib.hid (show z = false by rw [HZ.out]; exact mayAs_no hkx (by rw [HO.out]; rfl))
        go_wp2
        refine wp_asE (fun W => W.heap[wr.heap.size]? = some (.cells #[.string ⟨xT.toArray⟩, .string ⟨xV.toArray⟩] 144 (0, 0)) ∧ Mod (fun _ => False) w W) ⟨by (repeat' (first | exact hp_new _ _ | exact hp_at _ _ (by simp; done) | refine hp_alloc ?_ _ | refine hp_drew ?_ | refine hp_drewN ?_ _ | apply hp_set | refine hp_far ?_ (by first | (simp; omega) | (simp; done)) _)), by have := HM.out; (repeat' (first | exact Mod.refl _ _ | assumption | refine Mod.alloc ?_ _ | refine Mod.drew ?_ | refine Mod.drewN ?_ _ | refine Mod.setCell ?_ (by first | exact Or.inl rfl | (right; simp; done) | (right; simp; omega) | (left; simp; done)) _))⟩ ?_
        rintro W ⟨hx0, hm0⟩
        have a0 := cell_regrown (hp_cell hx0 0)
        have a1 := cell_regrown (hp_cell hx0 1)
        have HM0 := Lib.hid hm0
        clear hx0 hm0
        refine wp_region_quiet_below (by kernel_rfl) (by kernel_rfl) ?_
        repeat (go_big_quiet_step ((first | (go_at_call 114; exact regM fun X _ => HAt.out X) | fail)))
        refine wpQuiet_nil ?_
        intro W1 hW1
        have HM1 := Lib.hid (HM0.out.trans' (mod_of_regrown hW1))
        clear hW1 a0 a1
        have hzz := hno.out
        subst hzz
        go_wp2
        go_ret
        exact ⟨rfl, HM1.out⟩
      · obtain ⟨q0, hq0⟩ | ⟨j, rfl⟩ : (∃ q0 : Unit, k = 0) ∨ ∃ j, k = j + 1 := by
          cases k with
          | zero => exact .inl ⟨(), rfl⟩
          | succ j => exact .inr ⟨j, rfl⟩
        · subst hq0
          simp only [Nat.zero_mul, Nat.add_zero] at k0 k1
          have hyes := Lib.hid (show okAt xs 0 = true by rw [HO.out]; rfl)
          go_wp2
          refine wp_asE (fun W => W.heap[wr.heap.size]? = some (.cells #[.string ⟨xT.toArray⟩, .string ⟨xV.toArray⟩] 144 (0, 0)) ∧ Mod (fun _ => False) w W) ⟨by (repeat' (first | exact hp_new _ _ | exact hp_at _ _ (by simp; done) | refine hp_alloc ?_ _ | refine hp_drew ?_ | refine hp_drewN ?_ _ | apply hp_set | refine hp_far ?_ (by first | (simp; omega) | (simp; done)) _)), by have := HM.out; (repeat' (first | exact Mod.refl _ _ | assumption | refine Mod.alloc ?_ _ | refine Mod.drew ?_ | refine Mod.drewN ?_ _ | refine Mod.setCell ?_ (by first | exact Or.inl rfl | (right; simp; done) | (right; simp; omega) | (left; simp; done)) _))⟩ ?_
          rintro W ⟨hx0, hm0⟩
          have a0 := cell_regrown (hp_cell hx0 0)
          have a1 := cell_regrown (hp_cell hx0 1)
          have HM0 := Lib.hid hm0
          clear hx0 hm0
          refine wp_region_quiet_below (by kernel_rfl) (by kernel_rfl) ?_
          repeat (go_big_quiet_step ((first | (go_at_call 114; exact regM fun X _ => HAt.out X) | fail)))
          refine wpQuiet_nil ?_
          intro W1 hW1
          have HM1 := Lib.hid (HM0.out.trans' (mod_of_regrown hW1))
          clear hW1 a0 a1
          go_wp2
          have hall : ∀ i, i < 1 → okAt xs i = true := fun i hi => by
            obtain rfl : i = 0 := by omega
            exact hyes.out
          exact ⟨⟨1, by omega, rfl, hall, HM1.out⟩, by simp only [intOf]; omega⟩
        · have hjx : j < xs.length := by omega
          obtain ⟨b', off', he, hbl', p0, p1⟩ := rd2 (HA.out _ HM.out) hjx
          injection he with he
          injection he with e1 e2
          subst e1 e2
          obtain ⟨y, hy⟩ : ∃ y, y = xs[j] := ⟨_, rfl⟩
          rw [← hy] at p0 p1
          have HO2 := Lib.hid (show okAt xs (j + 1) = ltA y ⟨xT, xV⟩ by
            rw [HO.out, Nat.add_sub_cancel, List.getD_eq_getElem?_getD, List.getElem?_eq_getElem hjx, Option.getD_some, ← hy]; simp)
          obtain ⟨yT, yV⟩ := y
          simp only at p0 p1
          have HC := Lib.hid (fun X => ecompare_any ⟨yT, yV⟩ ⟨xT, xV⟩ X)
          obtain ⟨q, hq⟩ : ∃ q, q = cmpA ⟨yT, yV⟩ ⟨xT, xV⟩ := ⟨_, rfl⟩
          obtain ⟨lt, hlt2⟩ : ∃ lt, lt = ltA ⟨yT, yV⟩ ⟨xT, xV⟩ := ⟨_, rfl⟩
          have hge : decide (0 ≤ q) = !lt := by rw [hq, hlt2]; exact ltA_cmp _ _
          unfold At.val at HC
          simp only at HC
          rw [← hq] at HC
          rw [← hlt2] at HO2
          clear hq hlt2 hy
          have hw1 : IntKind.i64.wrap (j : Int) = j := IntWalk.i64_in _ (by omega)
          go_wp2
          refine wp_asE (fun W => W.heap[wr.heap.size]? = some (.cells #[.string ⟨xT.toArray⟩, .string ⟨xV.toArray⟩] 144 (0, 0)) ∧ Mod (fun _ => False) wr W) ⟨by (repeat' (first | exact hp_new _ _ | exact hp_at _ _ (by simp; done) | refine hp_alloc ?_ _ | refine hp_drew ?_ | refine hp_drewN ?_ _ | apply hp_set | refine hp_far ?_ (by first | (simp; omega) | (simp; done)) _)), by (repeat' (first | exact Mod.refl _ _ | assumption | refine Mod.alloc ?_ _ | refine Mod.drew ?_ | refine Mod.drewN ?_ _ | refine Mod.setCell ?_ (by first | exact Or.inl rfl | (right; simp; done) | (right; simp; omega) | (left; simp; done)) _))⟩ ?_
          rintro W ⟨hx0, hm0⟩
          have a0 := cell_regrown (hp_cell hx0 0)
          have a1 := cell_regrown (hp_cell hx0 1)
          have b0 := cell_regrown ((hm0.cell (p := ⟨b, off + j * 2, none⟩) (World.block_lt_of_cell? wr _ p0) id).trans p0)
          have b1 := cell_regrown ((hm0.cell (p := ⟨b, off + j * 2 + 1, none⟩) (World.block_lt_of_cell? wr _ p1) id).trans p1)
          have HM0 := Lib.hid (HM.out.trans' hm0)
          clear hx0 hm0 p0 p1
          refine wp_region_quiet_below (by kernel_rfl) (by kernel_rfl) ?_
          repeat (go_big_quiet_step ((first | (go_at_call 114; exact regM fun X _ => HAt.out X) | (go_at_call 115; exact regM fun X _ => (HC.out X).mono fun _ _ ⟨he, hm⟩ => ⟨he, by rw [← hm]; (repeat' (first | exact Mod.refl _ _ | assumption | refine Mod.alloc ?_ _ | refine Mod.drew ?_ | refine Mod.drewN ?_ _ | refine Mod.setCell ?_ (by first | exact Or.inl rfl | (right; simp; done) | (right; simp; omega) | (left; simp; done)) _))⟩) | fail)))
          refine wpQuiet_nil ?_
          intro W1 hW1
          have HM1 := Lib.hid (HM0.out.trans' (mod_of_regrown hW1))
          clear hW1 a0 a1 b0 b1
          cases lt
          · obtain rfl : z = false := by rw [HZ.out]; exact mayAs_no hkx HO2.out
            go_wp2
            go_ret
            exact ⟨rfl, HM1.out⟩
          · go_wp2
            have hall : ∀ i, i < j + 1 + 1 → okAt xs i = true := fun i hi => by
              rcases Nat.lt_or_ge i (j + 1) with h | h
              · exact HOk.out i h
              · obtain rfl : i = j + 1 := by omega
                exact HO2.out
            exact ⟨⟨j + 1 + 1, by omega, by go_num, hall, HM1.out⟩, by simp only [intOf]; omega⟩
    · obtain rfl : k = n := by omega
      have hz : z = decide (k ≤ 50) := by rw [HZ.out, HN.out]; exact mayAs_yes fun i hi => HOk.out i (by rw [HN.out]; exact hi)
      have HZ2 := Lib.hid hz
      clear hz
      go_wp2
      go_ret
      refine ⟨ret_bool ?_, HM.out⟩
      rw [HZ2.out, decide_eq_decide]; omega
end Go.Proofs.YtmalclclopnlnaaGreat
