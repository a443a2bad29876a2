/-
  The reference of the package tlv: a reader.
-/
import Derived.Test.YtccnkcaagigceaaGreatRefA
import Derived.Test.YtccnkcaagigceaaGreatTlvE
namespace Go.Proofs.YtccnkcaagigceaaGreat
open Go.RowKit Go.Shelf
attribute [local go_sem] Oper.semAt_some

/-- The reference's reader lies in block p: the bytes that are left, in blocks of D, and whether it failed. -/
def FrAt (D : Nat → Prop) (p : Nat) (w : World) (s : Bs) (bad : Bool) : Prop :=
  ∃ A n c, w.heap[p]? = some (.cells #[.slice A n c, .bool bad] 59 (0, 0)) ∧ Rd D w 1 csU A s ∧ n = s.length ∧ n ≤ c ∧ ∀ b, D b → b ≠ p ∧ b < w.heap.size
theorem FrAt.lt {D : Nat → Prop} {p : Nat} {w : World} {s : Bs} {bad : Bool} (h : FrAt D p w s bad) : p < w.heap.size := by
  obtain ⟨A, n, c, hp, _⟩ := h
  exact hp_lt hp
theorem FrAt.keep {D C : Nat → Prop} {p : Nat} {w w' : World} {s : Bs} {bad : Bool} (h : FrAt D p w s bad) (hm : Mod C w w') (hp : ¬ C p) (hn : ∀ b, D b → ¬ C b) : FrAt D p w' s bad := by
  obtain ⟨A, n, c, h1, h2, h3, h4, h5⟩ := h
  exact ⟨A, n, c, hp_mod h1 hm hp, h2.keep (hm.agree fun b hb => ⟨(h5 b hb).2, hn b hb⟩), h3, h4, fun b hb => ⟨(h5 b hb).1, Nat.lt_of_lt_of_le (h5 b hb).2 hm.size⟩⟩
theorem FrAt.fault {D : Nat → Prop} {p : Nat} {s : Bs} {bad : Bool} {w : World} (h : FrAt D p w s bad) (q : Nat) : FrAt D p ((w.drewN q).setCell ⟨p, 1, none⟩ (.bool true)) s true ∧ Mod (fun b => b = p) w ((w.drewN q).setCell ⟨p, 1, none⟩ (.bool true)) := by
  obtain ⟨A, n, c, hp, hr, hn, hc, hd⟩ := h
  have hm : Mod (fun b => b = p) w ((w.drewN q).setCell ⟨p, 1, none⟩ (.bool true)) := by (repeat' (first | exact Mod.refl _ _ | assumption | refine Mod.alloc ?_ _ | refine Mod.drew ?_ | refine Mod.drewN ?_ _ | refine Mod.setCell ?_ (by first | exact Or.inl rfl | (right; simp; done) | (right; simp; omega) | (left; simp; done)) _))
  refine ⟨⟨A, n, c, hp_eq (hp_set (hp_drewN hp q) 1 _) rfl, ?_, hn, hc, fun b hb => ⟨(hd b hb).1, Nat.lt_of_lt_of_le (hd b hb).2 hm.size⟩⟩, hm⟩
  exact hr.keep (hm.agree fun b hb => ⟨(hd b hb).2, (hd b hb).1⟩)
/-- What the reference's Take answers and leaves. -/
def FTakeEnds (D : Nat → Prop) (p : Nat) (g : Bs × Bs × Bool) (w : World) (r : Ending) (w' : World) : Prop :=
  ∃ A c, r = .returned (.slice A g.1.length c) ∧ g.1.length ≤ c ∧ SlA A c ∧ Rd D w' 1 csU A g.1 ∧ FrAt D p w' g.2.1 g.2.2 ∧ Mod (fun b => b = p) w w'
set_option maxRecDepth 100000 in
set_option maxHeartbeats 4000000 in
theorem ftake_any (D : Nat → Prop) (p : Nat) (s : Bs) (bad : Bool) (t : UInt8) (w : World) (h : FrAt D p w s bad) (hsz : s.length ≤ 1099511627776) :
    Calls Tryz.prog 52 #[.pointer (some ⟨p, 0, none⟩), .int .u8 (t.toNat : Int)] w (FTakeEnds D p (gotV t s bad) w) := by
  have HH := Lib.hid h
  obtain ⟨A, n, c, hp, hr, hn, hc, hd⟩ := h
  have q0 : w.cell? ⟨p, 0, none⟩ = some (.slice A n c) := by rw [hp_cell hp]; rfl
  have q1 : w.cell? ⟨p, 0 + 1, none⟩ = some (.bool bad) := by rw [hp_cell hp]; rfl
  have q1' : w.cell? ⟨p, 1, none⟩ = some (.bool bad) := by rw [hp_cell hp]; rfl
  have f0 : w.frozen? ⟨p, 0, none⟩ = false := hp_free hp _
  have f1 : w.frozen? ⟨p, 0 + 1, none⟩ = false := hp_free hp _
  have f1' : w.frozen? ⟨p, 1, none⟩ = false := hp_free hp _
  have hf := ffirst_any _ A c s w hr hsz (by rw [← hn]; exact hc)
  rw [← hn] at hf hsz
  have HF := Lib.hid hf
  have HP := Lib.hid hp
  have HR := Lib.hid hr
  have HN := Lib.hid hn
  have HDD := Lib.hid hd
  clear hp hr hn hf hd
  cases hv : firstV s with
  | none =>
    have HV := Lib.hid hv
    have HE := Lib.hid (show gotV t s bad = ([], s, true) by
      unfold gotV
      cases bad
      · rw [if_neg (by simp), show takeV t s = none by unfold takeV; rw [hv]]
      · rfl)
    clear hv
    cases bad
    all_goals
      go_enter Tryz.func52, Tryz.ntmps52
      go_wp2_with (first
        | (go_at_call 64
           refine HF.out.mono ?_
           rintro r w1 ⟨hr1, q, rfl⟩
           rw [HV.out] at hr1
           simp only at hr1
           subst hr1)
        | fail)
      refine bodyPost_ret (v := .slice none 0 0) (by simp [results, Tryz.results52, go_sem]) rfl ?_
      rw [HE.out]
      exact ⟨none, 0, rfl, Nat.le_refl _, .inl ⟨rfl, rfl⟩, Rd.nil _ _ _ _ _, (HH.out.fault q).1, (HH.out.fault q).2⟩
  | some v =>
    obtain ⟨t', b, k⟩ := v
    obtain ⟨hk0, hk1, hk2, hk3, -⟩ := firstV_some hv
    rw [← HN.out] at hk3
    obtain ⟨b1, o1, hA1, -, -⟩ := rdU (k := 0) HR.out (by rw [← HN.out]; omega)
    subst hA1
    have HV := Lib.hid hv
    have kk : ((k : Int) == 0) = false := by rw [beq_eq_false_iff_ne]; omega
    cases bad
    case' true =>
      have HE := Lib.hid (show gotV t s true = ([], s, true) from rfl)
      have HK1 := Lib.hid hk1
      clear hv hk0 hk1
      go_enter Tryz.func52, Tryz.ntmps52
      go_wp2_with (first
        | (go_at_call 64
           refine HF.out.mono ?_
           rintro r w1 ⟨hr1, q, rfl⟩
           rw [HV.out] at hr1
           simp only at hr1
           obtain ⟨g1, i1, c1, rfl, hc1, hrd1⟩ := hr1
           have HRd1 := Lib.hid hrd1
           have HC1 := Lib.hid hc1
           clear hrd1 hc1)
        | fail)
      refine bodyPost_ret (v := .slice none 0 0) (by simp [results, Tryz.results52, go_sem]) rfl ?_
      rw [HE.out]
      exact ⟨none, 0, rfl, Nat.le_refl _, .inl ⟨rfl, rfl⟩, Rd.nil _ _ _ _ _, (HH.out.fault q).1, (HH.out.fault q).2⟩
    by_cases ht : t' = t
    · subst ht
      have HE := Lib.hid (show gotV t' s false = (b, s.drop k, false) by
        unfold gotV
        rw [if_neg (by simp), show takeV t' s = some (b, s.drop k) by unfold takeV; rw [hv]; simp])
      clear hv hk0
      have HK1 := Lib.hid hk1
      clear hk1
      by_cases hkc : c = k
      · subst hkc
        go_enter Tryz.func52, Tryz.ntmps52
        go_wp2_with (first
          | (go_at_call 64
             refine HF.out.mono ?_
             rintro r w1 ⟨hr1, q, rfl⟩
             rw [HV.out] at hr1
             simp only at hr1
             obtain ⟨g1, i1, c1, rfl, hc1, hrd1⟩ := hr1
             have HRd1 := Lib.hid hrd1
             have HC1 := Lib.hid hc1
             clear hrd1 hc1)
          | fail)
        have hm : Mod (fun b => b = p) w ((w.drewN q).setCell ⟨p, 0, none⟩ (.slice (some ⟨b1, o1, none⟩) 0 (0))) := by (repeat' (first | exact Mod.refl _ _ | assumption | refine Mod.alloc ?_ _ | refine Mod.drew ?_ | refine Mod.drewN ?_ _ | refine Mod.setCell ?_ (by first | exact Or.inl rfl | (right; simp; done) | (right; simp; omega) | (left; simp; done)) _))
        refine bodyPost_ret (v := .slice (some ⟨g1, i1, none⟩) b.length c1) (by simp [results, Tryz.results52, go_sem]) rfl ?_
        rw [HE.out]
        refine ⟨some ⟨g1, i1, none⟩, c1, rfl, HC1.out, .inr ⟨g1, i1, rfl⟩, HRd1.out.keep (hm.agree fun b hb => ⟨(HDD.out b hb).2, (HDD.out b hb).1⟩), ⟨some ⟨b1, o1, none⟩, 0, 0, hp_eq (hp_set (hp_drewN HP.out q) 0 _) rfl, ?_, by rw [List.length_drop, ← HN.out]; omega, by omega, fun b hb => ⟨(HDD.out b hb).1, Nat.lt_of_lt_of_le (HDD.out b hb).2 hm.size⟩⟩, hm⟩
        rw [List.drop_eq_nil_of_le (by rw [← HN.out]; omega)]
        exact Rd.nil _ _ _ _ _
      · have hkc2 : ¬ k = c := fun e => hkc e.symm
        go_enter Tryz.func52, Tryz.ntmps52
        go_wp2_with (first
          | (go_at_call 64
             refine HF.out.mono ?_
             rintro r w1 ⟨hr1, q, rfl⟩
             rw [HV.out] at hr1
             simp only at hr1
             obtain ⟨g1, i1, c1, rfl, hc1, hrd1⟩ := hr1
             have HRd1 := Lib.hid hrd1
             have HC1 := Lib.hid hc1
             clear hrd1 hc1)
          | fail)
        have hm : Mod (fun b => b = p) w ((w.drewN q).setCell ⟨p, 0, none⟩ (.slice (some ⟨b1, o1 + k, none⟩) (n - k) (c - k))) := by (repeat' (first | exact Mod.refl _ _ | assumption | refine Mod.alloc ?_ _ | refine Mod.drew ?_ | refine Mod.drewN ?_ _ | refine Mod.setCell ?_ (by first | exact Or.inl rfl | (right; simp; done) | (right; simp; omega) | (left; simp; done)) _))
        refine bodyPost_ret (v := .slice (some ⟨g1, i1, none⟩) b.length c1) (by simp [results, Tryz.results52, go_sem]) rfl ?_
        rw [HE.out]
        refine ⟨some ⟨g1, i1, none⟩, c1, rfl, HC1.out, .inr ⟨g1, i1, rfl⟩, HRd1.out.keep (hm.agree fun b hb => ⟨(HDD.out b hb).2, (HDD.out b hb).1⟩), ⟨some ⟨b1, o1 + k, none⟩, n - k, c - k, hp_eq (hp_set (hp_drewN HP.out q) 0 _) rfl, ?_, by rw [List.length_drop, HN.out], by omega, fun b hb => ⟨(HDD.out b hb).1, Nat.lt_of_lt_of_le (HDD.out b hb).2 hm.size⟩⟩, hm⟩
        refine Rd.keep (w := w) ?_ (hm.agree fun b hb => ⟨(HDD.out b hb).2, (HDD.out b hb).1⟩)
        have h := rd_drop HR.out (j := k) (by rw [← HN.out]; exact hk3)
        rw [Nat.mul_one] at h
        exact h
    · have ht1 : ¬ t'.toNat = t.toNat := fun e => ht (UInt8.toNat_inj.1 e)
      have HE := Lib.hid (show gotV t s false = ([], s, true) by
        unfold gotV
        rw [if_neg (by simp), show takeV t s = none by unfold takeV; rw [hv]; simp [ht]])
      have HK1 := Lib.hid hk1
      clear hv hk0 ht hk1
      go_enter Tryz.func52, Tryz.ntmps52
      go_wp2_with (first
        | (go_at_call 64
           refine HF.out.mono ?_
           rintro r w1 ⟨hr1, q, rfl⟩
           rw [HV.out] at hr1
           simp only at hr1
           obtain ⟨g1, i1, c1, rfl, hc1, hrd1⟩ := hr1
           have HRd1 := Lib.hid hrd1
           have HC1 := Lib.hid hc1
           clear hrd1 hc1)
        | fail)
      refine bodyPost_ret (v := .slice none 0 0) (by simp [results, Tryz.results52, go_sem]) rfl ?_
      rw [HE.out]
      exact ⟨none, 0, rfl, Nat.le_refl _, .inl ⟨rfl, rfl⟩, Rd.nil _ _ _ _ _, (HH.out.fault q).1, (HH.out.fault q).2⟩
theorem ftext_any (D : Nat → Prop) (p : Nat) (s : Bs) (bad : Bool) (t : UInt8) (w : World) (h : FrAt D p w s bad) (hsz : s.length ≤ 1099511627776) :
    Calls Tryz.prog 25 #[.pointer (some ⟨p, 0, none⟩), .int .u8 (t.toNat : Int)] w fun r w' => r = .returned (.string ⟨(gotV t s bad).1.toArray⟩) ∧ FrAt D p w' (gotV t s bad).2.1 (gotV t s bad).2.2 ∧ Mod (fun b => b = p) w w' := by
  have HT := Lib.hid (ftake_any D p s bad t w h hsz)
  obtain ⟨g, hg⟩ : ∃ g, g = gotV t s bad := ⟨_, rfl⟩
  rw [← hg] at HT ⊢
  clear hg h hsz
  go_enter Tryz.func25, Tryz.ntmps25
  go_wp2_with (first
    | (go_at_call 52
       refine HT.out.mono ?_
       rintro r w1 ⟨A1, c1, rfl, -, -, hrd, hat, hm⟩
       have qs := run_str_of hrd c1
       have HAt := Lib.hid hat
       have HM := Lib.hid hm
       clear hrd hat hm)
    | fail)
  go_ret
  exact ⟨rfl, HAt.out, HM.out⟩
theorem fdone_any (D : Nat → Prop) (p : Nat) (s : Bs) (bad : Bool) (w : World) (h : FrAt D p w s bad) :
    Calls Tryz.prog 27 #[.pointer (some ⟨p, 0, none⟩)] w fun r w' => r = .returned (.bool (!bad && decide (s.length = 0))) ∧ w = w' := by
  obtain ⟨A, n, c, hp, -, hn, -, -⟩ := h
  have q0 : w.cell? ⟨p, 0, none⟩ = some (.slice A n c) := by rw [hp_cell hp]; rfl
  have q1 : w.cell? ⟨p, 0 + 1, none⟩ = some (.bool bad) := by rw [hp_cell hp]; rfl
  have q1' : w.cell? ⟨p, 1, none⟩ = some (.bool bad) := by rw [hp_cell hp]; rfl
  rw [← hn]
  clear hp hn
  cases bad
  · by_cases h0 : n = 0
    · subst h0
      go_enter Tryz.func27, Tryz.ntmps27
      go_wp2
      go_ret
      exact ⟨rfl, rfl⟩
    · have h1 : ((n : Int) == 0) = false := by rw [beq_eq_false_iff_ne]; omega
      have HE := Lib.hid (show (!false && decide (n = 0)) = false by simp [h0])
      rw [HE.out]
      clear h0
      go_enter Tryz.func27, Tryz.ntmps27
      go_wp2
      go_ret
      exact ⟨rfl, rfl⟩
  · go_enter Tryz.func27, Tryz.ntmps27
    go_wp2
    go_ret
    exact ⟨rfl, rfl⟩
end Go.Proofs.YtccnkcaagigceaaGreat
