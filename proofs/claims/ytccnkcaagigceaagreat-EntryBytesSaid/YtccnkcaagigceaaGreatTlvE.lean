/-
  The package tlv: a reader.
-/
import Derived.Test.YtccnkcaagigceaaGreatTlvC
import Derived.BigQuiet
namespace Go.Proofs.YtccnkcaagigceaaGreat
open Go.RowKit Go.Shelf
attribute [local go_sem] Oper.semAt_some

/-- A reader lies in block p: the bytes that are left, in blocks of D (not p), and whether it failed. -/
def RrAt (D : Nat → Prop) (p T : Nat) (w : World) (s : Bs) (bad : Bool) : Prop :=
  ∃ A n c, w.heap[p]? = some (.cells #[.slice A n c, .bool bad, .bool true] T (0, 0)) ∧ Rd D w 1 csU A s ∧ n = s.length ∧ n ≤ c ∧ ∀ b, D b → b ≠ p ∧ b < w.heap.size
theorem rthere_any (D : Nat → Prop) (p T : Nat) (s : Bs) (bad : Bool) (w : World) (h : RrAt D p T w s bad) :
    Calls Tryz.prog 67 #[.pointer (some ⟨p, 0, none⟩)] w fun r w' => r = .returned (.bool !bad) ∧ w = w' := by
  obtain ⟨A, n, c, hp, -, -, -, -⟩ := h
  have q1 : w.cell? ⟨p, 0 + 1, none⟩ = some (.bool bad) := by rw [hp_cell hp]; rfl
  have q1' : w.cell? ⟨p, 1, none⟩ = some (.bool bad) := by rw [hp_cell hp]; rfl
  have q2 : w.cell? ⟨p, 0 + 2, none⟩ = some (.bool true) := by rw [hp_cell hp]; rfl
  have q2' : w.cell? ⟨p, 2, none⟩ = some (.bool true) := by rw [hp_cell hp]; rfl
  clear hp
  go_enter Tryz.func67, Tryz.ntmps67
  go_wp2
  go_ret
  exact ⟨rfl, rfl⟩
theorem rend_any (D : Nat → Prop) (p T : Nat) (s : Bs) (bad : Bool) (w : World) (h : RrAt D p T w s bad) :
    Calls Tryz.prog 17 #[.pointer (some ⟨p, 0, none⟩)] w fun r w' => r = .returned (.int .i64 (if bad = true ∨ 0 < s.length then 4 else 0)) ∧ w = w' := by
  obtain ⟨A, n, c, hp, -, hn, -, -⟩ := h
  have q0 : w.cell? ⟨p, 0, none⟩ = some (.slice A n c) := by rw [hp_cell hp]; rfl
  have q1 : w.cell? ⟨p, 0 + 1, none⟩ = some (.bool bad) := by rw [hp_cell hp]; rfl
  have q1' : w.cell? ⟨p, 1, none⟩ = some (.bool bad) := by rw [hp_cell hp]; rfl
  have q2 : w.cell? ⟨p, 0 + 2, none⟩ = some (.bool true) := by rw [hp_cell hp]; rfl
  have q2' : w.cell? ⟨p, 2, none⟩ = some (.bool true) := by rw [hp_cell hp]; rfl
  rw [← hn]
  obtain ⟨k, hk⟩ : ∃ k : Int, k = if bad = true ∨ 0 < n then 4 else 0 := ⟨_, rfl⟩
  rw [← hk]
  have HK := Lib.hid hk
  clear hp hn hk
  cases bad
  · by_cases h0 : 0 < n
    · have h1 : decide ((0 : Int) < (n : Int)) = true := by rw [decide_eq_true_eq]; omega
      go_enter Tryz.func17, Tryz.ntmps17
      go_wp2
      go_ret
      exact ⟨by rw [HK.out]; simp [h0], rfl⟩
    · have h1 : decide ((0 : Int) < (n : Int)) = false := by rw [decide_eq_false_iff_not]; omega
      go_enter Tryz.func17, Tryz.ntmps17
      go_wp2
      go_ret
      exact ⟨by rw [HK.out]; simp [h0], rfl⟩
  · go_enter Tryz.func17, Tryz.ntmps17
    go_wp2
    go_ret
    exact ⟨by rw [HK.out]; simp, rfl⟩
theorem rfail_any (D : Nat → Prop) (p T : Nat) (s : Bs) (bad : Bool) (w : World) (h : RrAt D p T w s bad) :
    Calls Tryz.prog 37 #[.pointer (some ⟨p, 0, none⟩)] w fun r w' => r = .returned (.tuple #[]) ∧ RrAt D p T w' s true ∧ Mod (fun b => b = p) w w' := by
  obtain ⟨A, n, c, hp, hr, hn, hc, hd⟩ := h
  have q1 : w.cell? ⟨p, 0 + 1, none⟩ = some (.bool bad) := by rw [hp_cell hp]; rfl
  have q1' : w.cell? ⟨p, 1, none⟩ = some (.bool bad) := by rw [hp_cell hp]; rfl
  have f1 : w.frozen? ⟨p, 0 + 1, none⟩ = false := hp_free hp _
  have f1' : w.frozen? ⟨p, 1, none⟩ = false := hp_free hp _
  have HP := Lib.hid hp
  have HR := Lib.hid hr
  have HN := Lib.hid hn
  have HC := Lib.hid hc
  have HDD := Lib.hid hd
  clear hp hr hn hc hd
  go_enter Tryz.func37, Tryz.ntmps37
  go_wp2
  have hm : Mod (fun b => b = p) w (w.setCell ⟨p, 1, none⟩ (.bool true)) := by (repeat' (first | exact Mod.refl _ _ | assumption | refine Mod.alloc ?_ _ | refine Mod.drew ?_ | refine Mod.drewN ?_ _ | refine Mod.setCell ?_ (by first | exact Or.inl rfl | (right; simp; done) | (right; simp; omega) | (left; simp; done)) _))
  refine bodyPost_end (v := .tuple #[]) (by simp [results, Tryz.results37, go_sem]) rfl ⟨rfl, ⟨A, n, c, hp_eq (hp_set HP.out 1 _) rfl, ?_, HN.out, HC.out, fun b hb => ⟨(HDD.out b hb).1, Nat.lt_of_lt_of_le (HDD.out b hb).2 hm.size⟩⟩, hm⟩
  exact HR.out.keep (hm.agree fun b hb => ⟨(HDD.out b hb).2, (HDD.out b hb).1⟩)
end Go.Proofs.YtccnkcaagigceaaGreat
/-
  The package tlv: a reader takes a value.
-/
namespace Go.Proofs.YtccnkcaagigceaaGreat
open Go.RowKit Go.Shelf
attribute [local go_sem] Oper.semAt_some

theorem RrAt.fault {D : Nat → Prop} {p T : Nat} {s : Bs} {bad : Bool} {w : World} (h : RrAt D p T w s bad) (q : Nat) : RrAt D p T ((w.drewN q).setCell ⟨p, 1, none⟩ (.bool true)) s true ∧ Mod (fun b => b = p) w ((w.drewN q).setCell ⟨p, 1, none⟩ (.bool true)) := by
  obtain ⟨A, n, c, hp, hr, hn, hc, hd⟩ := h
  have hm : Mod (fun b => b = p) w ((w.drewN q).setCell ⟨p, 1, none⟩ (.bool true)) := by (repeat' (first | exact Mod.refl _ _ | assumption | refine Mod.alloc ?_ _ | refine Mod.drew ?_ | refine Mod.drewN ?_ _ | refine Mod.setCell ?_ (by first | exact Or.inl rfl | (right; simp; done) | (right; simp; omega) | (left; simp; done)) _))
  refine ⟨⟨A, n, c, hp_eq (hp_set (hp_drewN hp q) 1 _) rfl, ?_, hn, hc, fun b hb => ⟨(hd b hb).1, Nat.lt_of_lt_of_le (hd b hb).2 hm.size⟩⟩, hm⟩
  exact hr.keep (hm.agree fun b hb => ⟨(hd b hb).2, (hd b hb).1⟩)
/-- What a taking answers and leaves. -/
def TakeEnds (D : Nat → Prop) (p T : Nat) (s : Bs) (bad : Bool) (t : UInt8) (w : World) (r : Ending) (w' : World) : Prop :=
  (match if bad = true then none else takeV t s with
    | none => r = .returned (.tuple #[.slice none 0 0, .bool false]) ∧ RrAt D p T w' s true
    | some (b, s') => ∃ A', r = .returned (.tuple #[.slice A' b.length b.length, .bool true]) ∧ Rd D w' 1 csU A' b ∧ RrAt D p T w' s' false) ∧ Mod (fun b => b = p) w w'
set_option maxRecDepth 100000 in
set_option maxHeartbeats 4000000 in
theorem rtake_any (D : Nat → Prop) (p T : Nat) (s : Bs) (bad : Bool) (t : UInt8) (w : World) (h : RrAt D p T w s bad) (hsz : s.length ≤ 1099511627776) :
    Calls Tryz.prog 56 #[.pointer (some ⟨p, 0, none⟩), .int .u8 (t.toNat : Int)] w (TakeEnds D p T s bad t w) := by
  have HH := Lib.hid h
  have HT := Lib.hid (rthere_any D p T s bad w h)
  obtain ⟨A, n, c, hp, hr, hn, hc, hd⟩ := h
  have q0 : w.cell? ⟨p, 0, none⟩ = some (.slice A n c) := by rw [hp_cell hp]; rfl
  have q1 : w.cell? ⟨p, 0 + 1, none⟩ = some (.bool bad) := by rw [hp_cell hp]; rfl
  have q1' : w.cell? ⟨p, 1, none⟩ = some (.bool bad) := by rw [hp_cell hp]; rfl
  have f0 : w.frozen? ⟨p, 0, none⟩ = false := hp_free hp _
  have f1 : w.frozen? ⟨p, 0 + 1, none⟩ = false := hp_free hp _
  have f1' : w.frozen? ⟨p, 1, none⟩ = false := hp_free hp _
  have hf := tfirst_any _ A c s w hr hsz (by rw [← hn]; exact hc)
  rw [← hn] at hf hsz
  have HF := Lib.hid hf
  have HP := Lib.hid hp
  have HR := Lib.hid hr
  have HN := Lib.hid hn
  have HDD := Lib.hid hd
  clear hp hr hn hf hd
  cases bad
  · cases hv : firstV s with
    | none =>
      have HV := Lib.hid hv
      have HE := Lib.hid (show takeV t s = none by unfold takeV; rw [hv])
      clear hv
      go_enter Tryz.func56, Tryz.ntmps56
      go_wp2_with (first
        | (go_at_call 67
           refine HT.out.mono ?_
           rintro r w1 ⟨rfl, rfl⟩)
        | (go_at_call 68
           refine HF.out.mono ?_
           rintro r w1 ⟨hr1, q, rfl⟩
           rw [HV.out] at hr1
           simp only at hr1
           subst hr1)
        | fail)
      refine bodyPost_ret (v := .tuple #[.slice none 0 0, .bool false]) (by simp [results, Tryz.results56, go_sem]) rfl ⟨?_, (HH.out.fault q).2⟩
      rw [if_neg (by simp), HE.out]
      exact ⟨rfl, (HH.out.fault q).1⟩
    | some v =>
      obtain ⟨t', b, k⟩ := v
      obtain ⟨hk0, hk1, hk2, hk3, -⟩ := firstV_some hv
      rw [← HN.out] at hk3
      obtain ⟨b1, o1, hA1, -, -⟩ := rdU (k := 0) HR.out (by rw [← HN.out]; omega)
      subst hA1
      have HV := Lib.hid hv
      have kk : ((k : Int) == 0) = false := by rw [beq_eq_false_iff_ne]; omega
      by_cases ht : t' = t
      · subst ht
        have HE := Lib.hid (show takeV t' s = some (b, s.drop k) by unfold takeV; rw [hv]; simp)
        clear hv hk0
        have HK1 := Lib.hid hk1
        clear hk1
        by_cases hkc : c = k
        · subst hkc
          go_enter Tryz.func56, Tryz.ntmps56
          go_wp2_with (first
          | (go_at_call 67
             refine HT.out.mono ?_
             rintro r w1 ⟨rfl, rfl⟩)
          | (go_at_call 68
             refine HF.out.mono ?_
             rintro r w1 ⟨hr1, q, rfl⟩
             rw [HV.out] at hr1
             simp only at hr1
             obtain ⟨A1, rfl, hrd1⟩ := hr1
             have HRd1 := Lib.hid hrd1
             clear hrd1)
          | fail)
          have hm : Mod (fun b => b = p) w ((w.drewN q).setCell ⟨p, 0, none⟩ (.slice (some ⟨b1, o1, none⟩) 0 (0))) := by (repeat' (first | exact Mod.refl _ _ | assumption | refine Mod.alloc ?_ _ | refine Mod.drew ?_ | refine Mod.drewN ?_ _ | refine Mod.setCell ?_ (by first | exact Or.inl rfl | (right; simp; done) | (right; simp; omega) | (left; simp; done)) _))
          refine bodyPost_ret (v := .tuple #[.slice A1 b.length b.length, .bool true]) (by simp [results, Tryz.results56, go_sem]) rfl ⟨?_, hm⟩
          rw [if_neg (by simp), HE.out]
          refine ⟨A1, rfl, HRd1.out.keep (hm.agree fun b hb => ⟨(HDD.out b hb).2, (HDD.out b hb).1⟩), ⟨some ⟨b1, o1, none⟩, 0, 0, hp_eq (hp_set (hp_drewN HP.out q) 0 _) rfl, ?_, by rw [List.length_drop, ← HN.out]; omega, by omega, fun b hb => ⟨(HDD.out b hb).1, Nat.lt_of_lt_of_le (HDD.out b hb).2 hm.size⟩⟩⟩
          refine Rd.keep (w := w) ?_ (hm.agree fun b hb => ⟨(HDD.out b hb).2, (HDD.out b hb).1⟩)
          rw [List.drop_eq_nil_of_le (by rw [← HN.out]; omega)]
          exact Rd.nil _ _ _ _ _
        · go_enter Tryz.func56, Tryz.ntmps56
          go_wp2_with (first
          | (go_at_call 67
             refine HT.out.mono ?_
             rintro r w1 ⟨rfl, rfl⟩)
          | (go_at_call 68
             refine HF.out.mono ?_
             rintro r w1 ⟨hr1, q, rfl⟩
             rw [HV.out] at hr1
             simp only at hr1
             obtain ⟨A1, rfl, hrd1⟩ := hr1
             have HRd1 := Lib.hid hrd1
             clear hrd1)
          | fail)
          have hm : Mod (fun b => b = p) w ((w.drewN q).setCell ⟨p, 0, none⟩ (.slice (some ⟨b1, o1 + k, none⟩) (n - k) (c - k))) := by (repeat' (first | exact Mod.refl _ _ | assumption | refine Mod.alloc ?_ _ | refine Mod.drew ?_ | refine Mod.drewN ?_ _ | refine Mod.setCell ?_ (by first | exact Or.inl rfl | (right; simp; done) | (right; simp; omega) | (left; simp; done)) _))
          refine bodyPost_ret (v := .tuple #[.slice A1 b.length b.length, .bool true]) (by simp [results, Tryz.results56, go_sem]) rfl ⟨?_, hm⟩
          rw [if_neg (by simp), HE.out]
          refine ⟨A1, rfl, HRd1.out.keep (hm.agree fun b hb => ⟨(HDD.out b hb).2, (HDD.out b hb).1⟩), ⟨some ⟨b1, o1 + k, none⟩, n - k, c - k, hp_eq (hp_set (hp_drewN HP.out q) 0 _) rfl, ?_, by rw [List.length_drop, HN.out], by omega, fun b hb => ⟨(HDD.out b hb).1, Nat.lt_of_lt_of_le (HDD.out b hb).2 hm.size⟩⟩⟩
          refine Rd.keep (w := w) ?_ (hm.agree fun b hb => ⟨(HDD.out b hb).2, (HDD.out b hb).1⟩)
          have h := rd_drop HR.out (j := k) (by rw [← HN.out]; exact hk3)
          rw [Nat.mul_one] at h
          exact h
      · have ht1 : ¬ t'.toNat = t.toNat := fun e => ht (UInt8.toNat_inj.1 e)
        have HE := Lib.hid (show takeV t s = none by unfold takeV; rw [hv]; simp [ht])
        have HK1 := Lib.hid hk1
        clear hv hk0 ht hk1
        go_enter Tryz.func56, Tryz.ntmps56
        go_wp2_with (first
        | (go_at_call 67
           refine HT.out.mono ?_
           rintro r w1 ⟨rfl, rfl⟩)
        | (go_at_call 68
           refine HF.out.mono ?_
           rintro r w1 ⟨hr1, q, rfl⟩
           rw [HV.out] at hr1
           simp only at hr1
           obtain ⟨A1, rfl, hrd1⟩ := hr1
           have HRd1 := Lib.hid hrd1
           clear hrd1)
        | fail)
        refine bodyPost_ret (v := .tuple #[.slice none 0 0, .bool false]) (by simp [results, Tryz.results56, go_sem]) rfl ⟨?_, (HH.out.fault q).2⟩
        rw [if_neg (by simp), HE.out]
        exact ⟨rfl, (HH.out.fault q).1⟩
  · go_enter Tryz.func56, Tryz.ntmps56
    go_wp2_with (first
      | (go_at_call 67
         refine HT.out.mono ?_
         rintro r w1 ⟨rfl, rfl⟩)
      | fail)
    refine bodyPost_ret (v := .tuple #[.slice none 0 0, .bool false]) (by simp [results, Tryz.results56, go_sem]) rfl ⟨⟨rfl, HH.out⟩, by (repeat' (first | exact Mod.refl _ _ | assumption | refine Mod.alloc ?_ _ | refine Mod.drew ?_ | refine Mod.drewN ?_ _ | refine Mod.setCell ?_ (by first | exact Or.inl rfl | (right; simp; done) | (right; simp; omega) | (left; simp; done)) _))⟩
end Go.Proofs.YtccnkcaagigceaaGreat
/-
  The package tlv: a reader takes bytes, a text.
-/
namespace Go.Proofs.YtccnkcaagigceaaGreat
open Go.RowKit Go.Shelf
attribute [local go_sem] Oper.semAt_some

/-- What is taken, and what is left. -/
def gotV (t : UInt8) (s : Bs) (bad : Bool) : Bs × Bs × Bool := match if bad = true then none else takeV t s with
  | none => ([], s, true)
  | some (b, s') => (b, s', false)
theorem rtake_got {D : Nat → Prop} {p T : Nat} {s : Bs} {bad : Bool} {t : UInt8} {w : World} {r : Ending} {w' : World} (h : TakeEnds D p T s bad t w r w') :
    ∃ A ok, r = .returned (.tuple #[.slice A (gotV t s bad).1.length (gotV t s bad).1.length, .bool ok]) ∧ Rd D w' 1 csU A (gotV t s bad).1 ∧ RrAt D p T w' (gotV t s bad).2.1 (gotV t s bad).2.2 ∧ Mod (fun b => b = p) w w' := by
  obtain ⟨h1, h2⟩ := h
  unfold gotV
  split at h1
  · rename_i e
    obtain ⟨rfl, h3⟩ := h1
    try rw [e]
    exact ⟨none, false, rfl, Rd.nil _ _ _ _ _, h3, h2⟩
  · rename_i b s' e
    obtain ⟨A', rfl, h3, h4⟩ := h1
    try rw [e]
    exact ⟨A', true, rfl, h3, h4, h2⟩
/-- What the reader's Bytes answers and leaves. -/
def GotEnds (D : Nat → Prop) (p T : Nat) (g : Bs × Bs × Bool) (w : World) (r : Ending) (w' : World) : Prop :=
  ∃ A, r = .returned (.slice A g.1.length g.1.length) ∧ Rd D w' 1 csU A g.1 ∧ RrAt D p T w' g.2.1 g.2.2 ∧ Mod (fun b => b = p) w w'
theorem rbytes_any (D : Nat → Prop) (p T : Nat) (s : Bs) (bad : Bool) (t : UInt8) (w : World) (h : RrAt D p T w s bad) (hsz : s.length ≤ 1099511627776) :
    Calls Tryz.prog 51 #[.pointer (some ⟨p, 0, none⟩), .int .u8 (t.toNat : Int)] w (GotEnds D p T (gotV t s bad) w) := by
  have HT := Lib.hid (rtake_any D p T s bad t w h hsz)
  obtain ⟨g, hg⟩ : ∃ g, g = gotV t s bad := ⟨_, rfl⟩
  have HG := Lib.hid hg
  rw [← hg]
  clear hg h hsz
  go_enter Tryz.func51, Tryz.ntmps51
  go_wp2_with (first
    | (go_at_call 56
       refine HT.out.mono ?_
       intro r w1 hr1
       obtain ⟨A1, ok1, hr2, hrd, hat, hm⟩ := rtake_got hr1
       rw [← HG.out] at hr2 hrd hat
       subst hr2
       have HRd := Lib.hid hrd
       have HAt := Lib.hid hat
       have HM := Lib.hid hm
       clear hr1 hrd hat hm)
    | fail)
  go_ret
  exact ⟨A1, rfl, HRd.out, HAt.out, HM.out⟩
theorem rtext_any (D : Nat → Prop) (p T : Nat) (s : Bs) (bad : Bool) (t : UInt8) (w : World) (h : RrAt D p T w s bad) (hsz : s.length ≤ 1099511627776) :
    Calls Tryz.prog 24 #[.pointer (some ⟨p, 0, none⟩), .int .u8 (t.toNat : Int)] w fun r w' => r = .returned (.string ⟨(gotV t s bad).1.toArray⟩) ∧ RrAt D p T w' (gotV t s bad).2.1 (gotV t s bad).2.2 ∧ Mod (fun b => b = p) w w' := by
  have HT := Lib.hid (rbytes_any D p T s bad t w h hsz)
  obtain ⟨g, hg⟩ : ∃ g, g = gotV t s bad := ⟨_, rfl⟩
  rw [← hg] at HT ⊢
  clear hg h hsz
  go_enter Tryz.func24, Tryz.ntmps24
  go_wp2_with (first
    | (go_at_call 51
       refine HT.out.mono ?_
       rintro r w1 ⟨A1, rfl, hrd, hat, hm⟩
       have qs := run_str_of hrd g.1.length
       have HAt := Lib.hid hat
       have HM := Lib.hid hm
       clear hrd hat hm)
    | fail)
  go_ret
  exact ⟨rfl, HAt.out, HM.out⟩
end Go.Proofs.YtccnkcaagigceaaGreat
/-
  The package tlv: a reader's begin.
-/
namespace Go.Proofs.YtccnkcaagigceaaGreat
open Go.RowKit Go.Shelf
attribute [local go_sem] Oper.semAt_some

/-- Read: a reader of what is laid before it, in a block of the call's own. -/
theorem tread_any (D : Nat → Prop) (A : Option Addr) (c : Nat) (xs : Bs) (w : World) (hA : Rd D w 1 csU A xs) (hl : xs.length ≤ 1099511627776) :
    Calls Tryz.prog 14 #[.slice A xs.length c] w fun r w' => ∃ p T D, r = .returned (.pointer (some ⟨p, 0, none⟩)) ∧ w.heap.size ≤ p ∧ (∀ b, D b → w.heap.size ≤ b) ∧ RrAt D p T w' xs false ∧ Mod (fun _ => False) w w' := by
  have HC := Lib.hid (uclone_any D A c xs w hA hl)
  obtain ⟨n, hn⟩ : ∃ n, n = xs.length := ⟨_, rfl⟩
  rw [← hn] at HC ⊢
  have HN := Lib.hid hn
  clear hn hA hl
  go_enter Tryz.func14, Tryz.ntmps14
  go_wp2_with (first
    | (go_at_call 31
       refine HC.out.mono ?_
       rintro r w1 ⟨A1, c1, rfl, hown, hm⟩
       have HO1 := Lib.hid hown
       have HM1 := Lib.hid hm
       clear hown hm)
    | fail)
  go_ret
  refine ⟨_, _, fun b => (Value.slice A1 n c1).ownBlock = some b, rfl, HM1.out.size, fun b hb => (HO1.out.fresh b hb).1, ⟨A1, n, c1, hp_new _ _, ?_, HN.out, (HO1.out.cap rfl).1, fun b hb => ?_⟩, HM1.out.alloc _⟩
  · exact Rd.keep (rd_of5 HO1.out csU_len) (Agree.below ((Below.refl _ w1).alloc (Nat.le_refl _) _) fun b hb => (HO1.out.fresh b hb).2)
  · have := (HO1.out.fresh b hb).2
    exact ⟨by omega, by simp; omega⟩
end Go.Proofs.YtccnkcaagigceaaGreat
