/-
  The package entry: an attribute is taken.
-/
import Derived.Test.YtccnkcaagigceaaGreatTlvN
import Derived.Test.YtccnkcaagigceaaGreatEntryC
import Derived.Test.YtccnkcaagigceaaGreatEntryW
import Derived.BigQuiet
namespace Go.Proofs.YtccnkcaagigceaaGreat
open Go.RowKit Go.Shelf
attribute [local go_sem] Oper.semAt_some

theorem enters_take1 : ∀ args w, (callFunc 34 args).run Tryz.prog w = .ok (.enter 34 args) w := enters_of Tryz.func34 (by kernel_rfl) rfl
theorem enters_take11 : ∀ args w, (callFunc 35 args).run Tryz.prog w = .ok (.enter 35 args) w := enters_of Tryz.func35 (by kernel_rfl) rfl
/-- One step of an attribute's list: its parts by their tags. -/
def step2 (x : Nat × At) (s : Bs) : (Nat × At) × Bs × Bool × Bool :=
  ((x.1 + 1, if x.1 = 0 then ⟨(gotV 1 s false).1, x.2.V⟩ else ⟨x.2.T, (gotV 2 s false).1⟩), (if x.1 = 0 then gotV 1 s false else gotV 2 s false).2.1, (if x.1 = 0 then gotV 1 s false else gotV 2 s false).2.2, decide (x.1 + 1 ≤ 2))
def J2 (bn ba : Nat) (x : Nat × At) (C : Nat → Prop) (W : World) : Prop :=
  W.heap[bn]? = some (.cells #[.int .i64 (x.1 : Int)] 3 (0, 0)) ∧ W.heap[ba]? = some (.cells #[.string ⟨x.2.T.toArray⟩, .string ⟨x.2.V.toArray⟩] 52 (0, 0)) ∧ bn ≠ ba ∧ C = fun b => b = bn ∨ b = ba
theorem J2_stab (bn ba : Nat) (x : Nat × At) (C : Nat → Prop) (W W' : World) (h : J2 bn ba x C W) (hA : Agree C W W') : J2 bn ba x C W' := by
  obtain ⟨h1, h2, h3, h4⟩ := h
  exact ⟨hp_agree h1 hA (by rw [h4]; exact .inl rfl), hp_agree h2 hA (by rw [h4]; exact .inr rfl), h3, h4⟩
set_option maxRecDepth 100000 in
set_option maxHeartbeats 2000000 in
theorem take11_takes (bn ba : Nat) : TakesR 35 #[.pointer (some ⟨bn, 0, none⟩), .pointer (some ⟨ba, 0, none⟩)] step2 (J2 bn ba) (fun x _ => x.1 ≤ 2) := by
  intro D q x s C W hat hsz hin hj hC
  obtain ⟨k, a⟩ := x
  obtain ⟨h1, h2, hne, rfl⟩ := hj
  have h1 : W.heap[bn]? = some (.cells #[.int .i64 (k : Int)] 3 (0, 0)) := h1
  have h2 : W.heap[ba]? = some (.cells #[.string ⟨a.T.toArray⟩, .string ⟨a.V.toArray⟩] 52 (0, 0)) := h2
  have hk : k ≤ 2 := hin
  have hbn := hC bn (.inl rfl)
  have hba := hC ba (.inr rfl)
  have c1 := hp_cell h1 0
  have f1 := hp_free h1 0
  have H1 := Lib.hid h1
  have H2 := Lib.hid h2
  have HNE := Lib.hid hne
  obtain ⟨m, hmk⟩ : ∃ m : Int, m = (k : Int) + 1 := ⟨_, rfl⟩
  obtain ⟨W1, hW1⟩ : ∃ W1, W1 = W.setCell ⟨bn, 0, none⟩ (.int .i64 m) := ⟨_, rfl⟩
  have hm1 : Mod (fun b => b = bn) W W1 := by rw [hW1]; (repeat' (first | exact Mod.refl _ _ | assumption | refine Mod.alloc ?_ _ | refine Mod.drew ?_ | refine Mod.drewN ?_ _ | refine Mod.setCell ?_ (by first | exact Or.inl rfl | (right; simp; done) | (right; simp; omega) | (left; simp; done)) _))
  have hat1 : RrAt D q 66 W1 s false := hat.keep hm1 (fun e => hbn.2.1 e.symm) (fun b hb e => (hC b (.inl e)).2.2 hb)
  have hn1 : W1.heap[bn]? = some (.cells #[.int .i64 m] 3 (0, 0)) := by rw [hW1]; exact hp_eq (hp_set h1 0 _) rfl
  have ha1 := hp_mod h2 hm1 (fun e => hne e.symm)
  have hr1 := rtext_any D q 66 s false 1 W1 hat1 hsz
  have hr2 := rtext_any D q 66 s false 2 W1 hat1 hsz
  rw [show (((1 : UInt8).toNat : Nat) : Int) = 1 from rfl] at hr1
  rw [show (((2 : UInt8).toNat : Nat) : Int) = 2 from rfl] at hr2
  have HR1 := Lib.hid hr1
  have HR2 := Lib.hid hr2
  have HN1 := Lib.hid hn1
  have HA1 := Lib.hid ha1
  have HM1 := Lib.hid hm1
  have HC := Lib.hid hC
  have HQ := Lib.hid (show ¬ bn = q ∧ ¬ ba = q from ⟨hbn.2.1, hba.2.1⟩)
  have hne' : ¬ ba = bn := fun e => hne e.symm
  subst hW1
  clear hr1 hr2 hn1 ha1 hm1 hC h1 h2 hat hat1 hsz hin hbn hba
  show Calls Tryz.prog 35 #[.pointer (some ⟨q, 0, none⟩), .pointer (some ⟨bn, 0, none⟩), .pointer (some ⟨ba, 0, none⟩)] W _
  rcases (show k = 0 ∨ k = 1 ∨ k = 2 by omega) with rfl | rfl | rfl
  · obtain rfl : m = 1 := by rw [hmk]; rfl
    clear hmk
    obtain ⟨g, hg⟩ : ∃ g, g = gotV 1 s false := ⟨_, rfl⟩
    have HG := Lib.hid hg
    rw [← hg] at HR1
    clear hg
    go_enter Tryz.func35, Tryz.ntmps35
    go_wp2_with (first
      | (go_at_call 24
         (with_reducible refine HR1.out.mono ?_)
         rintro e w2 ⟨rfl, hat2, hm2⟩
         have hn2 := hp_mod HN1.out hm2 HQ.out.1
         have ha2 := hp_mod HA1.out hm2 HQ.out.2
         have d1 := hp_cell hn2 0
         have d2 := hp_cell ha2 0
         have d2' : w2.cell? ⟨ba, 0 + 0, none⟩ = _ := hp_cell ha2 0
         have g2 : w2.frozen? ⟨ba, 0, none⟩ = false := hp_free ha2 _
         have g2' : w2.frozen? ⟨ba, 0 + 0, none⟩ = false := hp_free ha2 _
         have HN2 := Lib.hid hn2
         have HA2 := Lib.hid ha2
         have HAT2 := Lib.hid hat2
         have HM2 := Lib.hid hm2
         clear hat2 hm2 hn2 ha2)
      | fail)
    go_ret
    have hm3 : Mod (fun b => b = ba) w2 (w2.setCell ⟨ba, 0, none⟩ (.string ⟨g.1.toArray⟩)) := by (repeat' (first | exact Mod.refl _ _ | assumption | refine Mod.alloc ?_ _ | refine Mod.drew ?_ | refine Mod.drewN ?_ _ | refine Mod.setCell ?_ (by first | exact Or.inl rfl | (right; simp; done) | (right; simp; omega) | (left; simp; done)) _))
    have hs : step2 (0, a) s = ((1, ⟨g.1, a.V⟩), g.2.1, g.2.2, true) := by rw [HG.out]; rfl
    rw [hs]
    refine ⟨rfl, HAT2.out.keep hm3 (fun e => HQ.out.2 e.symm) (fun b hb e => (HC.out b (.inr e)).2.2 hb), ?_, fun b => b = bn ∨ b = ba, ⟨hp_far HN2.out hne _, hp_eq (hp_set HA2.out 0 _) rfl, hne, rfl⟩, fun b hb => ⟨?_, .inl hb⟩⟩
    · refine ((HM1.out.mono fun b _ h => .inr (.inl h)).trans HM2.out fun b hb => .inl (.inl hb)).trans hm3 fun b hb => .inl (.inr (.inr hb))
    · have h1 := (HC.out b hb).1
      have h2 := HM1.out.size
      have h3 := HM2.out.size
      have h4 := hm3.size
      omega
  · obtain rfl : m = 2 := by rw [hmk]; rfl
    clear hmk
    obtain ⟨g, hg⟩ : ∃ g, g = gotV 2 s false := ⟨_, rfl⟩
    have HG := Lib.hid hg
    rw [← hg] at HR2
    clear hg
    go_enter Tryz.func35, Tryz.ntmps35
    go_wp2_with (first
      | (go_at_call 24
         (with_reducible refine HR2.out.mono ?_)
         rintro e w2 ⟨rfl, hat2, hm2⟩
         have hn2 := hp_mod HN1.out hm2 HQ.out.1
         have ha2 := hp_mod HA1.out hm2 HQ.out.2
         have d1 := hp_cell hn2 0
         have d2 := hp_cell ha2 1
         have d2' : w2.cell? ⟨ba, 0 + 1, none⟩ = _ := hp_cell ha2 1
         have g2 : w2.frozen? ⟨ba, 1, none⟩ = false := hp_free ha2 _
         have g2' : w2.frozen? ⟨ba, 0 + 1, none⟩ = false := hp_free ha2 _
         have HN2 := Lib.hid hn2
         have HA2 := Lib.hid ha2
         have HAT2 := Lib.hid hat2
         have HM2 := Lib.hid hm2
         clear hat2 hm2 hn2 ha2)
      | fail)
    go_ret
    have hm3 : Mod (fun b => b = ba) w2 (w2.setCell ⟨ba, 1, none⟩ (.string ⟨g.1.toArray⟩)) := by (repeat' (first | exact Mod.refl _ _ | assumption | refine Mod.alloc ?_ _ | refine Mod.drew ?_ | refine Mod.drewN ?_ _ | refine Mod.setCell ?_ (by first | exact Or.inl rfl | (right; simp; done) | (right; simp; omega) | (left; simp; done)) _))
    have hs : step2 (1, a) s = ((2, ⟨a.T, g.1⟩), g.2.1, g.2.2, true) := by rw [HG.out]; rfl
    rw [hs]
    refine ⟨rfl, HAT2.out.keep hm3 (fun e => HQ.out.2 e.symm) (fun b hb e => (HC.out b (.inr e)).2.2 hb), ?_, fun b => b = bn ∨ b = ba, ⟨hp_far HN2.out hne _, hp_eq (hp_set HA2.out 1 _) rfl, hne, rfl⟩, fun b hb => ⟨?_, .inl hb⟩⟩
    · refine ((HM1.out.mono fun b _ h => .inr (.inl h)).trans HM2.out fun b hb => .inl (.inl hb)).trans hm3 fun b hb => .inl (.inr (.inr hb))
    · have h1 := (HC.out b hb).1
      have h2 := HM1.out.size
      have h3 := HM2.out.size
      have h4 := hm3.size
      omega
  · obtain rfl : m = 3 := by rw [hmk]; rfl
    clear hmk
    obtain ⟨g, hg⟩ : ∃ g, g = gotV 2 s false := ⟨_, rfl⟩
    have HG := Lib.hid hg
    rw [← hg] at HR2
    clear hg
    go_enter Tryz.func35, Tryz.ntmps35
    go_wp2_with (first
      | (go_at_call 24
         (with_reducible refine HR2.out.mono ?_)
         rintro e w2 ⟨rfl, hat2, hm2⟩
         have hn2 := hp_mod HN1.out hm2 HQ.out.1
         have ha2 := hp_mod HA1.out hm2 HQ.out.2
         have d1 := hp_cell hn2 0
         have d2 := hp_cell ha2 1
         have d2' : w2.cell? ⟨ba, 0 + 1, none⟩ = _ := hp_cell ha2 1
         have g2 : w2.frozen? ⟨ba, 1, none⟩ = false := hp_free ha2 _
         have g2' : w2.frozen? ⟨ba, 0 + 1, none⟩ = false := hp_free ha2 _
         have HN2 := Lib.hid hn2
         have HA2 := Lib.hid ha2
         have HAT2 := Lib.hid hat2
         have HM2 := Lib.hid hm2
         clear hat2 hm2 hn2 ha2)
      | fail)
    go_ret
    have hm3 : Mod (fun b => b = ba) w2 (w2.setCell ⟨ba, 1, none⟩ (.string ⟨g.1.toArray⟩)) := by (repeat' (first | exact Mod.refl _ _ | assumption | refine Mod.alloc ?_ _ | refine Mod.drew ?_ | refine Mod.drewN ?_ _ | refine Mod.setCell ?_ (by first | exact Or.inl rfl | (right; simp; done) | (right; simp; omega) | (left; simp; done)) _))
    have hs : step2 (2, a) s = ((3, ⟨a.T, g.1⟩), g.2.1, g.2.2, false) := by rw [HG.out]; rfl
    rw [hs]
    refine ⟨rfl, HAT2.out.keep hm3 (fun e => HQ.out.2 e.symm) (fun b hb e => (HC.out b (.inr e)).2.2 hb), ?_, fun b => b = bn ∨ b = ba, ⟨hp_far HN2.out hne _, hp_eq (hp_set HA2.out 1 _) rfl, hne, rfl⟩, fun b hb => ⟨?_, .inl hb⟩⟩
    · refine ((HM1.out.mono fun b _ h => .inr (.inl h)).trans HM2.out fun b hb => .inl (.inl hb)).trans hm3 fun b hb => .inl (.inr (.inr hb))
    · have h1 := (HC.out b hb).1
      have h2 := HM1.out.size
      have h3 := HM2.out.size
      have h4 := hm3.size
      omega
end Go.Proofs.YtccnkcaagigceaaGreat
