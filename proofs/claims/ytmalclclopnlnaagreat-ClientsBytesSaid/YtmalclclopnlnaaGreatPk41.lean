/-
  Texts of this claim, one behind the other: LawY.
-/
import Derived.Test.YtmalclclopnlnaaGreatPk40
/-
  The laws of clients: a table, act by act.
-/
namespace Go.Proofs.YtmalclclopnlnaaGreat
open Go.RowKit Go.Shelf
attribute [local go_sem] Oper.semAt_some

/-- Both look the same, at whatever world behind. -/
theorem sameX {base : Nat} {D : Nat → Prop} {p m q : Nat} {w0 w : World} {L : List Told} (h : Duo base D p m q w L) (hD : ∀ b, D b → b < w.heap.size) (hw : Mod (fun _ => False) w0 w) (A : Option Addr) (cp : Nat) (xs : List AC) (hx : ActsAt w0 A xs) (hl : xs.length ≤ 1000) :
    ∀ X, Mod (fun _ => False) w X → Calls Tryz.prog 14 #[.pointer (some ⟨p, 0, none⟩), .pointer (some ⟨q, 0, none⟩), .slice A xs.length cp] X fun e w' => e = .returned (.bool true) ∧ Mod (fun _ => False) X w' := by
  intro X hX
  obtain ⟨F, ms, v, ys, h1, h2, -⟩ := h.mod hX hD
  exact same_any F p m base q D L ms v ys A cp xs X h1 h2 (hx.mod (hw.trans' hX)) hl fun b hb => Nat.lt_of_lt_of_le (hD b hb) hX.size
set_option maxRecDepth 100000 in
set_option maxHeartbeats 4000000 in
theorem play_any (A1 A2 : Option Addr) (c1 c2 : Nat) (xs1 xs2 : List AC) (w : World) (h1 : ActsAt w A1 xs1) (h2 : ActsAt w A2 xs2) :
    Calls Tryz.prog 4 #[.slice A1 xs1.length c1, .slice A2 xs2.length c2] w fun e w' => e = .returned (.bool true) ∧ Mod (fun _ => False) w w' := by
  obtain ⟨n1, hn1⟩ : ∃ n, n = xs1.length := ⟨_, rfl⟩
  obtain ⟨n2, hn2⟩ : ∃ n, n = xs2.length := ⟨_, rfl⟩
  have hf1 := fun X (hX : Mod (fun _ => False) w X) => few_any A1 c1 40 _ xs1 X (h1.mod hX).rd (h1.mod hX).ok h1.len (by decide)
  unfold FewEnds at hf1
  obtain ⟨z1, hz1⟩ : ∃ z, z = fewB 40 xs1 := ⟨_, rfl⟩
  rw [← hn1, ← hz1] at hf1
  rw [← hn1, ← hn2]
  have HF1 := Lib.hid (show ∀ X, Mod (fun _ => False) w X → Calls Tryz.prog 7 #[.slice A1 n1 c1, .int .i64 40] X fun e w' => e = .returned (.bool z1) ∧ w' = X from hf1)
  have HKn := Lib.hid (fun X => known25_any X)
  clear hf1
  cases z1
  · clear h1 h2 hn1 hn2 hz1
    go_enter Tryz.func4, Tryz.ntmps4
    go_wp2_with (first
      | (go_at_call 7
         (with_reducible refine (HF1.out _ (by (repeat' (with_reducible (first | exact Mod.refl _ _ | assumption | refine Mod.alloc ?_ _ | refine Mod.drew ?_ | refine Mod.drewN ?_ _ | refine Mod.setCell ?_ (by first | exact Or.inl rfl | (right; simp; done) | (right; simp; omega) | (left; simp; done)) _))))).mono ?_)
         rintro e w1 ⟨rfl, hw1⟩
         subst w1)
      | (go_at_call 8
         (with_reducible refine (HKn.out _).mono ?_)
         rintro e w1 ⟨rfl, hmk⟩)
      | fail)
    refine bodyPost_ret (v := .bool true) (by simp [results, Tryz.results4, go_sem]) rfl ⟨rfl, hmk⟩
  obtain ⟨hl1, hs1⟩ := fewB_yes hz1.symm
  by_cases h20 : 20 < n2
  · have d1 : decide (20 < n2) = true := decide_eq_true h20
    have d2 : decide ((20 : Int) < (n2 : Int)) = true := by simp; omega
    clear h1 h2 hn1 hn2 hz1 hl1 hs1
    go_enter Tryz.func4, Tryz.ntmps4
    go_wp2_with (first
      | (go_at_call 7
         (with_reducible refine (HF1.out _ (by (repeat' (with_reducible (first | exact Mod.refl _ _ | assumption | refine Mod.alloc ?_ _ | refine Mod.drew ?_ | refine Mod.drewN ?_ _ | refine Mod.setCell ?_ (by first | exact Or.inl rfl | (right; simp; done) | (right; simp; omega) | (left; simp; done)) _))))).mono ?_)
         rintro e w1 ⟨rfl, hw1⟩
         subst w1)
      | (go_at_call 8
         (with_reducible refine (HKn.out _).mono ?_)
         rintro e w1 ⟨rfl, hmk⟩)
      | fail)
    refine bodyPost_ret (v := .bool true) (by simp [results, Tryz.results4, go_sem]) rfl ⟨rfl, hmk⟩
  have d1 : decide (20 < n2) = false := decide_eq_false h20
  have d2 : decide ((20 : Int) < (n2 : Int)) = false := by simp; omega
  have hbg := fun X (hX : Mod (fun _ => False) w X) => begin_any A1 c1 (fun b => b < w.heap.size) xs1 X (h1.rd.mod hX fun b hb => ⟨hb, id⟩) (fun x hx => (h1.ok x hx).mod hX fun b hb => ⟨hb, id⟩) h1.len hs1 fun b hb => Nat.lt_of_lt_of_le hb hX.size
  have hsm := fun (A : Option Addr) (cp : Nat) (xs : List AC) (hx : ActsAt w A xs) (hl : xs.length ≤ 1000) (base p m q : Nat) (X : World) (hX : Mod (fun _ => False) w X) (h : Duo base (fun b => b < w.heap.size) p m q X (allT (xs1.map AC.told))) => sameX h (fun b hb => Nat.lt_of_lt_of_le hb hX.size) hX A cp xs hx hl
  have hsm1 := hsm A1 c1 xs1 h1 (by omega)
  have hsm2 := hsm A2 c2 xs2 h2 (by omega)
  rw [← hn1] at hbg hsm1
  rw [← hn2] at hsm2
  have HBg := Lib.hid hbg
  have HSm1 := Lib.hid hsm1
  have HSm2 := Lib.hid hsm2
  have M0 := Mod.refl (fun _ => False) w
  clear h1 h2 hn1 hn2 hz1 hl1 hs1 hbg hsm hsm1 hsm2
  go_enter Tryz.func4, Tryz.ntmps4
  go_wp2_with (first
    | (go_at_call 7
       (with_reducible refine (HF1.out _ (by (repeat' (with_reducible (first | exact Mod.refl _ _ | assumption | refine Mod.alloc ?_ _ | refine Mod.drew ?_ | refine Mod.drewN ?_ _ | refine Mod.setCell ?_ (by first | exact Or.inl rfl | (right; simp; done) | (right; simp; omega) | (left; simp; done)) _))))).mono ?_)
       rintro e w1 ⟨rfl, hw1⟩
       subst w1)
    | (go_at_call 9
       (with_reducible refine (HBg.out _ (by (repeat' (with_reducible (first | exact Mod.refl _ _ | assumption | refine Mod.alloc ?_ _ | refine Mod.drew ?_ | refine Mod.drewN ?_ _ | refine Mod.setCell ?_ (by first | exact Or.inl rfl | (right; simp; done) | (right; simp; omega) | (left; simp; done)) _))))).mono ?_)
       rintro e w2 ⟨⟨p, m, q, rfl, hduo⟩, hm2⟩
       have M2 : Mod (fun _ => False) w w2 := Mod.trans' (by (repeat' (with_reducible (first | exact Mod.refl _ _ | assumption | refine Mod.alloc ?_ _ | refine Mod.drew ?_ | refine Mod.drewN ?_ _ | refine Mod.setCell ?_ (by first | exact Or.inl rfl | (right; simp; done) | (right; simp; omega) | (left; simp; done)) _)))) hm2
       have HA1 := Lib.hid (HSm1.out _ p m q w2 M2 hduo)
       have HA2 := Lib.hid (HSm2.out _ p m q w2 M2 hduo)
       have N2 := Mod.refl (fun _ => False) w2
       clear hduo hm2)
    | (go_at_call 14
       (with_reducible refine (HA2.out _ (by (repeat' (with_reducible (first | exact Mod.refl _ _ | assumption | refine Mod.alloc ?_ _ | refine Mod.drew ?_ | refine Mod.drewN ?_ _ | refine Mod.setCell ?_ (by first | exact Or.inl rfl | (right; simp; done) | (right; simp; omega) | (left; simp; done)) _))))).mono ?_)
       rintro e w3 ⟨rfl, hm3⟩
       have N3 : Mod (fun _ => False) w2 w3 := Mod.trans' (by (repeat' (with_reducible (first | exact Mod.refl _ _ | assumption | refine Mod.alloc ?_ _ | refine Mod.drew ?_ | refine Mod.drewN ?_ _ | refine Mod.setCell ?_ (by first | exact Or.inl rfl | (right; simp; done) | (right; simp; omega) | (left; simp; done)) _)))) hm3
       clear hm3)
    | (go_at_call 14
       (with_reducible refine (HA1.out _ (by (repeat' (with_reducible (first | exact Mod.refl _ _ | assumption | refine Mod.alloc ?_ _ | refine Mod.drew ?_ | refine Mod.drewN ?_ _ | refine Mod.setCell ?_ (by first | exact Or.inl rfl | (right; simp; done) | (right; simp; omega) | (left; simp; done)) _))))).mono ?_)
       rintro e w4 ⟨rfl, hm4⟩
       have N4 : Mod (fun _ => False) w2 w4 := Mod.trans' (by (repeat' (with_reducible (first | exact Mod.refl _ _ | assumption | refine Mod.alloc ?_ _ | refine Mod.drew ?_ | refine Mod.drewN ?_ _ | refine Mod.setCell ?_ (by first | exact Or.inl rfl | (right; simp; done) | (right; simp; omega) | (left; simp; done)) _)))) hm4
       clear hm4)
    | (go_at_call 8
       (with_reducible refine (HKn.out _).mono ?_)
       rintro e w5 ⟨rfl, hmk⟩
       have N5 : Mod (fun _ => False) w2 w5 := Mod.trans' (by (repeat' (with_reducible (first | exact Mod.refl _ _ | assumption | refine Mod.alloc ?_ _ | refine Mod.drew ?_ | refine Mod.drewN ?_ _ | refine Mod.setCell ?_ (by first | exact Or.inl rfl | (right; simp; done) | (right; simp; omega) | (left; simp; done)) _)))) hmk)
    | fail)
  refine bodyPost_ret (v := .bool true) (by simp [results, Tryz.results4, go_sem]) rfl ⟨rfl, M2.trans' N5⟩
end Go.Proofs.YtmalclclopnlnaaGreat
