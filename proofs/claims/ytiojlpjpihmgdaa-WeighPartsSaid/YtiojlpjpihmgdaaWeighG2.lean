/-
  The law WeighParts: every case.
-/
import Derived.Test.YtiojlpjpihmgdaaWeighG
namespace Go.Proofs.Ytiojlpjpihmgdaa
open Go.RowKit

set_option maxRecDepth 100000 in
set_option maxHeartbeats 4000000 in
theorem weighParts_any (lv : Int) (A B : Option Addr) (c d : Nat) (xa xb : List El) (e : El) (w : World) (hA : Rd (fun b => b < w.heap.size) w 4 El.cs A xa) (hB : Rd (fun b => b < w.heap.size) w 4 El.cs B xb)
    (hla : xa.length ≤ maxLen) (hlb : xb.length ≤ maxLen) :
    Calls Try.prog 4 #[.int .i64 lv, .slice A xa.length c, .slice B xb.length d, e.v] w fun r w' => r = .returned (.bool true) ∧ Mod (fun _ => False) w w' := by
  by_cases hall : soundL xa = true ∧ soundL xb = true ∧ xa.length ≤ 100 ∧ xb.length ≤ 100 ∧ 1 ≤ lv ∧ lv ≤ 4
  · obtain ⟨h1, h2, h3, h4, h5, h6⟩ := hall
    exact weighParts_yes lv A B c d xa xb e w hA hB h1 h2 h3 h4 h5 h6
  have HSa := Lib.hid (fun W (h : Rd (fun b => b < w.heap.size) W 4 El.cs A xa) => sound_any _ A c xa W h hla)
  have HSb := Lib.hid (fun W (h : Rd (fun b => b < w.heap.size) W 4 El.cs B xb) => sound_any _ B d xb W h hlb)
  have HA := Lib.hid (fun X (hX : Mod (fun _ => False) w X) => hA.mod hX (fun b hb => ⟨hb, id⟩))
  have HB := Lib.hid (fun X (hX : Mod (fun _ => False) w X) => hB.mod hX (fun b hb => ⟨hb, id⟩))
  obtain ⟨sa, hsa⟩ : ∃ x, x = soundL xa := ⟨_, rfl⟩
  obtain ⟨sb, hsb⟩ : ∃ x, x = soundL xb := ⟨_, rfl⟩
  obtain ⟨n, hn⟩ : ∃ n, n = xa.length := ⟨_, rfl⟩
  obtain ⟨m, hm⟩ : ∃ m, m = xb.length := ⟨_, rfl⟩
  rw [← hn, ← hm, ← hsa, ← hsb] at hall
  rw [← hn] at hla HSa ⊢
  rw [← hm] at hlb HSb ⊢
  rw [← hsa] at HSa
  rw [← hsb] at HSb
  clear hn hm hsa hsb hA hB
  unfold maxLen at hla hlb
  unfold El.v
  have HALL := Lib.hid hall
  clear hall
  cases sa
  · clear HALL
    go_enter Try.func4, Try.ntmps4
    go_wp2_with (first
      | (go_at_call_of 6 (Value.slice A n c)
         refine (HSa.out _ (HA.out _ (by (repeat' (first | exact Mod.refl _ _ | assumption | refine Mod.alloc ?_ _ | refine Mod.drew ?_ | refine Mod.drewN ?_ _ | refine Mod.setCell ?_ (by first | exact Or.inl rfl | (right; simp; done) | (right; simp; omega)) _))))).mono ?_
         rintro r w' ⟨rfl, rfl⟩)
      | (go_at_call_of 6 (Value.slice B m d)
         refine (HSb.out _ (HB.out _ (by (repeat' (first | exact Mod.refl _ _ | assumption | refine Mod.alloc ?_ _ | refine Mod.drew ?_ | refine Mod.drewN ?_ _ | refine Mod.setCell ?_ (by first | exact Or.inl rfl | (right; simp; done) | (right; simp; omega)) _))))).mono ?_
         rintro r w' ⟨rfl, rfl⟩)
      | (go_at_call 7
         refine (known_any _).mono ?_
         rintro r w70 ⟨rfl, hm70⟩)
      | fail)
    go_ret
    exact ⟨rfl, (show Mod (fun _ => False) w _ by (repeat' (first | exact Mod.refl _ _ | assumption | refine Mod.alloc ?_ _ | refine Mod.drew ?_ | refine Mod.drewN ?_ _ | refine Mod.setCell ?_ (by first | exact Or.inl rfl | (right; simp; done) | (right; simp; omega)) _))).trans' hm70⟩
  cases sb
  · clear HALL
    go_enter Try.func4, Try.ntmps4
    go_wp2_with (first
      | (go_at_call_of 6 (Value.slice A n c)
         refine (HSa.out _ (HA.out _ (by (repeat' (first | exact Mod.refl _ _ | assumption | refine Mod.alloc ?_ _ | refine Mod.drew ?_ | refine Mod.drewN ?_ _ | refine Mod.setCell ?_ (by first | exact Or.inl rfl | (right; simp; done) | (right; simp; omega)) _))))).mono ?_
         rintro r w' ⟨rfl, rfl⟩)
      | (go_at_call_of 6 (Value.slice B m d)
         refine (HSb.out _ (HB.out _ (by (repeat' (first | exact Mod.refl _ _ | assumption | refine Mod.alloc ?_ _ | refine Mod.drew ?_ | refine Mod.drewN ?_ _ | refine Mod.setCell ?_ (by first | exact Or.inl rfl | (right; simp; done) | (right; simp; omega)) _))))).mono ?_
         rintro r w' ⟨rfl, rfl⟩)
      | (go_at_call 7
         refine (known_any _).mono ?_
         rintro r w70 ⟨rfl, hm70⟩)
      | fail)
    go_ret
    exact ⟨rfl, (show Mod (fun _ => False) w _ by (repeat' (first | exact Mod.refl _ _ | assumption | refine Mod.alloc ?_ _ | refine Mod.drew ?_ | refine Mod.drewN ?_ _ | refine Mod.setCell ?_ (by first | exact Or.inl rfl | (right; simp; done) | (right; simp; omega)) _))).trans' hm70⟩
  by_cases h3 : n ≤ 100
  rotate_left
  · clear HALL
    go_enter Try.func4, Try.ntmps4
    go_wp2_with (first
      | (go_at_call_of 6 (Value.slice A n c)
         refine (HSa.out _ (HA.out _ (by (repeat' (first | exact Mod.refl _ _ | assumption | refine Mod.alloc ?_ _ | refine Mod.drew ?_ | refine Mod.drewN ?_ _ | refine Mod.setCell ?_ (by first | exact Or.inl rfl | (right; simp; done) | (right; simp; omega)) _))))).mono ?_
         rintro r w' ⟨rfl, rfl⟩)
      | (go_at_call_of 6 (Value.slice B m d)
         refine (HSb.out _ (HB.out _ (by (repeat' (first | exact Mod.refl _ _ | assumption | refine Mod.alloc ?_ _ | refine Mod.drew ?_ | refine Mod.drewN ?_ _ | refine Mod.setCell ?_ (by first | exact Or.inl rfl | (right; simp; done) | (right; simp; omega)) _))))).mono ?_
         rintro r w' ⟨rfl, rfl⟩)
      | (go_at_call 7
         refine (known_any _).mono ?_
         rintro r w70 ⟨rfl, hm70⟩)
      | fail)
    go_ret
    exact ⟨rfl, (show Mod (fun _ => False) w _ by (repeat' (first | exact Mod.refl _ _ | assumption | refine Mod.alloc ?_ _ | refine Mod.drew ?_ | refine Mod.drewN ?_ _ | refine Mod.setCell ?_ (by first | exact Or.inl rfl | (right; simp; done) | (right; simp; omega)) _))).trans' hm70⟩
  by_cases h4 : m ≤ 100
  rotate_left
  · clear HALL
    go_enter Try.func4, Try.ntmps4
    go_wp2_with (first
      | (go_at_call_of 6 (Value.slice A n c)
         refine (HSa.out _ (HA.out _ (by (repeat' (first | exact Mod.refl _ _ | assumption | refine Mod.alloc ?_ _ | refine Mod.drew ?_ | refine Mod.drewN ?_ _ | refine Mod.setCell ?_ (by first | exact Or.inl rfl | (right; simp; done) | (right; simp; omega)) _))))).mono ?_
         rintro r w' ⟨rfl, rfl⟩)
      | (go_at_call_of 6 (Value.slice B m d)
         refine (HSb.out _ (HB.out _ (by (repeat' (first | exact Mod.refl _ _ | assumption | refine Mod.alloc ?_ _ | refine Mod.drew ?_ | refine Mod.drewN ?_ _ | refine Mod.setCell ?_ (by first | exact Or.inl rfl | (right; simp; done) | (right; simp; omega)) _))))).mono ?_
         rintro r w' ⟨rfl, rfl⟩)
      | (go_at_call 7
         refine (known_any _).mono ?_
         rintro r w70 ⟨rfl, hm70⟩)
      | fail)
    go_ret
    exact ⟨rfl, (show Mod (fun _ => False) w _ by (repeat' (first | exact Mod.refl _ _ | assumption | refine Mod.alloc ?_ _ | refine Mod.drew ?_ | refine Mod.drewN ?_ _ | refine Mod.setCell ?_ (by first | exact Or.inl rfl | (right; simp; done) | (right; simp; omega)) _))).trans' hm70⟩
  by_cases h5 : 1 ≤ lv
  rotate_left
  · clear HALL
    go_enter Try.func4, Try.ntmps4
    go_wp2_with (first
      | (go_at_call_of 6 (Value.slice A n c)
         refine (HSa.out _ (HA.out _ (by (repeat' (first | exact Mod.refl _ _ | assumption | refine Mod.alloc ?_ _ | refine Mod.drew ?_ | refine Mod.drewN ?_ _ | refine Mod.setCell ?_ (by first | exact Or.inl rfl | (right; simp; done) | (right; simp; omega)) _))))).mono ?_
         rintro r w' ⟨rfl, rfl⟩)
      | (go_at_call_of 6 (Value.slice B m d)
         refine (HSb.out _ (HB.out _ (by (repeat' (first | exact Mod.refl _ _ | assumption | refine Mod.alloc ?_ _ | refine Mod.drew ?_ | refine Mod.drewN ?_ _ | refine Mod.setCell ?_ (by first | exact Or.inl rfl | (right; simp; done) | (right; simp; omega)) _))))).mono ?_
         rintro r w' ⟨rfl, rfl⟩)
      | (go_at_call 7
         refine (known_any _).mono ?_
         rintro r w70 ⟨rfl, hm70⟩)
      | fail)
    go_ret
    exact ⟨rfl, (show Mod (fun _ => False) w _ by (repeat' (first | exact Mod.refl _ _ | assumption | refine Mod.alloc ?_ _ | refine Mod.drew ?_ | refine Mod.drewN ?_ _ | refine Mod.setCell ?_ (by first | exact Or.inl rfl | (right; simp; done) | (right; simp; omega)) _))).trans' hm70⟩
  by_cases h6 : lv ≤ 4
  rotate_left
  · clear HALL
    go_enter Try.func4, Try.ntmps4
    go_wp2_with (first
      | (go_at_call_of 6 (Value.slice A n c)
         refine (HSa.out _ (HA.out _ (by (repeat' (first | exact Mod.refl _ _ | assumption | refine Mod.alloc ?_ _ | refine Mod.drew ?_ | refine Mod.drewN ?_ _ | refine Mod.setCell ?_ (by first | exact Or.inl rfl | (right; simp; done) | (right; simp; omega)) _))))).mono ?_
         rintro r w' ⟨rfl, rfl⟩)
      | (go_at_call_of 6 (Value.slice B m d)
         refine (HSb.out _ (HB.out _ (by (repeat' (first | exact Mod.refl _ _ | assumption | refine Mod.alloc ?_ _ | refine Mod.drew ?_ | refine Mod.drewN ?_ _ | refine Mod.setCell ?_ (by first | exact Or.inl rfl | (right; simp; done) | (right; simp; omega)) _))))).mono ?_
         rintro r w' ⟨rfl, rfl⟩)
      | (go_at_call 7
         refine (known_any _).mono ?_
         rintro r w70 ⟨rfl, hm70⟩)
      | fail)
    go_ret
    exact ⟨rfl, (show Mod (fun _ => False) w _ by (repeat' (first | exact Mod.refl _ _ | assumption | refine Mod.alloc ?_ _ | refine Mod.drew ?_ | refine Mod.drewN ?_ _ | refine Mod.setCell ?_ (by first | exact Or.inl rfl | (right; simp; done) | (right; simp; omega)) _))).trans' hm70⟩
  exact absurd ⟨rfl, rfl, h3, h4, h5, h6⟩ HALL.out
end Go.Proofs.Ytiojlpjpihmgdaa
