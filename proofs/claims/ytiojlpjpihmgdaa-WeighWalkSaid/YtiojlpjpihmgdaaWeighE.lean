/-
  blazonlaw15.sound, known, WeighOf.
-/
import Derived.Test.YtiojlpjpihmgdaaWeighD
namespace Go.Proofs.Ytiojlpjpihmgdaa
open Go.RowKit

def badE (e : El) : Bool := e.V && (e.P == 0 || e.S == 0 || e.T == 0)
def soundL (l : List El) : Bool := l.all (fun e => !badE e) && decide (l.length ≤ 200)

set_option maxHeartbeats 1000000 in
theorem sound_any (D : Nat → Prop) (A : Option Addr) (c : Nat) (xs : List El) (w : World) (hA : Rd D w 4 El.cs A xs) (hl : xs.length ≤ maxLen) :
    Calls Try.prog 6 #[.slice A xs.length c] w fun e w' => e = .returned (.bool (soundL xs)) ∧ w = w' := by
  unfold maxLen at hl
  obtain ⟨n, hn⟩ : ∃ n, n = xs.length := ⟨_, rfl⟩
  rw [← hn] at hl ⊢
  have HN := Lib.hid hn
  clear hn
  go_enter Try.func6, Try.ntmps6
  go_wp2
  go_loop [3] (fun i => ∃ k : Nat, k ≤ n ∧ i = .int .i64 k ∧ (xs.take k).all (fun e => !badE e) = true) (fun i => n - (intOf i).toNat)
  case atStart => exact ⟨0, Nat.zero_le _, rfl, by simp⟩
  case round =>
    obtain ⟨k, hk, rfl, ht⟩ := hrel
    have HT := Lib.hid ht
    clear ht
    by_cases hlt : k < n
    · have hkx : k < xs.length := by rw [← HN.out]; exact hlt
      obtain ⟨b, off, rfl, -, hc⟩ := hA (by omega)
      obtain ⟨g, hg⟩ : ∃ g, g = xs[k] := ⟨_, rfl⟩
      have h0 : w.cell? ⟨b, off + k * 4, none⟩ = some (.int .u16 g.P) := by rw [hg]; exact hc k hkx 0 _ rfl
      have h1 : w.cell? ⟨b, off + k * 4 + 1, none⟩ = some (.int .u16 g.S) := by rw [hg]; exact hc k hkx 1 _ rfl
      have h2 : w.cell? ⟨b, off + k * 4 + 2, none⟩ = some (.int .u16 g.T) := by rw [hg]; exact hc k hkx 2 _ rfl
      have h3 : w.cell? ⟨b, off + k * 4 + 3, none⟩ = some (.bool g.V) := by rw [hg]; exact hc k hkx 3 _ rfl
      have HS : Hid (badE g = false → ((xs.take (k+1)).all fun e => !badE e) = true) := fun hb => by rw [take_snoc xs k hkx, List.all_append, HT.out, ← hg]; simp [hb]
      have HB : Hid (badE g = true → soundL xs = false) := fun hb => by
        have : (xs.all fun e => !badE e) = false := by rw [List.all_eq_false]; exact ⟨xs[k], List.getElem_mem _, by rw [← hg]; simp [hb]⟩
        simp [soundL, this]
      clear hc hA hg
      go_wp2
      all_goals first
        | (go_ret
           refine ⟨ret_bool ?_, rfl⟩
           rw [HB.out]
           clear h0 h1 h2 h3
           go_tidy
           simp_all [badE]; done)
        | (go_round
           case rel =>
             refine ⟨k + 1, by omega, by go_num, HS.out ?_⟩
             clear h0 h1 h2 h3
             go_tidy
             simp_all [badE]; done
           case measure => simp only [intOf]; omega)
    · go_wp2
      go_ret
      refine ⟨ret_bool ?_, rfl⟩
      have : xs.take k = xs := List.take_of_length_le (by have := HN.out; omega)
      have h2 := HT.out
      rw [this] at h2
      simp [soundL, h2, ← HN.out]
      omega

theorem bAt_scan (xs : List El) (hs : soundL xs = true) : ∀ k, k ≤ xs.length → bAt true xs k = rbh xs k := by
  intro k
  induction k with
  | zero => intro _; rfl
  | succ k ih =>
    intro hk
    have hkx : k < xs.length := by omega
    rw [bAt_succ true xs k hkx, ih (by omega)]
    unfold rbh
    rw [scan_succ xs k hkx]
    have hb : badE xs[k] = false := by
      have h1 : (xs.all fun e => !badE e) = true := by simp [soundL] at hs ⊢; exact hs.1
      rw [List.all_eq_true] at h1
      simpa using h1 xs[k] (List.getElem_mem _)
    generalize xs[k] = g at hb ⊢
    cases hV : g.V <;> by_cases hP : g.P = 0 <;> by_cases hS : g.S = 0 <;> by_cases hT : g.T = 0 <;> simp_all [oneB, badE]

/-- The weights are the reference's. -/
theorem weighs_refs (sh : Bool) (lv : Int) (xs : List El) (hs : soundL xs = true) : weighs sh lv xs = refs sh lv xs := by
  unfold weighs refs
  by_cases h : 1 ≤ lv ∧ lv ≤ 4
  · rw [if_pos (by simp [h]), if_pos h]
    apply List.ext_getElem (by simp)
    intro k h1 h2
    simp only [List.getElem_mapIdx]
    cases sh
    · simp [oneW]
    · rw [bAt_scan xs hs k (by simp at h1; omega)]
  · rw [if_neg (by simpa using h), if_neg h]

set_option maxHeartbeats 1000000 in
theorem known_any (w : World) : Calls Try.prog 7 #[] w fun e w' => e = .returned (.bool true) ∧ Mod (fun _ => False) w w' := by
  go_enter Try.func7, Try.ntmps7
  have HW := Lib.hid (show weighs true 4 [⟨521, 32, 2, true⟩, ⟨0, 32, 2, false⟩, ⟨7239, 32, 2, false⟩] = [⟨0, 0, 0, 521⟩, ⟨0, 0, 0, 0⟩, ⟨7239, 32, 2, 65535⟩] by decide)
  go_wp2_with (first
    | (go_at_call 11
       refine (of_any true 4 (some ⟨w.heap.size, 0, none⟩) 3 [⟨521, 32, 2, true⟩, ⟨0, 32, 2, false⟩, ⟨7239, 32, 2, false⟩] _ ((Rd.blk El.cs_len (hp_new _ _) rfl).mono (fun b h => by subst h; simp)) (by simp)).mono ?_
       rintro e w1 ⟨v1, rfl, hv1, hm1⟩
       rw [HW.out] at hv1
       obtain ⟨A1, c1, rfl, hr1, hf1, -⟩ := OwnS.rd hv1 Wt.cs_len
       have HM1 := Lib.hid hm1
       clear hm1)
    | (go_at_call 12
       refine (same_any (fun _ => True) (fun _ => True) A1 (some ⟨w1.heap.size, 0, none⟩) _ _ _ _ [⟨0, 0, 0, 521⟩, ⟨0, 0, 0, 0⟩, ⟨7239, 32, 2, 65535⟩] [⟨0, 0, 0, 521⟩, ⟨0, 0, 0, 0⟩, ⟨7239, 32, 2, 65535⟩] _ rfl rfl ((hr1.keep (Agree.below ((Below.refl _ _).alloc (Nat.le_refl _) _) fun b h => (hf1 b h).2)).mono fun _ _ => trivial) ((Rd.blk Wt.cs_len (hp_new _ _) rfl).mono fun _ _ => trivial) (by simp [maxLen])).mono ?_
       rintro e w2 ⟨rfl, q, rfl⟩))
  go_ret
  exact ⟨rfl, (((Mod.refl _ w).alloc _).trans' HM1.out |>.alloc _).drewN _⟩

end Go.Proofs.Ytiojlpjpihmgdaa
