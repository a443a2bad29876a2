/-
  entry.Has; the plain laws of EntryChanges.
-/
import Derived.Test.YtccnkcaagigceaaEntryN
namespace Go.Proofs.Ytccnkcaagigceaa
open Go.RowKit Go.Shelf
attribute [local go_sem] Oper.semAt_some

set_option maxRecDepth 100000 in
set_option maxHeartbeats 4000000 in
theorem aindexE_any (D : Nat → Prop) (A : Option Addr) (c : Nat) (xs : List At) (y : At) (w : World) (hA : Rd D w 2 At.cs A xs) (hd : ∀ b, D b → b < w.heap.size) (hl : xs.length ≤ maxLen) :
    Calls Try.prog 60 #[.slice A xs.length c, y.val] w fun e w' => e = .returned (.int .i64 (idxA (fun x => decide (y = x)) xs)) ∧ Mod (fun _ => False) w w' := by
  unfold maxLen at hl
  obtain ⟨z, hz⟩ : ∃ z, z = idxA (fun x => decide (y = x)) xs := ⟨_, rfl⟩
  rw [← hz]
  have HZ := Lib.hid hz
  obtain ⟨n, hn⟩ : ∃ n, n = xs.length := ⟨_, rfl⟩
  rw [← hn] at hl ⊢
  have HN := Lib.hid hn
  have HA := Lib.hid (fun X (hX : Mod (fun _ => False) w X) => hA.mod hX (fun b hb => ⟨hd b hb, id⟩))
  have HEq := Lib.hid (fun x X => eql_at y x X)
  have heq := (show Try.prog.eqGuardType Try.prog.depth 25 = false by kernel_rfl)
  obtain ⟨W0, hW0⟩ : ∃ W0, W0 = w.alloc y.box := ⟨_, rfl⟩
  have hM0 : Mod (fun _ => False) w W0 := by subst hW0; exact (Mod.refl _ w).alloc _
  have hb0 : W0.heap[w.heap.size]? = some y.box := by subst hW0; exact hp_new w _
  have HM0 := Lib.hid hM0
  have HB0 := Lib.hid hb0
  have HW0 := Lib.hid hW0
  clear hM0 hb0 hW0 hn hz hA
  obtain ⟨yT, yV⟩ := y
  unfold At.box at HB0 HW0
  unfold At.val at HEq ⊢
  simp only at HB0 HW0 HEq ⊢
  go_enter Try.func60, Try.ntmps60
  go_wp2
  rw [← HW0.out]
  go_loopw [8] (fun i wr => ∃ k : Nat, k ≤ n ∧ i = .int .i64 k ∧ (∀ x ∈ xs.take k, (⟨yT, yV⟩ : At) ≠ x) ∧ Mod (fun _ => False) W0 wr) (fun i _ => n - (intOf i).toNat)
  case atStart => exact ⟨0, by omega, rfl, by simp, Mod.refl _ _⟩
  case round =>
    obtain ⟨k, hk, rfl, h1, hm⟩ := hrel
    have H1 := Lib.hid h1
    have HMw := Lib.hid (HM0.out.trans' hm)
    have HMr := Lib.hid hm
    have hbx := hp_mod HB0.out hm id
    have a0 := hp_cell hbx 0
    have a1 := hp_cell hbx 1
    simp only [List.getElem?_toArray, List.getElem?_cons_succ, List.getElem?_cons_zero] at a0 a1
    clear h1 hm hbx
    by_cases hlt : k < n
    · have hkx : k < xs.length := by rw [← HN.out]; exact hlt
      obtain ⟨b1, o1, rfl, -, p0, p1⟩ := rd2 (HA.out _ HMw.out) hkx
      obtain ⟨x, hx⟩ : ∃ x, x = xs[k] := ⟨_, rfl⟩
      rw [← hx] at p0 p1
      have heql := HEq.out x
      have HX := Lib.hid (show xs.take (k + 1) = xs.take k ++ [x] by rw [hx]; exact List.take_succ_eq_append_getElem hkx)
      have HI := Lib.hid (show (⟨yT, yV⟩ : At) = x → z = (k : Int) from fun h => by
        rw [HZ.out]
        unfold idxA
        have : xs.findIdx? (fun x => decide ((⟨yT, yV⟩ : At) = x)) = some k := by
          rw [List.findIdx?_eq_some_iff_getElem]
          refine ⟨hkx, by rw [← hx]; simpa using h, fun j hj => ?_⟩
          have := H1.out xs[j] (by rw [List.mem_take_iff_getElem]; exact ⟨j, by omega, rfl⟩)
          simpa using this
        rw [this])
      clear hx
      by_cases hxy : (⟨yT, yV⟩ : At) = x
      · obtain rfl := HI.out hxy
        rw [decide_eq_true hxy] at heql
        clear hxy
        go_wp2
        go_quiet (fail)
        go_wp2
        go_ret
        exact ⟨rfl, by have := HMw.out; (repeat' (first | exact Mod.refl _ _ | assumption | refine Mod.alloc ?_ _ | refine Mod.drew ?_ | refine Mod.drewN ?_ _ | refine Mod.setCell ?_ (by first | exact Or.inl rfl | (right; simp; done) | (right; simp; omega) | (left; simp; done)) _))⟩
      · have h2 := Lib.hid (show ∀ u ∈ xs.take (k + 1), (⟨yT, yV⟩ : At) ≠ u from fun u hu => by
          rw [HX.out, List.mem_append, List.mem_singleton] at hu
          rcases hu with hu | rfl
          · exact H1.out u hu
          · exact hxy)
        rw [decide_eq_false hxy] at heql
        clear hxy
        go_wp2
        go_quiet (fail)
        go_wp2
        exact ⟨⟨k + 1, by omega, by go_num, h2.out, by have := HMr.out; (repeat' (first | exact Mod.refl _ _ | assumption | refine Mod.alloc ?_ _ | refine Mod.drew ?_ | refine Mod.drewN ?_ _ | refine Mod.setCell ?_ (by first | exact Or.inl rfl | (right; simp; done) | (right; simp; omega) | (left; simp; done)) _))⟩, by simp only [intOf]; omega⟩
    · obtain rfl : k = n := by omega
      obtain rfl : z = -1 := by
        rw [HZ.out]
        unfold idxA
        have : xs.findIdx? (fun x => decide ((⟨yT, yV⟩ : At) = x)) = none := by
          rw [List.findIdx?_eq_none_iff]
          intro u hu
          have := H1.out u (by rwa [List.take_of_length_le (by rw [← HN.out]; exact Nat.le_refl _)])
          simpa using this
        rw [this]
      go_wp2
      go_ret
      exact ⟨rfl, HMw.out⟩
theorem acontainsE_any (D : Nat → Prop) (A : Option Addr) (c : Nat) (xs : List At) (y : At) (w : World) (hA : Rd D w 2 At.cs A xs) (hd : ∀ b, D b → b < w.heap.size) (hl : xs.length ≤ maxLen) :
    Calls Try.prog 42 #[.slice A xs.length c, y.val] w fun e w' => e = .returned (.bool (decide (y ∈ xs))) ∧ Mod (fun _ => False) w w' := by
  have hM0 : Mod (fun _ => False) w (w.alloc y.box) := (Mod.refl _ w).alloc _
  have H := Lib.hid (aindexE_any D A c xs y (w.alloc y.box) (hA.mod hM0 (fun b hb => ⟨hd b hb, id⟩)) (fun b hb => Nat.lt_of_lt_of_le (hd b hb) hM0.size) hl)
  have HB := Lib.hid (show decide (0 ≤ idxA (fun x => decide (y = x)) xs) = decide (y ∈ xs) by
    rw [idxA_any, Bool.eq_iff_iff, List.any_eq_true, decide_eq_true_eq]
    constructor
    · rintro ⟨x, hx, h⟩; rw [of_decide_eq_true h]; exact hx
    · intro h; exact ⟨y, h, by simp⟩)
  obtain ⟨z, hz⟩ : ∃ z, z = idxA (fun x => decide (y = x)) xs := ⟨_, rfl⟩
  rw [← hz] at H HB
  obtain ⟨n, hn⟩ : ∃ n, n = xs.length := ⟨_, rfl⟩
  rw [← hn] at H ⊢
  unfold At.val At.box at H
  unfold At.val
  clear hz hn hA hl hd hM0
  go_enter Try.func42, Try.ntmps42
  go_wp2_with (first
    | (go_at_call 60; refine H.out.mono ?_; rintro e w' ⟨rfl, hm⟩)
    | fail)
  go_ret
  exact ⟨ret_bool HB.out, ((Mod.refl _ w).alloc _).trans' hm⟩
theorem ehas_any (D : Nat → Prop) (A : Option Addr) (c : Nat) (xs : List At) (y : At) (w : World) (hA : Rd D w 2 At.cs A xs) (hd : ∀ b, D b → b < w.heap.size) (hl : xs.length ≤ maxLen) :
    Calls Try.prog 21 #[.slice A xs.length c, y.val] w fun e w' => e = .returned (.bool (decide (y ∈ xs))) ∧ Mod (fun _ => False) w w' := by
  have hM0 : Mod (fun _ => False) w (w.alloc y.box) := (Mod.refl _ w).alloc _
  have H := Lib.hid (acontainsE_any D A c xs y (w.alloc y.box) (hA.mod hM0 (fun b hb => ⟨hd b hb, id⟩)) (fun b hb => Nat.lt_of_lt_of_le (hd b hb) hM0.size) hl)
  obtain ⟨z, hz⟩ : ∃ z, z = decide (y ∈ xs) := ⟨_, rfl⟩
  rw [← hz] at H ⊢
  obtain ⟨n, hn⟩ : ∃ n, n = xs.length := ⟨_, rfl⟩
  rw [← hn] at H ⊢
  unfold At.val At.box at H
  unfold At.val
  clear hz hn hA hl hd hM0
  go_enter Try.func21, Try.ntmps21
  go_wp2_with (first
    | (go_at_call 42; refine H.out.mono ?_; rintro e w' ⟨rfl, hm⟩)
    | fail)
  go_ret
  exact ⟨rfl, ((Mod.refl _ w).alloc _).trans' hm⟩

/-! ### The plain laws -/
theorem chgE_ok {xs ys : List At} (h1 : mayAs xs = true) (h2 : ∀ y ∈ ys, mayA y = true) (h3 : ys.length ≤ 50) (h4 : (chgA xs ys).length ≤ 50) : chgE xs ys = 0 := by
  unfold chgE
  have : (ys.any fun a => !mayA a) = false := by
    rw [List.any_eq_false]; intro y hy; simp [h2 y hy]
  rw [h1, this, decide_eq_false (by omega)]
  simp only [Bool.not_true, Bool.or_self, Bool.false_eq_true, if_false]
  rw [if_neg (by omega)]
theorem chgR_ok {xs ys : List At} (h : chgE xs ys = 0) : chgR xs ys = chgA xs ys := by unfold chgR; rw [if_pos h]
theorem chg_none {xs : List At} (h : mayAs xs = true) : chgE xs [] = 0 ∧ chgR xs [] = xs := by
  obtain ⟨h1, h2, h3⟩ := (mayAs_iff xs).1 h
  have hc : chgA xs [] = xs := by
    unfold chgA
    have e1 : stay xs [] = xs := by
      unfold stay; rw [List.filter_eq_self]; intro x _; rfl
    have e2 : adds [] = [] := rfl
    rw [e1, e2, List.append_nil]
    exact sortA_self h3
  have h0 := chgE_ok h (ys := []) (fun y hy => by cases hy) (by simp) (by rw [hc]; exact h1)
  exact ⟨h0, by rw [chgR_ok h0, hc]⟩
theorem chg_one {xs : List At} {a : At} (h : mayAs xs = true) (hl : xs.length ≤ 40) (ha : mayA a = true) : chgE xs [a] = 0 := by
  refine chgE_ok h (fun y hy => by rw [List.mem_singleton] at hy; rw [hy]; exact ha) (by simp) ?_
  have := chgA_len xs [a]
  simp at this; omega
theorem chg_one_mem {xs : List At} {a : At} (h : chgE xs [a] = 0) : decide (a ∈ chgR xs [a]) = !decide (a.V = []) := by
  rw [chgR_ok h, Bool.eq_iff_iff, decide_eq_true_eq, chgA_mem, Bool.not_eq_true', decide_eq_false_iff_not]
  have ht : tyIn [a] a = true := by simp [tyIn]
  rw [ht]
  simp
theorem mayNm_nil : mayNm [] = true := by decide
theorem mayA_nil {a : At} (h : mayA a = true) : mayA ⟨a.T, []⟩ = true := by
  unfold mayA at h ⊢
  rw [Bool.and_eq_true] at h
  rw [h.1]; exact mayNm_nil
theorem chg_gone {xs : List At} {t : Bs} (h : chgE xs [⟨t, []⟩] = 0) : ∀ x ∈ chgR xs [⟨t, []⟩], x.T ≠ t ∧ x ∈ xs := by
  intro x hx
  rw [chgR_ok h, chgA_mem] at hx
  rcases hx with ⟨h1, h2⟩ | ⟨h1, h2⟩
  · refine ⟨?_, h1⟩
    simpa [tyIn] using h2
  · rw [List.mem_singleton] at h1; rw [h1] at h2; exact absurd rfl h2
theorem chg_rev (xs ys : List At) : chgE xs ys.reverse = chgE xs ys ∧ chgR xs ys.reverse = chgR xs ys := by
  have ht : ∀ x, tyIn ys.reverse x = tyIn ys x := fun x => by unfold tyIn; rw [List.any_reverse]
  have hc : chgA xs ys.reverse = chgA xs ys := by
    refine srt_ext (sortA_srt _) (sortA_srt _) fun x => ?_
    show x ∈ chgA xs ys.reverse ↔ x ∈ chgA xs ys
    rw [chgA_mem, chgA_mem, ht, List.mem_reverse]
  have he : chgE xs ys.reverse = chgE xs ys := by
    unfold chgE
    rw [hc, List.any_reverse, List.length_reverse]
  exact ⟨he, by unfold chgR; rw [he, hc]⟩
end Go.Proofs.Ytccnkcaagigceaa
