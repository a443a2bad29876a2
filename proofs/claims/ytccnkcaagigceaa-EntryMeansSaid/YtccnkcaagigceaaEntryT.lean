/-
  slices.Equal at attributes; two entries the same; a copy.
-/
import Derived.Test.YtccnkcaagigceaaEntryR
namespace Go.Proofs.Ytccnkcaagigceaa
open Go.RowKit Go.Shelf
attribute [local go_sem] Oper.semAt_some

theorem aequal_any (D1 D2 : Nat → Prop) (A1 A2 : Option Addr) (c1 c2 : Nat) (xs ys : List At) (w : World) (h1 : Rd D1 w 2 At.cs A1 xs) (h2 : Rd D2 w 2 At.cs A2 ys) (hl1 : xs.length ≤ maxLen) (hl2 : ys.length ≤ maxLen)
    (hd1 : ∀ b, D1 b → b < w.heap.size) (hd2 : ∀ b, D2 b → b < w.heap.size) :
    Calls Try.prog 48 #[.slice A1 xs.length c1, .slice A2 ys.length c2] w fun e w' => e = .returned (.bool (decide (xs = ys))) ∧ Mod (fun _ => False) w w' := by
  unfold maxLen at hl1 hl2
  by_cases hne : xs.length = ys.length
  · obtain ⟨z, hz⟩ : ∃ z, z = decide (xs = ys) := ⟨_, rfl⟩
    rw [← hz]
    have HZ := Lib.hid hz
    obtain ⟨n, hn⟩ : ∃ n, n = xs.length := ⟨_, rfl⟩
    have hn2 : n = ys.length := by omega
    rw [← hn, ← hn2]
    rw [← hn] at hl1
    have HN := Lib.hid hn
    have HN2 := Lib.hid hn2
    have H1 := Lib.hid (fun X (hX : Mod (fun _ => False) w X) => h1.mod hX (fun b hb => ⟨hd1 b hb, id⟩))
    have H2 := Lib.hid (fun X (hX : Mod (fun _ => False) w X) => h2.mod hX (fun b hb => ⟨hd2 b hb, id⟩))
    have hsf : (!(n : Int) == (n : Int)) = false := by simp
    have heq := (show Try.prog.eqGuardType Try.prog.depth 25 = false by kernel_rfl)
    clear hz hn hn2 hne hl2 h1 h2
    go_enter Try.func48, Try.ntmps48
    go_wp2
    go_loopw [13] (fun i wr => ∃ k : Nat, k ≤ n ∧ i = .int .i64 k ∧ xs.take k = ys.take k ∧ Mod (fun _ => False) w wr) (fun i _ => n - (intOf i).toNat)
    case atStart => exact ⟨0, by omega, rfl, rfl, Mod.refl _ _⟩
    case round =>
      obtain ⟨k, hk, rfl, ht, hm⟩ := hrel
      have HT := Lib.hid ht
      have HM := Lib.hid hm
      clear ht hm
      by_cases hlt : k < n
      · have hkx : k < xs.length := by rw [← HN.out]; exact hlt
        have hky : k < ys.length := by rw [← HN2.out]; exact hlt
        obtain ⟨b1, o1, rfl, -, p0, p1⟩ := rd2 (H1.out _ HM.out) hkx
        obtain ⟨b2, o2, rfl, -, q0, q1⟩ := rd2 (H2.out _ HM.out) hky
        obtain ⟨x, hx⟩ : ∃ x, x = xs[k] := ⟨_, rfl⟩
        obtain ⟨y, hy⟩ : ∃ y, y = ys[k] := ⟨_, rfl⟩
        rw [← hx] at p0 p1
        rw [← hy] at q0 q1
        have hneq := fun X => neq_at x y X
        unfold At.val at hneq
        have HX := Lib.hid (show xs.take (k + 1) = xs.take k ++ [x] by rw [hx]; exact List.take_succ_eq_append_getElem hkx)
        have HY := Lib.hid (show ys.take (k + 1) = ys.take k ++ [y] by rw [hy]; exact List.take_succ_eq_append_getElem hky)
        have HXY := Lib.hid (show x ≠ y → xs ≠ ys from fun h e => h (by subst e; rw [hx, hy]))
        clear hx hy
        by_cases hxy : x = y
        · have hT := Lib.hid (show xs.take (k + 1) = ys.take (k + 1) by rw [HX.out, HY.out, HT.out, hxy])
          rw [decide_eq_true hxy] at hneq
          clear hxy
          go_wp2
          go_quiet (fail)
          go_wp2
          exact ⟨⟨k + 1, by omega, by go_num, hT.out, by have := HM.out; (repeat' (first | exact Mod.refl _ _ | assumption | refine Mod.alloc ?_ _ | refine Mod.drew ?_ | refine Mod.drewN ?_ _ | refine Mod.setCell ?_ (by first | exact Or.inl rfl | (right; simp; done) | (right; simp; omega) | (left; simp; done)) _))⟩, by simp only [intOf]; omega⟩
        · obtain rfl : z = false := by rw [HZ.out, decide_eq_false_iff_not]; exact HXY.out hxy
          rw [decide_eq_false hxy] at hneq
          clear hxy
          go_wp2
          go_quiet (fail)
          go_wp2
          go_ret
          exact ⟨rfl, by have := HM.out; (repeat' (first | exact Mod.refl _ _ | assumption | refine Mod.alloc ?_ _ | refine Mod.drew ?_ | refine Mod.drewN ?_ _ | refine Mod.setCell ?_ (by first | exact Or.inl rfl | (right; simp; done) | (right; simp; omega) | (left; simp; done)) _))⟩
      · obtain rfl : k = n := by omega
        obtain rfl : z = true := by
          rw [HZ.out, decide_eq_true_eq]
          have := HT.out
          rwa [List.take_of_length_le (by rw [← HN.out]; omega), List.take_of_length_le (by rw [← HN2.out]; omega)] at this
        go_wp2
        go_ret
        exact ⟨rfl, HM.out⟩
  · have hz : decide (xs = ys) = false := by rw [decide_eq_false_iff_not]; intro e; exact hne (by rw [e])
    rw [hz]
    have hne' : ((xs.length : Int) != (ys.length : Int)) = true := by simp; omega
    have hne2 : ((xs.length : Int) == (ys.length : Int)) = false := by simp; omega
    clear hz hne h1 h2
    go_enter Try.func48, Try.ntmps48
    go_wp2
    go_ret
    exact ⟨rfl, Mod.refl _ _⟩

def sameE (a b : Bs) (xs ys : List At) : Bool := decide (a = b) && decide (xs = ys)
theorem esame_any (a b : Bs) (A1 A2 : Option Addr) (c1 c2 : Nat) (xs ys : List At) (w : World) (h1 : Rd (fun b => b < w.heap.size) w 2 At.cs A1 xs) (h2 : Rd (fun b => b < w.heap.size) w 2 At.cs A2 ys) (hl1 : xs.length ≤ maxLen) (hl2 : ys.length ≤ maxLen) :
    Calls Try.prog 29 #[.agg #[.string ⟨a.toArray⟩, .slice A1 xs.length c1], .agg #[.string ⟨b.toArray⟩, .slice A2 ys.length c2]] w fun e w' => e = .returned (.bool (sameE a b xs ys)) ∧ Mod (fun _ => False) w w' := by
  have H := Lib.hid (fun X (hX : Mod (fun _ => False) w X) => aequal_any _ _ A1 A2 c1 c2 xs ys X (h1.mod hX (fun b hb => ⟨hb, id⟩)) (h2.mod hX (fun b hb => ⟨hb, id⟩)) hl1 hl2 (fun b hb => Nat.lt_of_lt_of_le hb hX.size) (fun b hb => Nat.lt_of_lt_of_le hb hX.size))
  unfold sameE
  obtain ⟨n, hn⟩ : ∃ n, n = xs.length := ⟨_, rfl⟩
  obtain ⟨m, hm⟩ : ∃ m, m = ys.length := ⟨_, rfl⟩
  obtain ⟨z, hz⟩ : ∃ z, z = decide (xs = ys) := ⟨_, rfl⟩
  obtain ⟨d, hd⟩ : ∃ d, d = decide (a = b) := ⟨_, rfl⟩
  have he : (a == b) = d := by rw [hd, Bool.eq_iff_iff]; simp
  rw [← hn, ← hm, ← hz] at H
  rw [← hn, ← hm, ← hz, ← hd]
  clear hn hm hz hd h1 h2 hl1 hl2
  cases d
  all_goals
    go_enter Try.func29, Try.ntmps29
    go_wp2_with (first
      | (go_at_call 48; refine (H.out _ (by (repeat' (first | exact Mod.refl _ _ | assumption | refine Mod.alloc ?_ _ | refine Mod.drew ?_ | refine Mod.drewN ?_ _ | refine Mod.setCell ?_ (by first | exact Or.inl rfl | (right; simp; done) | (right; simp; omega) | (left; simp; done)) _)))).mono ?_; rintro e w' ⟨rfl, hm⟩)
      | fail)
    go_ret
    first
    | exact ⟨rfl, (((Mod.refl _ w).alloc _).alloc _).trans' hm⟩
    | exact ⟨rfl, by (repeat' (first | exact Mod.refl _ _ | assumption | refine Mod.alloc ?_ _ | refine Mod.drew ?_ | refine Mod.drewN ?_ _ | refine Mod.setCell ?_ (by first | exact Or.inl rfl | (right; simp; done) | (right; simp; omega) | (left; simp; done)) _))⟩
theorem rsame_any (a b : Bs) (A1 A2 : Option Addr) (c1 c2 : Nat) (xs ys : List At) (w : World) (h1 : Rd (fun b => b < w.heap.size) w 2 At.cs A1 xs) (h2 : Rd (fun b => b < w.heap.size) w 2 At.cs A2 ys) (hl1 : xs.length ≤ maxLen) (hl2 : ys.length ≤ maxLen) :
    Calls Try.prog 30 #[.agg #[.string ⟨a.toArray⟩, .slice A1 xs.length c1], .agg #[.string ⟨b.toArray⟩, .slice A2 ys.length c2]] w fun e w' => e = .returned (.bool (sameE a b xs ys)) ∧ Mod (fun _ => False) w w' := by
  have H := Lib.hid (fun X (hX : Mod (fun _ => False) w X) => sameAttrs_any _ _ A1 A2 c1 c2 xs ys X (h1.mod hX (fun b hb => ⟨hb, id⟩)) (h2.mod hX (fun b hb => ⟨hb, id⟩)) hl1 hl2 (fun b hb => Nat.lt_of_lt_of_le hb hX.size) (fun b hb => Nat.lt_of_lt_of_le hb hX.size))
  unfold sameE
  obtain ⟨n, hn⟩ : ∃ n, n = xs.length := ⟨_, rfl⟩
  obtain ⟨m, hm⟩ : ∃ m, m = ys.length := ⟨_, rfl⟩
  obtain ⟨z, hz⟩ : ∃ z, z = decide (xs = ys) := ⟨_, rfl⟩
  obtain ⟨d, hd⟩ : ∃ d, d = decide (a = b) := ⟨_, rfl⟩
  have he : (a == b) = d := by rw [hd, Bool.eq_iff_iff]; simp
  rw [← hn, ← hm, ← hz] at H
  rw [← hn, ← hm, ← hz, ← hd]
  clear hn hm hz hd h1 h2 hl1 hl2
  cases d
  all_goals
    go_enter Try.func30, Try.ntmps30
    go_wp2_with (first
      | (go_at_call 20; refine (H.out _ (by (repeat' (first | exact Mod.refl _ _ | assumption | refine Mod.alloc ?_ _ | refine Mod.drew ?_ | refine Mod.drewN ?_ _ | refine Mod.setCell ?_ (by first | exact Or.inl rfl | (right; simp; done) | (right; simp; omega) | (left; simp; done)) _)))).mono ?_; rintro e w' ⟨rfl, hm⟩)
      | fail)
    go_ret
    first
    | exact ⟨rfl, (((Mod.refl _ w).alloc _).alloc _).trans' hm⟩
    | exact ⟨rfl, by (repeat' (first | exact Mod.refl _ _ | assumption | refine Mod.alloc ?_ _ | refine Mod.drew ?_ | refine Mod.drewN ?_ _ | refine Mod.setCell ?_ (by first | exact Or.inl rfl | (right; simp; done) | (right; simp; omega) | (left; simp; done)) _))⟩
set_option maxHeartbeats 1000000 in
theorem ecopy_any (nm : Bs) (A : Option Addr) (c : Nat) (xs : List At) (w : World) (hA : Rd (fun b => b < w.heap.size) w 2 At.cs A xs) (hl : xs.length ≤ 1099511627776) :
    Calls Try.prog 28 #[.agg #[.string ⟨nm.toArray⟩, .slice A xs.length c]] w fun e w' => ∃ A' c', e = .returned (.agg #[.string ⟨nm.toArray⟩, .slice A' xs.length c']) ∧ OwnS w.heap.size 25 2 At.cs w' (.slice A' xs.length c') xs ∧ Mod (fun _ => False) w w' := by
  have H := Lib.hid (fun X (hX : Mod (fun _ => False) w X) => aclone_any _ A c xs X (hA.mod hX (fun b hb => ⟨hb, id⟩)) hl)
  obtain ⟨n, hn⟩ : ∃ n, n = xs.length := ⟨_, rfl⟩
  rw [← hn] at H ⊢
  clear hn hA hl
  go_enter Try.func28, Try.ntmps28
  go_wp2
  refine wp_asE (fun W => W.heap[w.heap.size]? = some (.cells #[.string ⟨nm.toArray⟩, .slice A n c] 35 (0, 0)) ∧ W.heap[w.heap.size + 1]? = some (.cells #[.string ⟨#[]⟩, .slice none 0 0] 35 (0, 0)) ∧ Mod (fun _ => False) w W) ⟨by (repeat' (first | exact hp_new _ _ | exact hp_at _ _ (by simp; done) | refine hp_alloc ?_ _ | refine hp_drew ?_ | refine hp_drewN ?_ _ | apply hp_set | refine hp_far ?_ (by first | (simp; omega) | (simp; done)) _)), by (repeat' (first | exact hp_new _ _ | exact hp_at _ _ (by simp; done) | refine hp_alloc ?_ _ | refine hp_drew ?_ | refine hp_drewN ?_ _ | apply hp_set | refine hp_far ?_ (by first | (simp; omega) | (simp; done)) _)), by (repeat' (first | exact Mod.refl _ _ | assumption | refine Mod.alloc ?_ _ | refine Mod.drew ?_ | refine Mod.drewN ?_ _ | refine Mod.setCell ?_ (by first | exact Or.inl rfl | (right; simp; done) | (right; simp; omega) | (left; simp; done)) _))⟩ ?_
  rintro W ⟨hx0, hx1, hm0⟩
  have a0 := hp_cell hx0 0
  have a1 := hp_cell hx0 1
  have r0 := hp_cell hx1 0
  have r1 := hp_cell hx1 1
  have f0 := hp_free hx1 0
  have f1 := hp_free hx1 1
  have l0 := hp_lt hx0
  have l1 := hp_lt hx1
  have HM0 := Lib.hid hm0
  have HX1 := Lib.hid hx1
  clear hx0 hx1 hm0
  go_region_with (first
    | (go_at_call 36
       refine (H.out _ (by have := HM0.out; (repeat' (first | exact Mod.refl _ _ | assumption | refine Mod.alloc ?_ _ | refine Mod.drew ?_ | refine Mod.drewN ?_ _ | refine Mod.setCell ?_ (by first | exact Or.inl rfl | (right; simp; done) | (right; simp; omega) | (left; simp; done)) _)))).mono ?_
       rintro e w2 ⟨A2, c2, rfl, hown, hm2⟩
       have b0 := (hm2.cell (p := ⟨w.heap.size, 0, none⟩) l0 id).trans a0
       have q0 := (hm2.cell (p := ⟨w.heap.size + 1, 0, none⟩) l1 id).trans r0
       have q1 := (hm2.cell (p := ⟨w.heap.size + 1, 1, none⟩) l1 id).trans r1
       have g0 := (hm2.frozen (p := ⟨w.heap.size + 1, 0, none⟩) l1 id).trans f0
       have g1 := (hm2.frozen (p := ⟨w.heap.size + 1, 1, none⟩) l1 id).trans f1)
    | fail)
  all_goals
    go_wp2
    have h6 := HM0.out.trans' hm2.undrew
    refine bodyPost_ret (v := .agg #[.string ⟨nm.toArray⟩, .slice A2 n c2]) (by simp [results, Try.results28, go_sem, q0, q1]) rfl ⟨A2, c2, rfl, ?_, ?_⟩
    · exact (hown.mod (C := fun b => b = w.heap.size + 1) (by (repeat' (first | exact Mod.refl _ _ | assumption | refine Mod.alloc ?_ _ | refine Mod.drew ?_ | refine Mod.drewN ?_ _ | refine Mod.setCell ?_ (by first | exact Or.inl rfl | (right; simp; done) | (right; simp; omega) | (left; simp; done)) _))) (fun b hb => by have h5 := (hown.fresh b hb).1; simp at h5; omega)).less (by simp; omega)
    · (repeat' (first | exact Mod.refl _ _ | assumption | refine Mod.alloc ?_ _ | refine Mod.drew ?_ | refine Mod.drewN ?_ _ | refine Mod.setCell ?_ (by first | exact Or.inl rfl | (right; simp; done) | (right; simp; omega) | (left; simp; done)) _))
end Go.Proofs.Ytccnkcaagigceaa
