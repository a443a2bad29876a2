/-
  Texts of this claim, one behind the other: EntryE.
-/
import Derived.Test.YtmalclclopnlnaaGreatPk10
/-
  Entries that may be; two lists the same; has; how much is gone through.
-/
namespace Go.Proofs.YtmalclclopnlnaaGreat
open Go.RowKit Go.Shelf
attribute [local go_sem] Oper.semAt_some

def mayE (nm : Bs) (xs : List At) : Bool := mayNm nm && mayAs xs
theorem eentry_any (nm : Bs) (A : Option Addr) (c : Nat) (xs : List At) (w : World) (hnm : nm.length ≤ 9223372036854775807) (hA : Rd (fun b => b < w.heap.size) w 2 At.cs A xs) (hl : xs.length ≤ 1099511627776) (hf : ∀ a ∈ xs, FitA a) :
    Calls Tryz.prog 66 #[.agg #[.string ⟨nm.toArray⟩, .slice A xs.length c]] w fun e w' => e = .returned (.bool (mayE nm xs)) ∧ Mod (fun _ => False) w w' := by
  unfold mayE
  have HN := Lib.hid (fun X => ename_any nm X hnm)
  have HA := Lib.hid (fun X (hX : Mod (fun _ => False) w X) => emays_any A c xs X ((hA.mod hX (fun b hb => ⟨hb, id⟩)).mono fun b hb => Nat.lt_of_lt_of_le hb hX.size) hl hf)
  obtain ⟨z1, hz1⟩ : ∃ z, z = mayNm nm := ⟨_, rfl⟩
  obtain ⟨z2, hz2⟩ : ∃ z, z = mayAs xs := ⟨_, rfl⟩
  obtain ⟨n, hn⟩ : ∃ n, n = xs.length := ⟨_, rfl⟩
  rw [← hn] at HA ⊢
  rw [← hz1] at HN ⊢
  rw [← hz2] at HA ⊢
  clear hz1 hz2 hA hf hl hn hnm
  cases z1
  all_goals
    go_enter Tryz.func66, Tryz.ntmps66
    go_wp2_with (first
      | (go_at_call 90
         refine (HN.out _).mono ?_
         rintro e w' ⟨rfl, hm⟩
         have hx1 := (hm.cell (p := ⟨w.heap.size, 1, none⟩) (by simp) id).trans (hp_cell (hp_new _ _) 1)
         simp only [List.getElem?_toArray, List.getElem?_cons_succ, List.getElem?_cons_zero] at hx1
         have HM := Lib.hid (((Mod.refl (fun _ => False) w).alloc _).trans' hm)
         clear hm)
      | (go_at_call 91; refine (HA.out _ HM.out).mono ?_; rintro e w' ⟨rfl, hm⟩)
      | fail)
    go_ret
    first
    | exact ⟨rfl, HM.out.trans' hm⟩
    | exact ⟨rfl, HM.out⟩
theorem rentry_any (nm : Bs) (A : Option Addr) (c : Nat) (xs : List At) (w : World) (hnm : nm.length ≤ 9223372036854775807) (hA : Rd (fun b => b < w.heap.size) w 2 At.cs A xs) (hl : xs.length ≤ 1099511627776) (hf : ∀ a ∈ xs, FitA a) :
    Calls Tryz.prog 39 #[.agg #[.string ⟨nm.toArray⟩, .slice A xs.length c]] w fun e w' => e = .returned (.bool (mayE nm xs)) ∧ Mod (fun _ => False) w w' := by
  unfold mayE
  have HN := Lib.hid (fun X => rname_any nm X hnm)
  have HA := Lib.hid (fun X (hX : Mod (fun _ => False) w X) => rmays_any A c xs X ((hA.mod hX (fun b hb => ⟨hb, id⟩)).mono fun b hb => Nat.lt_of_lt_of_le hb hX.size) hl hf)
  obtain ⟨z1, hz1⟩ : ∃ z, z = mayNm nm := ⟨_, rfl⟩
  obtain ⟨z2, hz2⟩ : ∃ z, z = mayAs xs := ⟨_, rfl⟩
  obtain ⟨n, hn⟩ : ∃ n, n = xs.length := ⟨_, rfl⟩
  rw [← hn] at HA ⊢
  rw [← hz1] at HN ⊢
  rw [← hz2] at HA ⊢
  clear hz1 hz2 hA hf hl hn hnm
  cases z1
  all_goals
    go_enter Tryz.func39, Tryz.ntmps39
    go_wp2_with (first
      | (go_at_call 60
         refine (HN.out _).mono ?_
         rintro e w' ⟨rfl, hm⟩
         have hx1 := (hm.cell (p := ⟨w.heap.size, 1, none⟩) (by simp) id).trans (hp_cell (hp_new _ _) 1)
         simp only [List.getElem?_toArray, List.getElem?_cons_succ, List.getElem?_cons_zero] at hx1
         have HM := Lib.hid (((Mod.refl (fun _ => False) w).alloc _).trans' hm)
         clear hm)
      | (go_at_call 61; refine (HA.out _ HM.out).mono ?_; rintro e w' ⟨rfl, hm⟩)
      | fail)
    go_ret
    first
    | exact ⟨rfl, HM.out.trans' hm⟩
    | exact ⟨rfl, HM.out⟩
theorem sameAttrs_any (D1 D2 : Nat → Prop) (A1 A2 : Option Addr) (c1 c2 : Nat) (xs ys : List At) (w : World) (h1 : Rd D1 w 2 At.cs A1 xs) (h2 : Rd D2 w 2 At.cs A2 ys) (hl1 : xs.length ≤ maxLen) (hl2 : ys.length ≤ maxLen)
    (hd1 : ∀ b, D1 b → b < w.heap.size) (hd2 : ∀ b, D2 b → b < w.heap.size) :
    Calls Tryz.prog 59 #[.slice A1 xs.length c1, .slice A2 ys.length c2] w fun e w' => e = .returned (.bool (decide (xs = ys))) ∧ Mod (fun _ => False) w w' := by
  unfold maxLen at hl1 hl2
  by_cases hne : xs.length = ys.length
  · obtain ⟨z, hz⟩ : ∃ z, z = decide (xs = ys) := ⟨_, rfl⟩
    rw [← hz]
    have HZ := Lib.hid hz
    obtain ⟨n, hn⟩ : ∃ n, n = xs.length := ⟨_, rfl⟩
    have hn2 : n = ys.length := by omega
    rw [← hn, ← hn2]
    rw [← hn] at hl1
    have HN := Lib.hid hn
    have HN2 := Lib.hid hn2
    have H1 := Lib.hid (fun X (hX : Mod (fun _ => False) w X) => h1.mod hX (fun b hb => ⟨hd1 b hb, id⟩))
    have H2 := Lib.hid (fun X (hX : Mod (fun _ => False) w X) => h2.mod hX (fun b hb => ⟨hd2 b hb, id⟩))
    have hsf : (!(n : Int) == (n : Int)) = false := by simp
    have heq := (show Tryz.prog.eqGuardType Tryz.prog.depth 144 = false by kernel_rfl)
    clear hz hn hn2 hne hl2 h1 h2
    go_enter Tryz.func59, Tryz.ntmps59
    go_wp2
    go_loopw [5] (fun i wr => ∃ k : Nat, k ≤ n ∧ i = .int .i64 k ∧ xs.take k = ys.take k ∧ Mod (fun _ => False) w wr) (fun i _ => n - (intOf i).toNat)
    case atStart => exact ⟨0, by omega, rfl, rfl, Mod.refl _ _⟩
    case round =>
      obtain ⟨k, hk, rfl, ht, hm⟩ := hrel
      have HT := Lib.hid ht
      have HM := Lib.hid hm
      clear ht hm
      by_cases hlt : k < n
      · have hkx : k < xs.length := by rw [← HN.out]; exact hlt
        have hky : k < ys.length := by rw [← HN2.out]; exact hlt
        obtain ⟨b1, o1, rfl, -, p0, p1⟩ := rd2 (H1.out _ HM.out) hkx
        obtain ⟨b2, o2, rfl, -, q0, q1⟩ := rd2 (H2.out _ HM.out) hky
        obtain ⟨x, hx⟩ : ∃ x, x = xs[k] := ⟨_, rfl⟩
        obtain ⟨y, hy⟩ : ∃ y, y = ys[k] := ⟨_, rfl⟩
        rw [← hx] at p0 p1
        rw [← hy] at q0 q1
        have hneq := fun X => neq_at x y X
        unfold At.val at hneq
        have HX := Lib.hid (show xs.take (k + 1) = xs.take k ++ [x] by rw [hx]; exact List.take_succ_eq_append_getElem hkx)
        have HY := Lib.hid (show ys.take (k + 1) = ys.take k ++ [y] by rw [hy]; exact List.take_succ_eq_append_getElem hky)
        have HXY := Lib.hid (show x ≠ y → xs ≠ ys from fun h e => h (by subst e; rw [hx, hy]))
        clear hx hy
        by_cases hxy : x = y
        · have hT := Lib.hid (show xs.take (k + 1) = ys.take (k + 1) by rw [HX.out, HY.out, HT.out, hxy])
          rw [decide_eq_true hxy] at hneq
          clear hxy
          go_wp2
          go_quiet (fail)
          go_wp2
          exact ⟨⟨k + 1, by omega, by go_num, hT.out, by have := HM.out; (repeat' (first | exact Mod.refl _ _ | assumption | refine Mod.alloc ?_ _ | refine Mod.drew ?_ | refine Mod.drewN ?_ _ | refine Mod.setCell ?_ (by first | exact Or.inl rfl | (right; simp; done) | (right; simp; omega) | (left; simp; done)) _))⟩, by simp only [intOf]; omega⟩
        · obtain rfl : z = false := by rw [HZ.out, decide_eq_false_iff_not]; exact HXY.out hxy
          rw [decide_eq_false hxy] at hneq
          clear hxy
          go_wp2
          go_quiet (fail)
          go_wp2
          go_ret
          exact ⟨rfl, by have := HM.out; (repeat' (first | exact Mod.refl _ _ | assumption | refine Mod.alloc ?_ _ | refine Mod.drew ?_ | refine Mod.drewN ?_ _ | refine Mod.setCell ?_ (by first | exact Or.inl rfl | (right; simp; done) | (right; simp; omega) | (left; simp; done)) _))⟩
      · obtain rfl : k = n := by omega
        obtain rfl : z = true := by
          rw [HZ.out, decide_eq_true_eq]
          have := HT.out
          rwa [List.take_of_length_le (by rw [← HN.out]; omega), List.take_of_length_le (by rw [← HN2.out]; omega)] at this
        go_wp2
        go_ret
        exact ⟨rfl, HM.out⟩
  · have hz : decide (xs = ys) = false := by rw [decide_eq_false_iff_not]; intro e; exact hne (by rw [e])
    rw [hz]
    have hne' : ((xs.length : Int) != (ys.length : Int)) = true := by simp; omega
    have hne2 : ((xs.length : Int) == (ys.length : Int)) = false := by simp; omega
    clear hz hne h1 h2
    go_enter Tryz.func59, Tryz.ntmps59
    go_wp2
    go_ret
    exact ⟨rfl, Mod.refl _ _⟩
def sameE (a b : Bs) (xs ys : List At) : Bool := decide (a = b) && decide (xs = ys)
theorem rsame_any (a b : Bs) (A1 A2 : Option Addr) (c1 c2 : Nat) (xs ys : List At) (w : World) (h1 : Rd (fun b => b < w.heap.size) w 2 At.cs A1 xs) (h2 : Rd (fun b => b < w.heap.size) w 2 At.cs A2 ys) (hl1 : xs.length ≤ maxLen) (hl2 : ys.length ≤ maxLen) :
    Calls Tryz.prog 37 #[.agg #[.string ⟨a.toArray⟩, .slice A1 xs.length c1], .agg #[.string ⟨b.toArray⟩, .slice A2 ys.length c2]] w fun e w' => e = .returned (.bool (sameE a b xs ys)) ∧ Mod (fun _ => False) w w' := by
  have H := Lib.hid (fun X (hX : Mod (fun _ => False) w X) => sameAttrs_any _ _ A1 A2 c1 c2 xs ys X (h1.mod hX (fun b hb => ⟨hb, id⟩)) (h2.mod hX (fun b hb => ⟨hb, id⟩)) hl1 hl2 (fun b hb => Nat.lt_of_lt_of_le hb hX.size) (fun b hb => Nat.lt_of_lt_of_le hb hX.size))
  unfold sameE
  obtain ⟨n, hn⟩ : ∃ n, n = xs.length := ⟨_, rfl⟩
  obtain ⟨m, hm⟩ : ∃ m, m = ys.length := ⟨_, rfl⟩
  obtain ⟨z, hz⟩ : ∃ z, z = decide (xs = ys) := ⟨_, rfl⟩
  obtain ⟨d, hd⟩ : ∃ d, d = decide (a = b) := ⟨_, rfl⟩
  have he : (a == b) = d := by rw [hd, Bool.eq_iff_iff]; simp
  rw [← hn, ← hm, ← hz] at H
  rw [← hn, ← hm, ← hz, ← hd]
  clear hn hm hz hd h1 h2 hl1 hl2
  cases d
  all_goals
    go_enter Tryz.func37, Tryz.ntmps37
    go_wp2_with (first
      | (go_at_call 59; refine (H.out _ (by (repeat' (first | exact Mod.refl _ _ | assumption | refine Mod.alloc ?_ _ | refine Mod.drew ?_ | refine Mod.drewN ?_ _ | refine Mod.setCell ?_ (by first | exact Or.inl rfl | (right; simp; done) | (right; simp; omega) | (left; simp; done)) _)))).mono ?_; rintro e w' ⟨rfl, hm⟩)
      | fail)
    go_ret
    first
    | exact ⟨rfl, (((Mod.refl _ w).alloc _).alloc _).trans' hm⟩
    | exact ⟨rfl, by (repeat' (first | exact Mod.refl _ _ | assumption | refine Mod.alloc ?_ _ | refine Mod.drew ?_ | refine Mod.drewN ?_ _ | refine Mod.setCell ?_ (by first | exact Or.inl rfl | (right; simp; done) | (right; simp; omega) | (left; simp; done)) _))⟩
end Go.Proofs.YtmalclclopnlnaaGreat
