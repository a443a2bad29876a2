/-
  The law RangesSplit: its walk.
-/
import Derived.Test.YtaohdhblnjoihaaRangesF2
import Derived.Test.YtaohdhblnjoihaaRangesQ
namespace Go.Proofs.Ytaohdhblnjoihaa
open Go.RowKit Go.Shelf
attribute [local go_sem] Oper.semAt_some

theorem rd_blkT {α : Type} {w : World} {sz g t : Nat} {cs : α → List Value} {fr : Nat × Nat} {c : Array Value} {xs : List α} (hcs : ∀ x, (cs x).length = sz) (h : w.heap[g]? = some (.cells c t fr)) (hc : c.toList = xs.flatMap cs) : Rd (fun _ => True) w sz cs (some ⟨g, 0, none⟩) xs := (Rd.blk hcs h hc).mono fun _ _ => trivial

/-- What the law asks. -/
def SplitOk (n : Nat) (x : Rg) (t : Int) : Prop := n ≤ 200 ∧ 0 ≤ x.lo ∧ x.lo ≤ x.hi ∧ x.hi - x.lo ≤ 99 ∧ x.lo ≤ t ∧ t < x.hi ∧ x.hi ≤ 1073741824

set_option maxRecDepth 100000 in
set_option maxHeartbeats 2000000 in
theorem split_not (A : Option Addr) (c n : Nat) (x : Rg) (t : Int) (w : World) (hl : n ≤ maxLen) (hx : FitR x) (ht : -2147483648 ≤ t ∧ t ≤ 2147483647) (h : ¬ SplitOk n x t) :
    Calls Try.prog 3 #[.slice A n c, x.val, .int .i32 t] w fun e w' => e = .returned (.bool true) ∧ Mod (fun _ => False) w w' := by
  unfold maxLen at hl
  unfold FitR at hx
  obtain ⟨f1, f2, f3, f4⟩ := hx
  obtain ⟨t1, t2⟩ := ht
  unfold SplitOk at h
  have H := Lib.hid h
  clear h
  unfold Rg.val
  by_cases h0 : n ≤ 200
  rotate_left
  · clear H
    go_enter Try.func3, Try.ntmps3
    go_wp2_with (first
      | (go_at_call 7; refine (known_any _).mono ?_; rintro e w' ⟨rfl, hm⟩)
      | fail)
    go_ret
    exact ⟨rfl, (show Mod (fun _ => False) w _ by (repeat' (first | exact Mod.refl _ _ | assumption | refine Mod.alloc ?_ _ | refine Mod.drew ?_ | refine Mod.drewN ?_ _ | refine Mod.setCell ?_ (by first | exact Or.inl rfl | (right; simp; done) | (right; simp; omega) | (left; simp; done)) _))).trans' hm⟩
  by_cases h1 : 0 ≤ x.lo
  rotate_left
  · clear H
    go_enter Try.func3, Try.ntmps3
    go_wp2_with (first
      | (go_at_call 7; refine (known_any _).mono ?_; rintro e w' ⟨rfl, hm⟩)
      | fail)
    go_ret
    exact ⟨rfl, (show Mod (fun _ => False) w _ by (repeat' (first | exact Mod.refl _ _ | assumption | refine Mod.alloc ?_ _ | refine Mod.drew ?_ | refine Mod.drewN ?_ _ | refine Mod.setCell ?_ (by first | exact Or.inl rfl | (right; simp; done) | (right; simp; omega) | (left; simp; done)) _))).trans' hm⟩
  by_cases h2 : x.lo ≤ x.hi
  rotate_left
  · clear H
    go_enter Try.func3, Try.ntmps3
    go_wp2_with (first
      | (go_at_call 7; refine (known_any _).mono ?_; rintro e w' ⟨rfl, hm⟩)
      | fail)
    go_ret
    exact ⟨rfl, (show Mod (fun _ => False) w _ by (repeat' (first | exact Mod.refl _ _ | assumption | refine Mod.alloc ?_ _ | refine Mod.drew ?_ | refine Mod.drewN ?_ _ | refine Mod.setCell ?_ (by first | exact Or.inl rfl | (right; simp; done) | (right; simp; omega) | (left; simp; done)) _))).trans' hm⟩
  by_cases h3 : x.hi - x.lo ≤ 99
  rotate_left
  · clear H
    go_enter Try.func3, Try.ntmps3
    go_wp2_with (first
      | (go_at_call 7; refine (known_any _).mono ?_; rintro e w' ⟨rfl, hm⟩)
      | fail)
    go_ret
    exact ⟨rfl, (show Mod (fun _ => False) w _ by (repeat' (first | exact Mod.refl _ _ | assumption | refine Mod.alloc ?_ _ | refine Mod.drew ?_ | refine Mod.drewN ?_ _ | refine Mod.setCell ?_ (by first | exact Or.inl rfl | (right; simp; done) | (right; simp; omega) | (left; simp; done)) _))).trans' hm⟩
  by_cases h4 : x.lo ≤ t
  rotate_left
  · clear H
    go_enter Try.func3, Try.ntmps3
    go_wp2_with (first
      | (go_at_call 7; refine (known_any _).mono ?_; rintro e w' ⟨rfl, hm⟩)
      | fail)
    go_ret
    exact ⟨rfl, (show Mod (fun _ => False) w _ by (repeat' (first | exact Mod.refl _ _ | assumption | refine Mod.alloc ?_ _ | refine Mod.drew ?_ | refine Mod.drewN ?_ _ | refine Mod.setCell ?_ (by first | exact Or.inl rfl | (right; simp; done) | (right; simp; omega) | (left; simp; done)) _))).trans' hm⟩
  by_cases h5 : t < x.hi
  rotate_left
  · clear H
    go_enter Try.func3, Try.ntmps3
    go_wp2_with (first
      | (go_at_call 7; refine (known_any _).mono ?_; rintro e w' ⟨rfl, hm⟩)
      | fail)
    go_ret
    exact ⟨rfl, (show Mod (fun _ => False) w _ by (repeat' (first | exact Mod.refl _ _ | assumption | refine Mod.alloc ?_ _ | refine Mod.drew ?_ | refine Mod.drewN ?_ _ | refine Mod.setCell ?_ (by first | exact Or.inl rfl | (right; simp; done) | (right; simp; omega) | (left; simp; done)) _))).trans' hm⟩
  by_cases h6 : x.hi ≤ 1073741824
  rotate_left
  · clear H
    go_enter Try.func3, Try.ntmps3
    go_wp2_with (first
      | (go_at_call 7; refine (known_any _).mono ?_; rintro e w' ⟨rfl, hm⟩)
      | fail)
    go_ret
    exact ⟨rfl, (show Mod (fun _ => False) w _ by (repeat' (first | exact Mod.refl _ _ | assumption | refine Mod.alloc ?_ _ | refine Mod.drew ?_ | refine Mod.drewN ?_ _ | refine Mod.setCell ?_ (by first | exact Or.inl rfl | (right; simp; done) | (right; simp; omega) | (left; simp; done)) _))).trans' hm⟩
  exact absurd ⟨h0, h1, h2, h3, h4, h5, h6⟩ H.out

set_option maxRecDepth 100000 in
set_option maxHeartbeats 2000000 in
theorem split_err (A : Option Addr) (c : Nat) (xs : List Rg) (x : Rg) (t : Int) (w : World) (hA : Rd (fun b => b < w.heap.size) w 3 Rg.cs A xs) (hf : ∀ y ∈ xs, FitR y) (hs : SplitOk xs.length x t) (he : errR xs ≠ 0) :
    Calls Try.prog 3 #[.slice A xs.length c, x.val, .int .i32 t] w fun e w' => e = .returned (.bool true) ∧ Mod (fun _ => False) w w' := by
  obtain ⟨s0, s1, s2, s3, s4, s5, s6⟩ := hs
  have hof := fun X (hX : Mod (fun _ => False) w X) => of_err A c xs X (rd_keep hA hX) (by omega) hf he
  have her : errR xs = 2 ∨ errR xs = 9 := by rcases errR_cases xs with h | h | h <;> omega
  obtain ⟨er, hq⟩ : ∃ er, er = errR xs := ⟨_, rfl⟩
  obtain ⟨n, hn⟩ : ∃ n, n = xs.length := ⟨_, rfl⟩
  rw [← hq] at hof her
  rw [← hn] at hof s0 ⊢
  clear hq hn hA hf he
  have HN0 : ∀ X, NotThere X none := fun _ => .inl rfl
  have hw := fun X => with_not none x X (HN0 X)
  unfold Rg.val at hw ⊢
  have HW := Lib.hid hw
  clear hw HN0
  rcases her with rfl | rfl
  all_goals
    have HOf := Lib.hid hof
    clear hof
    go_enter Try.func3, Try.ntmps3
    go_wp2_with (first
      | (go_at_call 8
         refine (HOf.out _ (by (repeat' (first | exact Mod.refl _ _ | assumption | refine Mod.alloc ?_ _ | refine Mod.drew ?_ | refine Mod.drewN ?_ _ | refine Mod.setCell ?_ (by first | exact Or.inl rfl | (right; simp; done) | (right; simp; omega) | (left; simp; done)) _)))).mono ?_
         rintro e w1 ⟨rfl, hm1⟩
         have hxc : w1.heap[w.heap.size]? = some (.cells #[.int .i32 x.lo, .int .i32 x.hi, .int .i64 x.v] 24 (0, 0)) := hp_mod (by (repeat' (first | exact hp_new _ _ | exact hp_at _ _ (by simp; done) | refine hp_alloc ?_ _ | refine hp_drew ?_ | refine hp_drewN ?_ _ | apply hp_set | refine hp_far ?_ (by first | (simp; omega) | (simp; done)) _))) hm1 id
         have x0 := hp_cell hxc 0
         have x1 := hp_cell hxc 1
         have x2 := hp_cell hxc 2
         clear hxc)
      | (go_at_call 9; refine (HW.out _).mono ?_; rintro e w2 ⟨rfl, hm2⟩)
      | (go_at_call 10; refine (num_any _ _).mono ?_; rintro e w' ⟨rfl, rfl⟩)
      | (go_at_call 7; refine (known_any _).mono ?_; rintro e w' ⟨rfl, hm⟩)
      | fail)
    go_ret
    exact ⟨rfl, (((show Mod (fun _ => False) w _ by (repeat' (first | exact Mod.refl _ _ | assumption | refine Mod.alloc ?_ _ | refine Mod.drew ?_ | refine Mod.drewN ?_ _ | refine Mod.setCell ?_ (by first | exact Or.inl rfl | (right; simp; done) | (right; simp; omega) | (left; simp; done)) _))).trans' hm1).trans' hm2).trans' hm⟩

set_option maxRecDepth 100000 in
set_option maxHeartbeats 2000000 in
theorem split_more (A : Option Addr) (c : Nat) (xs : List Rg) (x : Rg) (t : Int) (w : World) (hA : Rd (fun b => b < w.heap.size) w 3 Rg.cs A xs) (hf : ∀ y ∈ xs, FitR y) (hx : FitR x) (hs : SplitOk xs.length x t) (he : errR xs = 0) (h1 : errR (mapR xs ++ [x]) ≠ 0) :
    Calls Try.prog 3 #[.slice A xs.length c, x.val, .int .i32 t] w fun e w' => e = .returned (.bool true) ∧ Mod (fun _ => False) w w' := by
  obtain ⟨s0, s1, s2, s3, s4, s5, s6⟩ := hs
  have hof := fun X (hX : Mod (fun _ => False) w X) => of_ok A c xs X (rd_keep hA hX) (by omega) hf he
  have hfx : ∀ y ∈ mapR xs ++ [x], FitR y := fun y hy => by
    rcases List.mem_append.1 hy with h | h
    · exact fit_mapR hf y h
    · obtain rfl := List.mem_singleton.1 h; exact hx
  have hw := fun b X hM => with_err b (mapR xs) x X hM (by have := len_mapR xs; omega) hfx h1
  have her : errR (mapR xs ++ [x]) = 2 ∨ errR (mapR xs ++ [x]) = 9 := by rcases errR_cases (mapR xs ++ [x]) with h | h | h <;> omega
  obtain ⟨er, hq⟩ : ∃ er, er = errR (mapR xs ++ [x]) := ⟨_, rfl⟩
  obtain ⟨n, hn⟩ : ∃ n, n = xs.length := ⟨_, rfl⟩
  obtain ⟨ms, hms⟩ : ∃ ms, ms = mapR xs := ⟨_, rfl⟩
  rw [← hq] at hw her
  rw [← hms] at hof hw
  rw [← hn] at hof s0 ⊢
  unfold Rg.val at hw ⊢
  clear hq hn hA hf he h1 hfx hx hms
  rcases her with rfl | rfl
  all_goals
    have HOf := Lib.hid hof
    have HW := Lib.hid hw
    clear hof hw
    go_enter Try.func3, Try.ntmps3
    go_wp2_with (first
      | (go_at_call 8
         refine (HOf.out _ (by (repeat' (first | exact Mod.refl _ _ | assumption | refine Mod.alloc ?_ _ | refine Mod.drew ?_ | refine Mod.drewN ?_ _ | refine Mod.setCell ?_ (by first | exact Or.inl rfl | (right; simp; done) | (right; simp; omega) | (left; simp; done)) _)))).mono ?_
         rintro e w1 ⟨b1, rfl, hM1, hm1⟩
         have hxc : w1.heap[w.heap.size]? = some (.cells #[.int .i32 x.lo, .int .i32 x.hi, .int .i64 x.v] 24 (0, 0)) := hp_mod (by (repeat' (first | exact hp_new _ _ | exact hp_at _ _ (by simp; done) | refine hp_alloc ?_ _ | refine hp_drew ?_ | refine hp_drewN ?_ _ | apply hp_set | refine hp_far ?_ (by first | (simp; omega) | (simp; done)) _))) hm1 id
         have x0 := hp_cell hxc 0
         have x1 := hp_cell hxc 1
         have x2 := hp_cell hxc 2
         clear hxc)
      | (go_at_call 9; refine (HW.out b1 _ hM1).mono ?_; rintro e w2 ⟨rfl, hm2⟩)
      | (go_at_call 10; refine (num_any _ _).mono ?_; rintro e w' ⟨rfl, rfl⟩)
      | (go_at_call 7; refine (known_any _).mono ?_; rintro e w' ⟨rfl, hm⟩)
      | fail)
    go_ret
    exact ⟨rfl, (((show Mod (fun _ => False) w _ by (repeat' (first | exact Mod.refl _ _ | assumption | refine Mod.alloc ?_ _ | refine Mod.drew ?_ | refine Mod.drewN ?_ _ | refine Mod.setCell ?_ (by first | exact Or.inl rfl | (right; simp; done) | (right; simp; omega) | (left; simp; done)) _))).trans' hm1).trans' hm2).trans' hm⟩
end Go.Proofs.Ytaohdhblnjoihaa
