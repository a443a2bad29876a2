/-
  The law RangesMean: its walk, where nothing is made.
-/
import Derived.Test.YtaohdhblnjoihaaRangesH
import Derived.IntWalk
namespace Go.Proofs.Ytaohdhblnjoihaa
open Go.RowKit Go.Shelf
attribute [local go_sem] Oper.semAt_some

theorem of_both (A : Option Addr) (c : Nat) (xs : List Rg) (w : World) (hA : Rd (fun b => b < w.heap.size) w 3 Rg.cs A xs) (hl : xs.length ≤ 1000000) (hf : ∀ x ∈ xs, FitR x) :
    Calls Try.prog 8 #[.slice A xs.length c] w fun e w' => ∃ p n, e = .returned (.tuple #[.pointer p, .int .i64 n]) ∧ (n = 0 ↔ errR xs = 0) ∧ Mod (fun _ => False) w w' := by
  refine (of_any A c xs w hA hl hf).mono ?_
  rintro e w' ⟨hm, ⟨h0, he⟩ | ⟨h0, b, -, he, -⟩⟩
  · exact ⟨none, _, he, Iff.rfl, hm⟩
  · exact ⟨_, 0, he, by simp [h0], hm⟩

set_option maxRecDepth 100000 in
set_option maxHeartbeats 4000000 in
theorem mean_many (A : Option Addr) (c : Nat) (xs : List Rg) (r : Int) (w : World) (hA : Rd (fun b => b < w.heap.size) w 3 Rg.cs A xs) (hl : xs.length ≤ c) (hc : c ≤ maxLen) (hf : ∀ y ∈ xs, FitR y) (h : 200 < xs.length) :
    Calls Try.prog 4 #[.slice A xs.length c, .int .i32 r] w fun e w' => e = .returned (.bool true) ∧ Mod (fun _ => False) w w' := by
  unfold maxLen at hc
  have h2 : (xs.take 200).length = 200 := by simp; omega
  have hof := fun X (hX : Mod (fun _ => False) w X) => of_both A c (xs.take 200) X (rd_keep (rd_take hA 200) hX) (by omega) (fun y hy => hf y (List.mem_of_mem_take hy))
  rw [h2] at hof
  obtain ⟨n, hn⟩ : ∃ n, n = xs.length := ⟨_, rfl⟩
  rw [← hn] at hl h ⊢
  have HOf := Lib.hid hof
  clear hn hof h2 hA hf
  have hmn : min (n : Int) 200 = 200 := by omega
  refine callsIn_wide.1 (callsIn_of_wp_marks (n := 0) (F := Fence.wide) Try.func4 rfl trivial ?_ rfl)
  simp only [Try.ntmps4, List.size_toArray, List.length_cons, List.length_nil, Nat.reduceAdd, Nat.reduceSub, Array.replicate_succ, Array.replicate_zero, List.push_toArray, List.append_toArray, List.nil_append, List.cons_append]
  refine wpIn_wide.2 ?_
  go_wp2_with (first
    | (go_at_call 7; refine (known_any _).mono ?_; rintro e w1 ⟨rfl, hm1⟩)
    | (go_at_call 10; refine (num_any _ _).mono ?_; rintro e w' ⟨rfl, rfl⟩)
    | (go_at_call 8; refine (HOf.out _ (by (repeat' (first | exact Mod.refl _ _ | assumption | refine Mod.alloc ?_ _ | refine Mod.drew ?_ | refine Mod.drewN ?_ _ | refine Mod.setCell ?_ (by first | exact Or.inl rfl | (right; simp; done) | (right; simp; omega) | (left; simp; done)) _)))).mono ?_; rintro e w2 ⟨p2, n2, rfl, -, hm2⟩)
    | fail)
  refine retM0 rfl (results_tmp rfl _ _ _) ⟨rfl, (show Mod (fun _ => False) w _ by (repeat' (first | exact Mod.refl _ _ | assumption | refine Mod.alloc ?_ _ | refine Mod.drew ?_ | refine Mod.drewN ?_ _ | refine Mod.setCell ?_ (by first | exact Or.inl rfl | (right; simp; done) | (right; simp; omega) | (left; simp; done)) _))).trans' hm2⟩
set_option maxRecDepth 100000 in
set_option maxHeartbeats 4000000 in
theorem mean_err (A : Option Addr) (c : Nat) (xs : List Rg) (r : Int) (w : World) (hA : Rd (fun b => b < w.heap.size) w 3 Rg.cs A xs) (hl : xs.length ≤ c) (hc : c ≤ maxLen) (hf : ∀ y ∈ xs, FitR y) (h : xs.length ≤ 200) (he : errR xs ≠ 0) :
    Calls Try.prog 4 #[.slice A xs.length c, .int .i32 r] w fun e w' => e = .returned (.bool true) ∧ Mod (fun _ => False) w w' := by
  unfold maxLen at hc
  have hof := fun X (hX : Mod (fun _ => False) w X) => of_err A c xs X (rd_keep hA hX) (by omega) hf he
  obtain ⟨n, hn⟩ : ∃ n, n = xs.length := ⟨_, rfl⟩
  obtain ⟨er, her⟩ : ∃ er, er = errR xs := ⟨_, rfl⟩
  rw [← her] at hof he
  rw [← hn] at hl h hof ⊢
  have hne : (er != 0) = true := by simpa using he
  have HOf := Lib.hid hof
  clear hn hof hA hf her he
  have hmn : min (n : Int) 200 = n := by omega
  refine callsIn_wide.1 (callsIn_of_wp_marks (n := 0) (F := Fence.wide) Try.func4 rfl trivial ?_ rfl)
  simp only [Try.ntmps4, List.size_toArray, List.length_cons, List.length_nil, Nat.reduceAdd, Nat.reduceSub, Array.replicate_succ, Array.replicate_zero, List.push_toArray, List.append_toArray, List.nil_append, List.cons_append]
  refine wpIn_wide.2 ?_
  go_wp2_with (first
    | (go_at_call 7; refine (known_any _).mono ?_; rintro e w1 ⟨rfl, hm1⟩)
    | (go_at_call 10; refine (num_any _ _).mono ?_; rintro e w' ⟨rfl, rfl⟩)
    | (go_at_call 8; refine (HOf.out _ (by (repeat' (first | exact Mod.refl _ _ | assumption | refine Mod.alloc ?_ _ | refine Mod.drew ?_ | refine Mod.drewN ?_ _ | refine Mod.setCell ?_ (by first | exact Or.inl rfl | (right; simp; done) | (right; simp; omega) | (left; simp; done)) _)))).mono ?_; rintro e w2 ⟨rfl, hm2⟩)
    | fail)
  refine retM0 rfl (results_tmp rfl _ _ _) ⟨rfl, (show Mod (fun _ => False) w _ by (repeat' (first | exact Mod.refl _ _ | assumption | refine Mod.alloc ?_ _ | refine Mod.drew ?_ | refine Mod.drewN ?_ _ | refine Mod.setCell ?_ (by first | exact Or.inl rfl | (right; simp; done) | (right; simp; omega) | (left; simp; done)) _))).trans' hm2⟩
end Go.Proofs.Ytaohdhblnjoihaa
