/-
  How much is gone through; the chapter's row.
-/
import Derived.Test.YtccnkcaagigceaaGreatEntryJ
namespace Go.Proofs.YtccnkcaagigceaaGreat
open Go.RowKit Go.Shelf
attribute [local go_sem] Oper.semAt_some

def mB (a : At) : Nat := min a.T.length 20001 + min a.V.length 20001
def totB (xs : List At) : Nat := (xs.map mB).foldl (· + ·) 0
theorem totB_snoc (xs : List At) (a : At) : totB (xs ++ [a]) = totB xs + mB a := by unfold totB; rw [List.map_append, List.foldl_append]; rfl
theorem totB_le (xs : List At) : ∀ a ∈ xs, mB a ≤ totB xs := by
  induction xs using snoc_ind with
  | h0 => intro a h; cases h
  | hs l x ih =>
    intro a h
    rw [totB_snoc]
    rcases List.mem_append.1 h with h | h
    · have := ih a h; omega
    · rw [List.mem_singleton] at h; subst h; omega
theorem totB_bd (xs : List At) : totB xs ≤ 40002 * xs.length := by
  induction xs using snoc_ind with
  | h0 => simp [totB]
  | hs l x ih => rw [totB_snoc]; unfold mB; simp; omega
/-- What is gone through. -/
def Few (xs : List At) : Prop := xs.length ≤ 120 ∧ totB xs ≤ 20000
def muchB (xs : List At) : Bool := decide (120 < xs.length) || decide (20000 < totB (xs.take 121))
theorem few_of {xs : List At} (h : muchB xs = false) : Few xs := by
  unfold muchB at h
  simp only [Bool.or_eq_false_iff, decide_eq_false_iff_not] at h
  have h1 : xs.length ≤ 120 := by omega
  rw [List.take_of_length_le (by omega)] at h
  exact ⟨h1, by omega⟩
theorem Few.fit {xs : List At} (h : Few xs) : ∀ a ∈ xs, a.T.length ≤ 20000 ∧ a.V.length ≤ 20000 := fun a ha => by
  have := totB_le xs a ha
  have := h.2
  unfold mB at *
  omega
theorem Few.fitA {xs : List At} (h : Few xs) : ∀ a ∈ xs, FitA a := fun a ha => by
  have := h.fit a ha
  unfold FitA; omega
set_option maxRecDepth 100000 in
set_option maxHeartbeats 4000000 in
theorem rmuch_any (A : Option Addr) (c : Nat) (xs : List At) (w : World) (hA : Rd (fun b => b < w.heap.size) w 2 At.cs A xs) (hl : xs.length ≤ maxLen) :
    Calls Tryz.prog 4 #[.slice A xs.length c] w fun e w' => e = .returned (.bool (muchB xs)) ∧ Mod (fun _ => False) w w' := by
  unfold maxLen at hl
  obtain ⟨z, hz⟩ : ∃ z, z = muchB xs := ⟨_, rfl⟩
  rw [← hz]
  have HZ := Lib.hid hz
  obtain ⟨n, hn⟩ : ∃ n, n = xs.length := ⟨_, rfl⟩
  rw [← hn] at hl ⊢
  have HN := Lib.hid hn
  have HA := Lib.hid (fun X (hX : Mod (fun _ => False) w X) => (hA.mod hX (fun b hb => ⟨hb, id⟩)))
  clear hn hA hz
  go_enter Tryz.func4, Tryz.ntmps4
  go_wp2
  go_loopw [3, 4] (fun s i wr => ∃ k : Nat, k ≤ n ∧ k ≤ 121 ∧ i = .int .i64 k ∧ s = .int .i64 (totB (xs.take k) : Nat) ∧ Mod (fun _ => False) w wr) (fun _ i _ => n - (intOf i).toNat)
  case atStart => exact ⟨0, by omega, by omega, rfl, rfl, Mod.refl _ _⟩
  case round =>
    obtain ⟨k, hk, hk2, rfl, rfl, hm⟩ := hrel
    have HM := Lib.hid hm
    clear hm
    have hbd := totB_bd (xs.take k)
    rw [List.length_take] at hbd
    by_cases hlt : k < n ∧ k ≤ 120
    · obtain ⟨hlt1, hlt2⟩ := hlt
      have hkx : k < xs.length := by rw [← HN.out]; exact hlt1
      obtain ⟨b1, o1, rfl, -, p0, p1⟩ := rd2 (HA.out _ HM.out) hkx
      obtain ⟨x, hx⟩ : ∃ x, x = xs[k] := ⟨_, rfl⟩
      rw [← hx] at p0 p1
      have HX := Lib.hid (show totB (xs.take (k + 1)) = totB (xs.take k) + (min x.T.length 20001 + min x.V.length 20001) by rw [List.take_succ_eq_append_getElem hkx, totB_snoc, ← hx]; rfl)
      clear hx
      obtain ⟨xT, xV⟩ := x
      simp only at p0 p1 HX
      generalize totB (xs.take k) = t at *
      have ht : t ≤ 5000000 := by omega
      clear hbd
      go_wp2
      go_quiet (fail)
      go_wp2
      exact ⟨⟨k + 1, by omega, by omega, by go_num, by rw [HX.out]; congr 1; omega, by have := HM.out; (repeat' (first | exact Mod.refl _ _ | assumption | refine Mod.alloc ?_ _ | refine Mod.drew ?_ | refine Mod.drewN ?_ _ | refine Mod.setCell ?_ (by first | exact Or.inl rfl | (right; simp; done) | (right; simp; omega) | (left; simp; done)) _))⟩, by simp only [intOf]; omega⟩
    · by_cases h120 : 120 < n
      · obtain rfl : z = true := by
          rw [HZ.out]
          unfold muchB
          have := HN.out
          simp; omega
        have hk3 : k = 121 ∨ (k = n ∧ k = 121) := by omega
        obtain rfl : k = 121 := by omega
        generalize totB (xs.take 121) = t at *
        by_cases hn2 : 121 < n
        all_goals
          go_wp2
          go_ret
          exact ⟨rfl, HM.out⟩
      · obtain rfl : k = n := by omega
        have hz : z = decide (20000 < totB (xs.take k)) := by
          rw [HZ.out]
          unfold muchB
          have := HN.out
          rw [List.take_of_length_le (by omega), List.take_of_length_le (by omega)]
          have : decide (120 < xs.length) = false := by rw [decide_eq_false_iff_not]; omega
          rw [this, Bool.false_or]
        have HZ2 := Lib.hid hz
        generalize totB (xs.take k) = t at *
        have h12 : decide (120 < (k : Int)) = false := by rw [decide_eq_false_iff_not]; omega
        clear hz
        go_wp2
        go_ret
        refine ⟨ret_bool ?_, HM.out⟩
        rw [HZ2.out, decide_eq_decide]; omega
theorem kat1 : ∀ (xs : List At), (muchB xs = false → Few xs) := fun _ => few_of
def kx : List At := [⟨[99, 110], [97]⟩, ⟨[115, 110], [98]⟩]
def ky : List At := [⟨[99, 110], [99]⟩, ⟨[115, 110], []⟩]
theorem kE : chgE kx ky = 0 := by decide +kernel
theorem kR : chgR kx ky = [⟨[99, 110], [99]⟩] := by decide +kernel
set_option maxRecDepth 100000 in
theorem known_any (w : World) : Calls Tryz.prog 5 #[] w fun e w' => e = .returned (.bool true) ∧ Mod (fun _ => False) w w' := by
  have HC := Lib.hid (fun X (cx cy : Array Value) (h1 : X.heap[w.heap.size]? = some (.cells #[.string ⟨#[99, 110]⟩, .string ⟨#[97]⟩, .string ⟨#[115, 110]⟩, .string ⟨#[98]⟩] 52 (0, 0)))
      (h2 : X.heap[w.heap.size + 1]? = some (.cells #[.string ⟨#[99, 110]⟩, .string ⟨#[99]⟩, .string ⟨#[115, 110]⟩, .string ⟨#[]⟩] 52 (0, 0))) =>
    achange_any (some ⟨w.heap.size, 0, none⟩) (some ⟨w.heap.size + 1, 0, none⟩) 2 2 kx ky X
      ((Rd.blk (xs := kx) At.cs_len h1 rfl).mono fun b hb => by subst hb; exact hp_lt h1) ((Rd.blk (xs := ky) At.cs_len h2 rfl).mono fun b hb => by subst hb; exact hp_lt h2) (by decide) (by decide)
      (fun a ha => by
        simp only [kx, List.mem_cons, List.not_mem_nil, or_false] at ha
        rcases ha with rfl | rfl <;> exact ⟨by decide, by decide⟩)
      (fun a ha => by
        simp only [ky, List.mem_cons, List.not_mem_nil, or_false] at ha
        rcases ha with rfl | rfl <;> exact ⟨by decide, by decide⟩))
  unfold ChgEnds at HC
  rw [kE, kR] at HC
  have heql := fun X => eql_at ⟨[99, 110], [99]⟩ ⟨[99, 110], [99]⟩ X
  unfold At.val at heql
  simp only [decide_true] at heql
  have heq := (show Tryz.prog.eqGuardType Tryz.prog.depth 52 = false by kernel_rfl)
  go_enter Tryz.func5, Tryz.ntmps5
  go_wp2_with (first
    | (go_at_call 21
       refine (HC.out _ #[] #[] (by (repeat' (first | exact hp_new _ _ | exact hp_at _ _ (by simp; done) | refine hp_alloc ?_ _ | refine hp_drew ?_ | refine hp_drewN ?_ _ | apply hp_set | refine hp_far ?_ (by first | (simp; omega) | (simp; done)) _))) (by (repeat' (first | exact hp_new _ _ | exact hp_at _ _ (by simp; done) | refine hp_alloc ?_ _ | refine hp_drew ?_ | refine hp_drewN ?_ _ | apply hp_set | refine hp_far ?_ (by first | (simp; omega) | (simp; done)) _)))).mono ?_
       rintro e w2 ⟨A2, c2, rfl, hown, hm⟩
       obtain ⟨gb, c3, hv, -, -, -⟩ := hown.at_ (by decide)
       injection hv with hA hB hc
       clear hB
       subst hA hc
       have q0 := hown.cell At.cs_len rfl (k := 0) (by decide) (j := 0) rfl
       have q1 := hown.cell At.cs_len rfl (k := 0) (by decide) (j := 1) rfl
       have HM2 := Lib.hid (Mod.trans' (((Mod.refl (fun _ => False) w).alloc _).alloc _) hm)
       simp only [List.length_cons, List.length_nil, Nat.zero_mul, Nat.zero_add, Nat.add_zero] at q0 q1 ⊢
       clear hown hm)
    | (go_at_call 10; refine (num_any _ _).mono ?_; rintro e w' ⟨rfl, rfl⟩)
    | fail)
  go_ret
  exact ⟨rfl, HM2.out⟩
end Go.Proofs.YtccnkcaagigceaaGreat
