/-
  Ranges: a range cut into others. No program.
-/
import Derived.Test.YtaohdhblnjoihaaRangesP
namespace Go.Proofs.Ytaohdhblnjoihaa

/-- The parts of a range: within it, apart, all of it, of its value. -/
structure Parts (x : Rg) (q : List Rg) : Prop where
  good : Good q
  apart : Apart q
  within : ∀ y ∈ q, x.lo ≤ y.lo ∧ y.hi ≤ x.hi
  same : ∀ r, val q r = if inR x r then some x.v else none

theorem parts_one {x : Rg} (hx : 0 ≤ x.lo ∧ x.lo ≤ x.hi) : Parts x [x] :=
  ⟨fun y hy => by obtain rfl := List.mem_singleton.1 hy; exact hx, List.pairwise_singleton _ _, fun y hy => by obtain rfl := List.mem_singleton.1 hy; exact ⟨Int.le_refl _, Int.le_refl _⟩, fun r => by rw [val_cons, val_nil]⟩
theorem parts_two {x : Rg} {t : Int} (hx : 0 ≤ x.lo) (h1 : x.lo ≤ t) (h2 : t < x.hi) : Parts x [⟨t + 1, x.hi, x.v⟩, ⟨x.lo, t, x.v⟩] := by
  refine ⟨fun y hy => ?_, ?_, fun y hy => ?_, fun r => ?_⟩
  · simp at hy
    rcases hy with rfl | rfl <;> simp <;> omega
  · refine List.pairwise_cons.2 ⟨fun y hy => ?_, List.pairwise_singleton _ _⟩
    obtain rfl := List.mem_singleton.1 hy
    simp [ovl]
    omega
  · simp at hy
    rcases hy with rfl | rfl <;> simp <;> omega
  · rw [val_cons, val_cons, val_nil]
    simp only [inR]
    by_cases a1 : x.lo ≤ r <;> by_cases a2 : r ≤ x.hi <;> by_cases a3 : t + 1 ≤ r <;> by_cases a4 : r ≤ t <;> simp [a1, a2, a3, a4] <;> omega
def singles (lo v : Int) (n : Nat) : List Rg := (List.range n).map fun i : Nat => ⟨lo + (i : Int), lo + (i : Int), v⟩
theorem singles_succ (lo v : Int) (n : Nat) : singles lo v (n + 1) = singles lo v n ++ [⟨lo + n, lo + n, v⟩] := by unfold singles; rw [List.range_succ]; simp
theorem singles_len (lo v : Int) (n : Nat) : (singles lo v n).length = n := by simp [singles]
theorem parts_singles {x : Rg} (hx : 0 ≤ x.lo ∧ x.lo ≤ x.hi) {n : Nat} (hn : (n : Int) = x.hi - x.lo + 1) : Parts x (singles x.lo x.v n) := by
  refine ⟨fun y hy => ?_, ?_, fun y hy => ?_, fun r => ?_⟩
  · obtain ⟨i, hi, rfl⟩ := List.mem_map.1 hy
    simp at hi ⊢
    omega
  · unfold Apart singles
    rw [List.pairwise_map]
    refine List.pairwise_iff_getElem.2 fun i j hi hj hij => ?_
    simp [ovl]
    omega
  · obtain ⟨i, hi, rfl⟩ := List.mem_map.1 hy
    simp at hi ⊢
    omega
  · by_cases h : inR x r = true
    · rw [if_pos h]
      simp [inR] at h
      have hap : Apart (singles x.lo x.v n) := by
        unfold Apart singles
        rw [List.pairwise_map]
        refine List.pairwise_iff_getElem.2 fun i j hi hj hij => ?_
        simp [ovl]
        omega
      refine val_mem hap (z := ⟨x.lo + ((r - x.lo).toNat : Int), x.lo + ((r - x.lo).toNat : Int), x.v⟩) ?_ ?_
      · exact List.mem_map.2 ⟨(r - x.lo).toNat, by simp; omega, rfl⟩
      · simp [inR]; omega
    · rw [if_neg h]
      refine val_none.2 fun z hz => ?_
      obtain ⟨i, hi, rfl⟩ := List.mem_map.1 hz
      simp [inR] at h hi ⊢
      omega
theorem mapR_parts {xs q : List Rg} {x : Rg} (h0 : errR (xs ++ [x]) = 0) (hq : Parts x q) : errR (xs ++ q) = 0 ∧ mapR (xs ++ q) = mapR (xs ++ [x]) := by
  obtain ⟨hg, ha⟩ := errR_zero.1 h0
  have hp := List.pairwise_append.1 ha
  have h1 : errR (xs ++ q) = 0 := by
    refine errR_zero.2 ⟨fun y hy => ?_, List.pairwise_append.2 ⟨hp.1, hq.apart, fun a ma b mb => ?_⟩⟩
    · rcases List.mem_append.1 hy with h | h
      · exact hg y (by simp [h])
      · exact hq.good y h
    · have h2 := hp.2.2 a ma x (by simp)
      have h3 := hq.within b mb
      have h4 := hq.good b mb
      simp [ovl] at h2 ⊢
      omega
  refine ⟨h1, mapR_eq h1 h0 fun r => ?_⟩
  rw [val_append, val_append, hq.same, val_cons, val_nil]
/-- What a map takes besides, its ranges take besides. -/
theorem more_back {xs : List Rg} {x : Rg} (h0 : errR xs = 0) (h1 : errR (mapR xs ++ [x]) = 0) : errR (xs ++ [x]) = 0 ∧ mapR (xs ++ [x]) = mapR (mapR xs ++ [x]) ∧ tot (mapR (mapR xs ++ [x])) = tot (mapR xs) + (x.hi - x.lo + 1) := by
  obtain ⟨hg, ha⟩ := errR_zero.1 h0
  obtain ⟨hg1, ha1⟩ := errR_zero.1 h1
  obtain ⟨hc, hv, _⟩ := mapR_facts h0
  have hp1 := List.pairwise_append.1 ha1
  have hx := hg1 x (by simp)
  have h2 : errR (xs ++ [x]) = 0 := by
    refine errR_zero.2 ⟨fun y hy => ?_, List.pairwise_append.2 ⟨ha, List.pairwise_singleton _ _, fun a ma b mb => ?_⟩⟩
    · rcases List.mem_append.1 hy with h | h
      · exact hg y h
      · obtain rfl := List.mem_singleton.1 h; exact hx
    · obtain rfl := List.mem_singleton.1 mb
      cases ho : ovl a b with
      | false => rfl
      | true =>
        exfalso
        have hga := hg a ma
        obtain ⟨r, hr1, hr2⟩ : ∃ r, inR a r = true ∧ inR b r = true := by
          simp [ovl] at ho
          by_cases h : a.lo ≤ b.lo
          · exact ⟨b.lo, by simp [inR]; omega, by simp [inR]; omega⟩
          · exact ⟨a.lo, by simp [inR]; omega, by simp [inR]; omega⟩
        have hv1 := val_mem ha ma hr1
        rw [← hv r] at hv1
        obtain ⟨z, hz, hzr, _⟩ := val_some hv1
        have := hp1.2.2 z hz b (by simp)
        rw [inR_ovl hzr hr2] at this
        cases this
  refine ⟨h2, mapR_eq h2 h1 fun r => by rw [val_append, val_append, hv], ?_⟩
  have t0 : tot [] = 0 := rfl
  rw [(mapR_facts h1).2.2, tot_append, tot_cons]
  omega
end Go.Proofs.Ytaohdhblnjoihaa
