/-
  Numbers and lists of numbers as they come in.
-/
import Derived.Test.YtidbgfmknhlmnaaGreatDoorRow
import Derived.Test.YtidbgfmknhlmnaaGreatDoorBs
namespace Go.Proofs.YtidbgfmknhlmnaaGreatDoor
open Go.ChangeShapes Go.WideShapes Go.Deep Go.Joins Go.RowKit
section
variable {H : Type} {enc : TypeId × Value → H} {w : World} {base : Nat} {v : Value} {d : DataW H} {p : List MemPlace}
set_option maxRecDepth 100000 in
theorem open_i64 (hv : Value.okWide Tryz.prog w .any base 3 v) (h : DataW.Trod enc Tryz.prog w 0 (fun _ => true) true 3 v d p) : ∃ n, v = .int .i64 n ∧ -9223372036854775808 ≤ n ∧ n ≤ 9223372036854775807 := by
  obtain ⟨n, rfl, -, -, hw⟩ := open_int Tryz.underlying3 hv h
  exact ⟨n, rfl, wf_i64 hw⟩
set_option maxRecDepth 100000 in
theorem open_i32 (hv : Value.okWide Tryz.prog w .any base 21 v) (h : DataW.Trod enc Tryz.prog w 0 (fun _ => true) true 21 v d p) : ∃ n, v = .int .i32 n ∧ -2147483648 ≤ n ∧ n ≤ 2147483647 := by
  obtain ⟨n, rfl, -, -, hw⟩ := open_int Tryz.underlying21 hv h
  exact ⟨n, rfl, wf_i32 hw⟩
set_option maxRecDepth 100000 in
theorem open_i32s (hv : Value.okWide Tryz.prog w .any base 22 v) (h : DataW.Trod enc Tryz.prog w 0 (fun _ => true) true 22 v d p) : ∃ A c xs, v = .slice A (xs : List Int).length c ∧ Rd (fun b => b < w.heap.size) w 1 csI A xs ∧ xs.length ≤ maxLen ∧ ∀ x ∈ xs, -2147483648 ≤ x ∧ x ≤ 2147483647 := by
  obtain ⟨a0, len, cap, rfl⟩ := okWide_slice Tryz.underlying22 hv
  obtain ⟨fuel, hf⟩ := h
  rcases open_ints Tryz.underlying22 Tryz.underlying21 (by kernel_rfl) hf with ⟨hcs, -⟩ | ⟨a, l, c, zs, hcs, -, hl, hm, hz, -, hcell, hwf⟩
  · simp [Value.cells] at hcs
    obtain ⟨rfl, rfl, rfl⟩ := hcs
    exact ⟨none, 0, [], rfl, Rd.nil _ _ _ _ _, by simp [maxLen], fun _ h => by cases h⟩
  · simp [Value.cells] at hcs
    obtain ⟨rfl, rfl, rfl⟩ := hcs
    have hlz : len ≤ zs.length := by rw [hz]; split <;> omega
    refine ⟨some a, cap, zs.take len, by rw [List.length_take, Nat.min_eq_left hlz], fun h0 => ?_, by simp; omega, fun x hx => wf_i32 (hwf x (List.mem_of_mem_take hx))⟩
    have h0' : 0 < len := by rw [List.length_take] at h0; omega
    have hz0 : w.cell? (a.add 0) = some _ := hcell 0 (by omega)
    obtain ⟨b, off, spot⟩ := a
    have hspot : spot = none := by simpa [Addr.add] using World.cell?_spot hz0
    subst hspot
    refine ⟨b, off, rfl, ?_, fun k hk j u hu => ?_⟩
    · have := World.block_lt_of_cell? w _ hz0; simpa [Addr.add] using this
    · have hkl : k < len := by rw [List.length_take] at hk; omega
      have hj : j = 0 := by
        have := (List.getElem?_eq_some_iff.1 hu).1
        simp [csI] at this; omega
      subst hj
      have := hcell k (by omega)
      rw [addr_add] at this
      simp only [csI, List.getElem?_cons_zero, Option.some.injEq, List.getElem_take] at hu
      rw [← hu, Nat.mul_one, Nat.add_zero, this]
      simp [List.getD, List.getElem?_eq_getElem (show k < zs.length by omega)]
end
end Go.Proofs.YtidbgfmknhlmnaaGreatDoor
