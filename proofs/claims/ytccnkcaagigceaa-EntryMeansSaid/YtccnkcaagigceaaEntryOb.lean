/-
  Entries and bytes as they come in.
-/
import Derived.Test.YtccnkcaagigceaaEntryO
namespace Go.Proofs.Ytccnkcaagigceaa
open Go.ChangeShapes Go.WideShapes Go.Deep Go.Joins Go.RowKit
section
variable {H : Type} {enc : TypeId × Value → H} {w : World} {base : Nat} {v : Value} {d : DataW H} {p : List MemPlace}
set_option maxRecDepth 100000 in
theorem open_entry (hv : Value.okWide Try.prog w .any base 35 v) (h : DataW.Trod enc Try.prog w 0 (fun _ => true) true 35 v d p) : ∃ nm A c xs, v = .agg #[.string ⟨(nm : Bs).toArray⟩, .slice A (xs : List At).length c] ∧ nm.length ≤ 9223372036854775807 ∧ Rd (fun b => b < w.heap.size) w 2 At.cs A xs ∧ xs.length ≤ maxLen := by
  obtain ⟨c0, c1, y0, y1, m, rfl, rfl, rfl, hy0, hy1⟩ := open_agg2 Try.underlying35 (by kernel_rfl) (by kernel_rfl) hv h
  obtain ⟨s0, e0, _, w0⟩ := DataW.trod_string Try.underlying9 hy0
  simp at e0
  obtain ⟨l0, rfl, h0⟩ := mk_of s0
  have hc1 : ∃ a0 len cap, c1 = .slice a0 len cap := by
    rcases open_slice_fields Try.underlying23 Try.underlying25 (by kernel_rfl) (by kernel_rfl) hy1 with hcs | ⟨a, l, c, hcs, hl, hm, hi⟩
    · simp at hcs
      exact ⟨_, _, _, hcs⟩
    · simp at hcs
      exact ⟨_, _, _, hcs⟩
  obtain ⟨a0, len, cap, rfl⟩ := hc1
  obtain ⟨xs, rfl, h1, h2, h3, h4⟩ := ats_of hy1
  exact ⟨l0, a0, cap, xs, by rw [e0], by rw [h0]; exact maxLen_le w0, h1, h2⟩
theorem wf_u8 {n : Int} (h : (Lit.int .u8 n).wf = true) : 0 ≤ n ∧ n ≤ 255 := by
  simp [Lit.wf, IntKind.min, IntKind.max, IntKind.signed, IntKind.bits] at h; omega
set_option maxRecDepth 100000 in
theorem open_bytes (hv : Value.okWide Try.prog w .any base 22 v) (h : DataW.Trod enc Try.prog w 0 (fun _ => true) true 22 v d p) : ∃ A c xs, v = .slice A (xs : Bs).length c ∧ Rd (fun b => b < w.heap.size) w 1 csU A xs ∧ xs.length ≤ maxLen := by
  obtain ⟨a0, len, cap, rfl⟩ := okWide_slice Try.underlying22 hv
  obtain ⟨fuel, hf⟩ := h
  rcases open_ints Try.underlying22 Try.underlying5 (by kernel_rfl) hf with ⟨hcs, -⟩ | ⟨a, l, c, zs, hcs, -, hl, hm, hz, -, hcell, hwf⟩
  · simp [Value.cells] at hcs
    obtain ⟨rfl, rfl, rfl⟩ := hcs
    exact ⟨none, 0, [], rfl, Rd.nil _ _ _ _ _, by simp [maxLen]⟩
  · simp [Value.cells] at hcs
    obtain ⟨rfl, rfl, rfl⟩ := hcs
    have hlz : len ≤ zs.length := by rw [hz]; split <;> omega
    have hlen : ((zs.take len).map fun z => UInt8.ofNat z.toNat).length = len := by rw [List.length_map, List.length_take, Nat.min_eq_left hlz]
    refine ⟨some a, cap, (zs.take len).map fun z => UInt8.ofNat z.toNat, by rw [hlen], fun h0 => ?_, by rw [hlen]; omega⟩
    have h0' : 0 < len := by rw [hlen] at h0; exact h0
    have hz0 : w.cell? (a.add 0) = some _ := hcell 0 (by omega)
    obtain ⟨b, off, spot⟩ := a
    have hspot : spot = none := by simpa [Addr.add] using World.cell?_spot hz0
    subst hspot
    refine ⟨b, off, rfl, ?_, fun k hk j u hu => ?_⟩
    · have := World.block_lt_of_cell? w _ hz0; simpa [Addr.add] using this
    · have hkl : k < len := by rw [hlen] at hk; exact hk
      have hj : j = 0 := by
        have := (List.getElem?_eq_some_iff.1 hu).1
        simp [csU] at this; omega
      subst hj
      have hc := hcell k (by omega)
      have hw := wf_u8 (hwf zs[k] (List.getElem_mem (by omega)))
      rw [addr_add] at hc
      simp only [csU, List.getElem?_cons_zero, Option.some.injEq, List.getElem_map, List.getElem_take] at hu
      rw [← hu, Nat.mul_one, Nat.add_zero, hc]
      have e : ((UInt8.ofNat zs[k].toNat).toNat : Int) = zs[k] := by rw [UInt8.toNat_ofNat']; omega
      rw [e]
      simp [List.getD, List.getElem?_eq_getElem (show k < zs.length by omega)]
end
end Go.Proofs.Ytccnkcaagigceaa
