/-
  Ranges as they come in.
-/
import Derived.Test.YtaohdhblnjoihaaRangesA
import Derived.Test.YtaohdhblnjoihaaOpen
namespace Go.Proofs.Ytaohdhblnjoihaa
open Go.ChangeShapes Go.WideShapes Go.Deep Go.Joins Go.RowKit
section
variable {H : Type} {enc : TypeId × Value → H} {w : World} {base : Nat} {v : Value} {d : DataW H} {p : List MemPlace}
theorem open_i64 (hv : Value.okWide Try.prog w .any base 3 v) (h : DataW.Trod enc Try.prog w 0 (fun _ => true) true 3 v d p) : ∃ n, v = .int .i64 n ∧ -9223372036854775808 ≤ n ∧ n ≤ 9223372036854775807 := by
  obtain ⟨n, rfl, -, -, hw⟩ := open_int Try.underlying3 hv h
  exact ⟨n, rfl, wf_i64 hw⟩
theorem open_i32 (hv : Value.okWide Try.prog w .any base 21 v) (h : DataW.Trod enc Try.prog w 0 (fun _ => true) true 21 v d p) : ∃ n, v = .int .i32 n ∧ -2147483648 ≤ n ∧ n ≤ 2147483647 := by
  obtain ⟨n, rfl, -, -, hw⟩ := open_int Try.underlying21 hv h
  exact ⟨n, rfl, wf_i32 hw⟩
theorem open_rg (hv : Value.okWide Try.prog w .any base 24 v) (h : DataW.Trod enc Try.prog w 0 (fun _ => true) true 24 v d p) : ∃ x : Rg, v = x.val ∧ FitR x := by
  obtain ⟨c0, c1, c2, y0, y1, y2, m, rfl, rfl, rfl, hy0, hy1, hy2⟩ := open_agg3 Try.underlying24 (by kernel_rfl) (by kernel_rfl) hv h
  obtain ⟨n0, e0, _, w0⟩ := DataW.trod_int Try.underlying21 hy0
  obtain ⟨n1, e1, _, w1⟩ := DataW.trod_int Try.underlying21 hy1
  obtain ⟨n2, e2, _, w2⟩ := DataW.trod_int Try.underlying3 hy2
  simp at e0 e1 e2
  have f0 := wf_i32 w0
  have f1 := wf_i32 w1
  exact ⟨⟨n0, n1, n2⟩, by rw [e0, e1, e2]; rfl, f0.1, f0.2, f1.1, f1.2⟩
theorem open_rgs (hv : Value.okWide Try.prog w .any base 22 v) (h : DataW.Trod enc Try.prog w 0 (fun _ => true) true 22 v d p) : ∃ A c xs, v = .slice A (xs : List Rg).length c ∧ Rd (fun b => b < w.heap.size) w 3 Rg.cs A xs ∧ xs.length ≤ maxLen ∧ ∀ x ∈ xs, FitR x := by
  obtain ⟨a0, len, cap, rfl⟩ := okWide_slice Try.underlying22 hv
  obtain ⟨fuel, hf⟩ := h
  rcases open_slice_fields Try.underlying22 Try.underlying24 (by kernel_rfl) (by kernel_rfl) hf with hcs | ⟨a, l, c, hcs, hl, hm, hi⟩
  · simp [Value.cells] at hcs
    obtain ⟨rfl, rfl, rfl⟩ := hcs
    exact ⟨none, 0, [], rfl, Rd.nil _ _ _ _ _, by simp [maxLen], fun _ h => by cases h⟩
  · simp [Value.cells] at hcs
    obtain ⟨rfl, rfl, rfl⟩ := hcs
    obtain ⟨xs, hx, hc⟩ := exists_list (fun i (e : Rg) => FitR e ∧ ∀ j u, e.cs[j]? = some u → w.cell? (a.add (i * 3 + j)) = some u) len (fun i hil => by
      obtain ⟨c0, y0, n0, e0, t0⟩ := hi i hil 0 _ rfl
      obtain ⟨c1, y1, n1, e1, t1⟩ := hi i hil 1 _ rfl
      obtain ⟨c2, y2, n2, e2, t2⟩ := hi i hil 2 _ rfl
      obtain ⟨m0, q0, _, w0⟩ := DataW.trod_int Try.underlying21 t0
      obtain ⟨m1, q1, _, w1⟩ := DataW.trod_int Try.underlying21 t1
      obtain ⟨m2, q2, _, w2⟩ := DataW.trod_int Try.underlying3 t2
      simp at q0 q1 q2
      subst q0 q1 q2
      have f0 := wf_i32 w0
      have f1 := wf_i32 w1
      refine ⟨⟨m0, m1, m2⟩, ⟨f0.1, f0.2, f1.1, f1.2⟩, fun j u hu => ?_⟩
      match j, hu with
      | 0, hu => cases hu; exact e0
      | 1, hu => cases hu; exact e1
      | 2, hu => cases hu; exact e2)
    refine ⟨some a, cap, xs, by rw [hx], fun h0 => ?_, by omega, fun x hxm => ?_⟩
    · have hz : w.cell? (a.add (0 * 3 + 0)) = some _ := (hc 0 h0).2 0 _ rfl
      obtain ⟨b, off, spot⟩ := a
      have hspot : spot = none := by simpa [Addr.add] using World.cell?_spot hz
      subst hspot
      refine ⟨b, off, rfl, ?_, fun k hk j u hu => ?_⟩
      · have := World.block_lt_of_cell? w _ hz; simpa [Addr.add] using this
      · have := (hc k hk).2 j u hu
        rw [addr_add] at this
        rwa [Nat.add_assoc]
    · obtain ⟨k, hk, rfl⟩ := List.getElem_of_mem hxm
      exact (hc k hk).1
end
end Go.Proofs.Ytaohdhblnjoihaa
