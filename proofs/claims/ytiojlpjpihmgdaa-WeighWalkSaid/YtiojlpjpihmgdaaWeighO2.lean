/-
  An integer and one element as they come in.
-/
import Derived.Test.YtiojlpjpihmgdaaWeighO
namespace Go.Proofs.Ytiojlpjpihmgdaa
open Go.ChangeShapes Go.WideShapes Go.Deep Go.Joins Go.RowKit
section
variable {H : Type} {enc : TypeId × Value → H} {w : World} {base : Nat} {v : Value} {d : DataW H} {p : List MemPlace}
theorem open_i64 (hv : Value.okWide Try.prog w .any base 3 v) (_h : DataW.Trod enc Try.prog w 0 (fun _ => true) true 3 v d p) : ∃ n, v = .int .i64 n := okWide_int Try.underlying3 hv
theorem open_el (hv : Value.okWide Try.prog w .any base 33 v) (h : DataW.Trod enc Try.prog w 0 (fun _ => true) true 33 v d p) : ∃ e : El, v = e.v := by
  obtain ⟨c0, c1, c2, c3, y0, y1, y2, y3, m, rfl, rfl, rfl, hy0, hy1, hy2, hy3⟩ := open_agg4 Try.underlying33 (by kernel_rfl) (by kernel_rfl) hv h
  obtain ⟨n0, e0, _, w0⟩ := DataW.trod_int Try.underlying31 hy0
  obtain ⟨n1, e1, _, w1⟩ := DataW.trod_int Try.underlying31 hy1
  obtain ⟨n2, e2, _, w2⟩ := DataW.trod_int Try.underlying31 hy2
  obtain ⟨n3, e3, _⟩ := DataW.trod_bool Try.underlying4 hy3
  obtain ⟨k0, rfl⟩ := u16_nat w0
  obtain ⟨k1, rfl⟩ := u16_nat w1
  obtain ⟨k2, rfl⟩ := u16_nat w2
  simp at e0 e1 e2 e3
  exact ⟨⟨k0, k1, k2, n3⟩, by rw [e0, e1, e2, e3]; rfl⟩
end
end Go.Proofs.Ytiojlpjpihmgdaa
