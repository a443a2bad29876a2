/-
  Options and elements as they come in: read as values.
-/
import Derived.Test.YtiojlpjpihmgdaaWeighE
import Derived.ProofKit
import Derived.Lib.SmallJoins
import Derived.Deep.Slices
import Derived.Deep.Fields
import Derived.ChangeSame
namespace Go.Proofs.Ytiojlpjpihmgdaa
open Go.ChangeShapes Go.WideShapes Go.Deep Go.Joins Go.RowKit

theorem exists_list {α : Type} (Φ : Nat → α → Prop) : ∀ n, (∀ i, i < n → ∃ e, Φ i e) → ∃ xs : List α, xs.length = n ∧ ∀ i (h : i < xs.length), Φ i xs[i]
  | 0, _ => ⟨[], rfl, fun i h => by simp at h⟩
  | n + 1, h => by
    obtain ⟨xs, hl, hx⟩ := exists_list Φ n (fun i hi => h i (by omega))
    obtain ⟨e, he⟩ := h n (by omega)
    refine ⟨xs ++ [e], by simp [hl], fun i hi => ?_⟩
    by_cases hi' : i < xs.length
    · rw [List.getElem_append_left hi']; exact hx i hi'
    · have : i = n := by simp at hi; omega
      subst this
      rw [List.getElem_append_right (by omega)]
      simpa using he

section
variable {H : Type} {enc : TypeId × Value → H} {P : Program} {w : World} {base : Nat} {spare : Nat → Bool} {held : Bool}
theorem open_slice_fields {t e : TypeId} {fs : Array Field} {fuel : Nat} {cs : List Value} {x : DataW H × List MemPlace} (ht : P.underlying t = some (.slice e)) (he : P.underlying e = some (.struct fs))
    (hone : oneCellFields P fs = true) (hC : P.cellsOf e = fs.size) (h : DataW.trod enc P w base spare held fuel t cs = some x) :
    (cs = [.slice none 0 0]) ∨
    ∃ (a : Addr) (len cap : Nat), cs = [.slice (some a) len cap] ∧ len ≤ cap ∧ cap ≤ maxLen ∧
      ∀ i, i < len → ∀ (j : Nat) (f : Field), fs[j]? = some f → ∃ (v : Value) (y : DataW H × List MemPlace) (n : Nat), w.cell? (a.add (i * fs.size + j)) = some v ∧ DataW.trod enc P w base spare held n f.type [v] = some y := by
  rcases open_slice ht h with h0 | ⟨a, len, cap, m, n, D, Pl, hcs, hb, hl, hm, hmm, hx, hi⟩
  · exact .inl h0.1
  · refine .inr ⟨a, len, cap, hcs, hl, hm, fun i him j f hj => ?_⟩
    have hlm : len ≤ m := by rw [hmm]; split <;> omega
    obtain ⟨cs', hc, ht'⟩ := hi i (by omega)
    rw [hC] at hc
    obtain ⟨ys, n', hn', hy, hlen, hyl, hf⟩ := DataW.trod_struct he ht'
    obtain ⟨_, hcl, hat⟩ := World.cells?_some hc
    obtain ⟨ho, hk⟩ := hone_of hone j f hj
    have hjl : j < fs.size := (Array.getElem?_eq_some_iff.1 hj).1
    have hcell := hat j hjl
    have hv : cs'[j]? = some (cs'[j]'(by omega)) := List.getElem?_eq_getElem (by omega)
    have h1 := hf j f hj
    rw [ho, hk] at h1
    have hone' : (cs'.drop j).take 1 = [cs'[j]'(by omega)] := by
      rw [List.drop_eq_getElem_cons (by omega)]
      rfl
    rw [hone'] at h1
    have hys : ys[j]? = some (ys[j]'(by omega)) := List.getElem?_eq_getElem (by omega)
    refine ⟨_, _, n', ?_, h1.trans hys⟩
    rw [← Go.Deep.add_add, hcell, hv]
end

theorem u16_nat {n : Int} (h : (Lit.int .u16 n).wf = true) : ∃ m : Nat, n = m := ⟨n.toNat, by simp [Lit.wf, IntKind.min, IntKind.max, IntKind.signed, IntKind.bits] at h; omega⟩

section
variable {H : Type} {enc : TypeId × Value → H} {w : World} {base : Nat} {v : Value} {d : DataW H} {p : List MemPlace}
theorem open_opt (hv : Value.okWide Try.prog w .any base 23 v) (h : DataW.Trod enc Try.prog w 0 (fun _ => true) true 23 v d p) : ∃ sh lv, v = .agg #[.bool sh, .int .i64 lv] := by
  obtain ⟨c0, c1, y0, y1, m, rfl, rfl, rfl, hy0, hy1⟩ := open_agg2 Try.underlying23 (by kernel_rfl) (by kernel_rfl) hv h
  obtain ⟨b, e0, _⟩ := DataW.trod_bool Try.underlying4 hy0
  obtain ⟨n, e1, _⟩ := DataW.trod_int Try.underlying3 hy1
  simp at e0 e1
  exact ⟨b, n, by rw [e0, e1]⟩
theorem open_els (hv : Value.okWide Try.prog w .any base 24 v) (h : DataW.Trod enc Try.prog w 0 (fun _ => true) true 24 v d p) : ∃ A c xs, v = .slice A (xs : List El).length c ∧ Rd (fun b => b < w.heap.size) w 4 El.cs A xs ∧ xs.length ≤ maxLen := by
  obtain ⟨a0, len, cap, rfl⟩ := okWide_slice Try.underlying24 hv
  obtain ⟨fuel, hf⟩ := h
  rcases open_slice_fields Try.underlying24 Try.underlying33 (by kernel_rfl) (by kernel_rfl) hf with hcs | ⟨a, l, c, hcs, hl, hm, hi⟩
  · simp [Value.cells] at hcs
    obtain ⟨rfl, rfl, rfl⟩ := hcs
    exact ⟨none, 0, [], rfl, Rd.nil _ _ _ _ _, by simp [maxLen]⟩
  · simp [Value.cells] at hcs
    obtain ⟨rfl, rfl, rfl⟩ := hcs
    obtain ⟨xs, hx, hc⟩ := exists_list (fun i (e : El) => ∀ j u, e.cs[j]? = some u → w.cell? (a.add (i * 4 + j)) = some u) len (fun i hil => by
      obtain ⟨c0, y0, n0, e0, t0⟩ := hi i hil 0 _ rfl
      obtain ⟨c1, y1, n1, e1, t1⟩ := hi i hil 1 _ rfl
      obtain ⟨c2, y2, n2, e2, t2⟩ := hi i hil 2 _ rfl
      obtain ⟨c3, y3, n3, e3, t3⟩ := hi i hil 3 _ rfl
      obtain ⟨m0, q0, _, w0⟩ := DataW.trod_int Try.underlying31 t0
      obtain ⟨m1, q1, _, w1⟩ := DataW.trod_int Try.underlying31 t1
      obtain ⟨m2, q2, _, w2⟩ := DataW.trod_int Try.underlying31 t2
      obtain ⟨m3, q3, _⟩ := DataW.trod_bool Try.underlying4 t3
      obtain ⟨k0, rfl⟩ := u16_nat w0
      obtain ⟨k1, rfl⟩ := u16_nat w1
      obtain ⟨k2, rfl⟩ := u16_nat w2
      simp at q0 q1 q2 q3
      subst q0 q1 q2 q3
      refine ⟨⟨k0, k1, k2, m3⟩, fun j u hu => ?_⟩
      match j, hu with
      | 0, hu => cases hu; exact e0
      | 1, hu => cases hu; exact e1
      | 2, hu => cases hu; exact e2
      | 3, hu => cases hu; exact e3)
    refine ⟨some a, cap, xs, by rw [hx], fun h0 => ?_, by omega⟩
    have hz : w.cell? (a.add (0 * 4 + 0)) = some _ := hc 0 h0 0 _ rfl
    obtain ⟨b, off, spot⟩ := a
    have hspot : spot = none := by simpa [Addr.add] using World.cell?_spot hz
    subst hspot
    refine ⟨b, off, rfl, ?_, fun k hk j u hu => ?_⟩
    · have := World.block_lt_of_cell? w _ hz; simpa [Addr.add] using this
    · have := hc k hk j u hu
      rw [addr_add] at this
      rwa [Nat.add_assoc]
end
end Go.Proofs.Ytiojlpjpihmgdaa
