/-
  Texts of this claim, one behind the other: EntryO, ResO.
-/
import Derived.Test.YtmalclclopnlnaaGreatPk11
import Derived.Test.YtmalclclopnlnaaGreatPk13
import Derived.Test.YtmalclclopnlnaaGreatPk38
/-
  Texts, attributes, entries as they come in.
-/
namespace Go.Proofs.YtmalclclopnlnaaGreat
open Go.ChangeShapes Go.WideShapes Go.Deep Go.Joins Go.RowKit
section
variable {H : Type} {enc : TypeId × Value → H} {w : World} {base : Nat} {v : Value} {d : DataW H} {p : List MemPlace}
theorem maxLen_le {n : Nat} (h : n ≤ maxLen) : n ≤ 9223372036854775807 := by unfold maxLen at h; exact h
theorem mk_of (s : ByteArray) : ∃ l : Bs, s = ⟨l.toArray⟩ ∧ l.length = s.size := by
  obtain ⟨⟨l⟩⟩ := s
  exact ⟨l, rfl, rfl⟩
set_option maxRecDepth 100000 in
theorem open_str (hv : Value.okWide Tryz.prog w .any base 9 v) (h : DataW.Trod enc Tryz.prog w 0 (fun _ => true) true 9 v d p) : ∃ l : Bs, v = .string ⟨l.toArray⟩ ∧ l.length ≤ 9223372036854775807 := by
  obtain ⟨s, rfl, -, -, hs⟩ := ChangeMaps.open_string Tryz.underlying9 hv h
  obtain ⟨l, rfl, hl⟩ := mk_of s
  exact ⟨l, rfl, by rw [hl]; exact maxLen_le hs⟩
set_option maxRecDepth 100000 in
theorem open_at (hv : Value.okWide Tryz.prog w .any base 144 v) (h : DataW.Trod enc Tryz.prog w 0 (fun _ => true) true 144 v d p) : ∃ x : At, v = x.val ∧ FitA x := by
  obtain ⟨c0, c1, y0, y1, m, rfl, rfl, rfl, hy0, hy1⟩ := open_agg2 Tryz.underlying144 (by kernel_rfl) (by kernel_rfl) hv h
  obtain ⟨s0, e0, _, w0⟩ := DataW.trod_string Tryz.underlying9 hy0
  obtain ⟨s1, e1, _, w1⟩ := DataW.trod_string Tryz.underlying9 hy1
  simp at e0 e1
  obtain ⟨l0, rfl, h0⟩ := mk_of s0
  obtain ⟨l1, rfl, h1⟩ := mk_of s1
  exact ⟨⟨l0, l1⟩, by rw [e0, e1]; rfl, by rw [h0]; exact maxLen_le w0, by rw [h1]; exact maxLen_le w1⟩
set_option maxRecDepth 100000 in
theorem ats_of {fuel : Nat} {a0 : Option Addr} {len cap : Nat} {x : DataW H × List MemPlace} (hf : DataW.trod enc Tryz.prog w 0 (fun _ => true) true fuel 66 (Value.slice a0 len cap).cells.toList = some x) :
    ∃ xs : List At, len = xs.length ∧ Rd (fun b => b < w.heap.size) w 2 At.cs a0 xs ∧ xs.length ≤ maxLen ∧ xs.length ≤ cap ∧ ∀ x ∈ xs, FitA x := by
  rcases open_slice_fields Tryz.underlying66 Tryz.underlying144 (by kernel_rfl) (by kernel_rfl) hf with hcs | ⟨a, l, c, hcs, hl, hm, hi⟩
  · simp [Value.cells] at hcs
    obtain ⟨rfl, rfl, rfl⟩ := hcs
    exact ⟨[], rfl, Rd.nil _ _ _ _ _, by simp [maxLen], by simp, fun _ h => by cases h⟩
  · simp [Value.cells] at hcs
    obtain ⟨rfl, rfl, rfl⟩ := hcs
    obtain ⟨xs, hx, hc⟩ := exists_list (fun i (e : At) => FitA e ∧ ∀ j u, e.cs[j]? = some u → w.cell? (a.add (i * 2 + j)) = some u) len (fun i hil => by
      obtain ⟨c0, y0, n0, e0, t0⟩ := hi i hil 0 _ rfl
      obtain ⟨c1, y1, n1, e1, t1⟩ := hi i hil 1 _ rfl
      obtain ⟨s0, q0, _, w0⟩ := DataW.trod_string Tryz.underlying9 t0
      obtain ⟨s1, q1, _, w1⟩ := DataW.trod_string Tryz.underlying9 t1
      simp at q0 q1
      subst q0 q1
      obtain ⟨l0, rfl, h0⟩ := mk_of s0
      obtain ⟨l1, rfl, h1⟩ := mk_of s1
      refine ⟨⟨l0, l1⟩, ⟨by rw [h0]; exact maxLen_le w0, by rw [h1]; exact maxLen_le w1⟩, fun j u hu => ?_⟩
      match j, hu with
      | 0, hu => cases hu; exact e0
      | 1, hu => cases hu; exact e1)
    refine ⟨xs, hx.symm, fun h0 => ?_, by omega, by omega, fun x hxm => ?_⟩
    · have hz : w.cell? (a.add (0 * 2 + 0)) = some _ := (hc 0 h0).2 0 _ rfl
      obtain ⟨b, off, spot⟩ := a
      have hspot : spot = none := by simpa [Addr.add] using World.cell?_spot hz
      subst hspot
      refine ⟨b, off, rfl, ?_, fun k hk j u hu => ?_⟩
      · have := World.block_lt_of_cell? w _ hz; simpa [Addr.add] using this
      · have := (hc k hk).2 j u hu
        rw [addr_add] at this
        rwa [Nat.add_assoc]
    · obtain ⟨k, hk, rfl⟩ := List.getElem_of_mem hxm
      exact (hc k hk).1
set_option maxRecDepth 100000 in
theorem open_ats (hv : Value.okWide Tryz.prog w .any base 66 v) (h : DataW.Trod enc Tryz.prog w 0 (fun _ => true) true 66 v d p) : ∃ A c xs, v = .slice A (xs : List At).length c ∧ Rd (fun b => b < w.heap.size) w 2 At.cs A xs ∧ xs.length ≤ maxLen ∧ xs.length ≤ c ∧ ∀ x ∈ xs, FitA x := by
  obtain ⟨a0, len, cap, rfl⟩ := okWide_slice Tryz.underlying66 hv
  obtain ⟨fuel, hf⟩ := h
  obtain ⟨xs, rfl, h1, h2, h3, h4⟩ := ats_of hf
  exact ⟨a0, cap, xs, rfl, h1, h2, h3, h4⟩
end
end Go.Proofs.YtmalclclopnlnaaGreat
/-
  Entries and bytes as they come in.
-/
namespace Go.Proofs.YtmalclclopnlnaaGreat
open Go.ChangeShapes Go.WideShapes Go.Deep Go.Joins Go.RowKit
section
variable {H : Type} {enc : TypeId × Value → H} {w : World} {base : Nat} {v : Value} {d : DataW H} {p : List MemPlace}
set_option maxRecDepth 100000 in
theorem open_entry (hv : Value.okWide Tryz.prog w .any base 68 v) (h : DataW.Trod enc Tryz.prog w 0 (fun _ => true) true 68 v d p) : ∃ nm A c xs, v = .agg #[.string ⟨(nm : Bs).toArray⟩, .slice A (xs : List At).length c] ∧ nm.length ≤ 9223372036854775807 ∧ Rd (fun b => b < w.heap.size) w 2 At.cs A xs ∧ xs.length ≤ maxLen := by
  obtain ⟨c0, c1, y0, y1, m, rfl, rfl, rfl, hy0, hy1⟩ := open_agg2 Tryz.underlying68 (by kernel_rfl) (by kernel_rfl) hv h
  obtain ⟨s0, e0, _, w0⟩ := DataW.trod_string Tryz.underlying9 hy0
  simp at e0
  obtain ⟨l0, rfl, h0⟩ := mk_of s0
  have hc1 : ∃ a0 len cap, c1 = .slice a0 len cap := by
    rcases open_slice_fields Tryz.underlying66 Tryz.underlying144 (by kernel_rfl) (by kernel_rfl) hy1 with hcs | ⟨a, l, c, hcs, hl, hm, hi⟩
    · simp at hcs
      exact ⟨_, _, _, hcs⟩
    · simp at hcs
      exact ⟨_, _, _, hcs⟩
  obtain ⟨a0, len, cap, rfl⟩ := hc1
  obtain ⟨xs, rfl, h1, h2, h3, h4⟩ := ats_of hy1
  exact ⟨l0, a0, cap, xs, by rw [e0], by rw [h0]; exact maxLen_le w0, h1, h2⟩
theorem wf_u8 {n : Int} (h : (Lit.int .u8 n).wf = true) : 0 ≤ n ∧ n ≤ 255 := by
  simp [Lit.wf, IntKind.min, IntKind.max, IntKind.signed, IntKind.bits] at h; omega
set_option maxRecDepth 100000 in
theorem open_bytesC (hv : Value.okWide Tryz.prog w .any base 35 v) (h : DataW.Trod enc Tryz.prog w 0 (fun _ => true) true 35 v d p) : ∃ A c xs, v = .slice A (xs : Bs).length c ∧ Rd (fun b => b < w.heap.size) w 1 csU A xs ∧ xs.length ≤ maxLen ∧ xs.length ≤ c := by
  obtain ⟨a0, len, cap, rfl⟩ := okWide_slice Tryz.underlying35 hv
  obtain ⟨fuel, hf⟩ := h
  rcases open_ints Tryz.underlying35 Tryz.underlying5 (by kernel_rfl) hf with ⟨hcs, -⟩ | ⟨a, l, c, zs, hcs, -, hl, hm, hz, -, hcell, hwf⟩
  · simp [Value.cells] at hcs
    obtain ⟨rfl, rfl, rfl⟩ := hcs
    exact ⟨none, 0, [], rfl, Rd.nil _ _ _ _ _, by simp [maxLen], Nat.le_refl _⟩
  · simp [Value.cells] at hcs
    obtain ⟨rfl, rfl, rfl⟩ := hcs
    have hlz : len ≤ zs.length := by rw [hz]; split <;> omega
    have hlen : ((zs.take len).map fun z => UInt8.ofNat z.toNat).length = len := by rw [List.length_map, List.length_take, Nat.min_eq_left hlz]
    refine ⟨some a, cap, (zs.take len).map fun z => UInt8.ofNat z.toNat, by rw [hlen], fun h0 => ?_, by rw [hlen]; omega, by rw [hlen]; exact hl⟩
    have h0' : 0 < len := by rw [hlen] at h0; exact h0
    have hz0 : w.cell? (a.add 0) = some _ := hcell 0 (by omega)
    obtain ⟨b, off, spot⟩ := a
    have hspot : spot = none := by simpa [Addr.add] using World.cell?_spot hz0
    subst hspot
    refine ⟨b, off, rfl, ?_, fun k hk j u hu => ?_⟩
    · have := World.block_lt_of_cell? w _ hz0; simpa [Addr.add] using this
    · have hkl : k < len := by rw [hlen] at hk; exact hk
      have hj : j = 0 := by
        have := (List.getElem?_eq_some_iff.1 hu).1
        simp [csU] at this; omega
      subst hj
      have hc := hcell k (by omega)
      have hw := wf_u8 (hwf zs[k] (List.getElem_mem (by omega)))
      rw [addr_add] at hc
      simp only [csU, List.getElem?_cons_zero, Option.some.injEq, List.getElem_map, List.getElem_take] at hu
      rw [← hu, Nat.mul_one, Nat.add_zero, hc]
      have e : ((UInt8.ofNat zs[k].toNat).toNat : Int) = zs[k] := by rw [UInt8.toNat_ofNat']; omega
      rw [e]
      simp [List.getD, List.getElem?_eq_getElem (show k < zs.length by omega)]
set_option maxRecDepth 100000 in
theorem open_bytes (hv : Value.okWide Tryz.prog w .any base 35 v) (h : DataW.Trod enc Tryz.prog w 0 (fun _ => true) true 35 v d p) : ∃ A c xs, v = .slice A (xs : Bs).length c ∧ Rd (fun b => b < w.heap.size) w 1 csU A xs ∧ xs.length ≤ maxLen := by
  obtain ⟨A, c, xs, h1, h2, h3, -⟩ := open_bytesC hv h
  exact ⟨A, c, xs, h1, h2, h3⟩
set_option maxRecDepth 100000 in
theorem open_u8 (hv : Value.okWide Tryz.prog w .any base 5 v) (h : DataW.Trod enc Tryz.prog w 0 (fun _ => true) true 5 v d p) : ∃ t : UInt8, v = .int .u8 (t.toNat : Int) := by
  obtain ⟨n, rfl, -, -, hw⟩ := open_int Tryz.underlying5 hv h
  have := wf_u8 hw
  refine ⟨UInt8.ofNat n.toNat, ?_⟩
  congr 1
  rw [UInt8.toNat_ofNat']
  omega
end
end Go.Proofs.YtmalclclopnlnaaGreat
/-
  Acts (a client, a number, a result) as they come in.
-/
namespace Go.Proofs.YtmalclclopnlnaaGreat
open Go.ChangeShapes Go.WideShapes Go.Deep Go.Joins Go.RowKit
section
variable {H : Type} {enc : TypeId × Value → H} {w : World} {base : Nat} {v : Value} {d : DataW H} {p : List MemPlace}
set_option maxRecDepth 100000 in
theorem u8s_of {fuel : Nat} {cs : List Value} {x : DataW H × List MemPlace} (hf : DataW.trod enc Tryz.prog w 0 (fun _ => true) true fuel 35 cs = some x) :
    ∃ A c xs, cs = [.slice A (xs : Bs).length c] ∧ Rd (fun b => b < w.heap.size) w 1 csU A xs ∧ xs.length ≤ maxLen ∧ xs.length ≤ c := by
  rcases open_ints Tryz.underlying35 Tryz.underlying5 (by kernel_rfl) hf with ⟨hcs, -⟩ | ⟨a, l, c, zs, hcs, -, hl, hm, hz, -, hcell, hwf⟩
  · exact ⟨none, 0, [], hcs, Rd.nil _ _ _ _ _, by simp [maxLen], Nat.le_refl _⟩
  · have hlz : l ≤ zs.length := by rw [hz]; split <;> omega
    have hlen : ((zs.take l).map fun z => UInt8.ofNat z.toNat).length = l := by rw [List.length_map, List.length_take, Nat.min_eq_left hlz]
    refine ⟨some a, c, (zs.take l).map fun z => UInt8.ofNat z.toNat, by rw [hlen]; exact hcs, fun h0 => ?_, by rw [hlen]; omega, by rw [hlen]; exact hl⟩
    have h0' : 0 < l := by rw [hlen] at h0; exact h0
    have hz0 : w.cell? (a.add 0) = some _ := hcell 0 (by omega)
    obtain ⟨b, off, spot⟩ := a
    have hspot : spot = none := by simpa [Addr.add] using World.cell?_spot hz0
    subst hspot
    refine ⟨b, off, rfl, ?_, fun k hk j u hu => ?_⟩
    · have := World.block_lt_of_cell? w _ hz0; simpa [Addr.add] using this
    · have hkl : k < l := by rw [hlen] at hk; exact hk
      have hj : j = 0 := by
        have := (List.getElem?_eq_some_iff.1 hu).1
        simp [csU] at this; omega
      subst hj
      have hc := hcell k (by omega)
      have hw := wf_u8 (hwf zs[k] (List.getElem_mem (by omega)))
      rw [addr_add] at hc
      simp only [csU, List.getElem?_cons_zero, Option.some.injEq, List.getElem_map, List.getElem_take] at hu
      rw [← hu, Nat.mul_one, Nat.add_zero, hc]
      have e : ((UInt8.ofNat zs[k].toNat).toNat : Int) = zs[k] := by rw [UInt8.toNat_ofNat']; omega
      rw [e]
      simp [List.getD, List.getElem?_eq_getElem (show k < zs.length by omega)]
set_option maxRecDepth 100000 in
theorem ats_cs {fuel : Nat} {cs : List Value} {x : DataW H × List MemPlace} (hf : DataW.trod enc Tryz.prog w 0 (fun _ => true) true fuel 66 cs = some x) :
    ∃ A c xs, cs = [.slice A (xs : List At).length c] ∧ Rd (fun b => b < w.heap.size) w 2 At.cs A xs ∧ xs.length ≤ maxLen ∧ xs.length ≤ c ∧ ∀ x ∈ xs, FitA x := by
  have hc1 : ∃ a0 len cap, cs = [.slice a0 len cap] := by
    rcases open_slice_fields Tryz.underlying66 Tryz.underlying144 (by kernel_rfl) (by kernel_rfl) hf with hcs | ⟨a, l, c, hcs, hl, hm, hi⟩
    · exact ⟨_, _, _, hcs⟩
    · exact ⟨_, _, _, hcs⟩
  obtain ⟨a0, len, cap, rfl⟩ := hc1
  obtain ⟨xs, rfl, h1, h2, h3, h4⟩ := ats_of hf
  exact ⟨a0, cap, xs, rfl, h1, h2, h3, h4⟩
set_option maxRecDepth 100000 in
theorem ents_of {fuel : Nat} {cs : List Value} {x : DataW H × List MemPlace} (hf : DataW.trod enc Tryz.prog w 0 (fun _ => true) true fuel 34 cs = some x) :
    ∃ A c xs, cs = [.slice A (xs : List EnC).length c] ∧ Rd (fun b => b < w.heap.size) w 2 EnC.cs A xs ∧ (∀ x ∈ xs, x.Ok (fun b => b < w.heap.size) w) ∧ xs.length ≤ maxLen ∧ xs.length ≤ c := by
  rcases open_slice_fields Tryz.underlying34 Tryz.underlying68 (by kernel_rfl) (by kernel_rfl) hf with hcs | ⟨a, l, c, hcs, hl, hm, hi⟩
  · exact ⟨none, 0, [], hcs, Rd.nil _ _ _ _ _, fun _ h => (by cases h), by simp [maxLen], by simp⟩
  · obtain ⟨xs, hx, hc⟩ := exists_list (fun i (e : EnC) => e.Ok (fun b => b < w.heap.size) w ∧ ∀ j u, e.cs[j]? = some u → w.cell? (a.add (i * 2 + j)) = some u) l (fun i hil => by
      obtain ⟨c0, y0, n0, e0, t0⟩ := hi i hil 0 _ rfl
      obtain ⟨c1, y1, n1, e1, t1⟩ := hi i hil 1 _ rfl
      obtain ⟨s0, q0, _, w0⟩ := DataW.trod_string Tryz.underlying9 t0
      obtain ⟨A1, k1, ys, q1, r1, m1, p1, f1⟩ := ats_cs t1
      simp at q0 q1
      subst q0 q1
      obtain ⟨l0, rfl, h0⟩ := mk_of s0
      refine ⟨⟨l0, A1, k1, ys⟩, ⟨r1, by rw [h0]; exact maxLen_le w0, m1, p1, f1⟩, fun j u hu => ?_⟩
      match j, hu with
      | 0, hu => cases hu; exact e0
      | 1, hu => cases hu; exact e1)
    refine ⟨some a, c, xs, by rw [hx]; exact hcs, fun h0 => ?_, fun x hxm => ?_, by omega, by omega⟩
    · have hz : w.cell? (a.add (0 * 2 + 0)) = some _ := (hc 0 h0).2 0 _ rfl
      obtain ⟨b, off, spot⟩ := a
      have hspot : spot = none := by simpa [Addr.add] using World.cell?_spot hz
      subst hspot
      refine ⟨b, off, rfl, ?_, fun k hk j u hu => ?_⟩
      · have := World.block_lt_of_cell? w _ hz; simpa [Addr.add] using this
      · have := (hc k hk).2 j u hu
        rw [addr_add] at this
        rwa [Nat.add_assoc]
    · obtain ⟨k, hk, rfl⟩ := List.getElem_of_mem hxm
      exact (hc k hk).1
theorem list4 {α : Type} {cs : List α} (h : cs.length = 4) : ∃ c0 c1 c2 c3, cs = [c0, c1, c2, c3] := by
  match cs, h with
  | [c0, c1, c2, c3], _ => exact ⟨c0, c1, c2, c3, rfl⟩
theorem list6 {α : Type} {cs : List α} (h : cs.length = 6) : ∃ c0 c1 c2 c3 c4 c5, cs = [c0, c1, c2, c3, c4, c5] := by
  match cs, h with
  | [c0, c1, c2, c3, c4, c5], _ => exact ⟨c0, c1, c2, c3, c4, c5, rfl⟩
theorem wf_u64 {n : Int} (h : (Lit.int .u64 n).wf = true) : 0 ≤ n ∧ n < 18446744073709551616 := by
  simp [Lit.wf, IntKind.min, IntKind.max, IntKind.signed, IntKind.bits] at h; omega
set_option maxRecDepth 100000 in
theorem res_of {fuel : Nat} {cs : List Value} {x : DataW H × List MemPlace} (hf : DataW.trod enc Tryz.prog w 0 (fun _ => true) true fuel 37 cs = some x) :
    ∃ r : RC, cs = r.cs ∧ r.Ok (fun b => b < w.heap.size) w := by
  obtain ⟨y0, y1, y2, y3, n, -, hl, h0, h1, h2, h3⟩ := trod_struct4 Tryz.underlying37 hf
  obtain ⟨c0, c1, c2, c3, rfl⟩ := list4 (hl.trans (by kernel_rfl))
  rw [show ∀ (a b c d : Value), (([a, b, c, d] : List Value).drop 0).take (Tryz.prog.cellsOf 33) = [a] from fun a b c d => by rw [show Tryz.prog.cellsOf 33 = 1 by kernel_rfl]; rfl] at h0
  rw [show ∀ (a b c d : Value), (([a, b, c, d] : List Value).drop 1).take (Tryz.prog.cellsOf 4) = [b] from fun a b c d => by rw [show Tryz.prog.cellsOf 4 = 1 by kernel_rfl]; rfl] at h1
  rw [show ∀ (a b c d : Value), (([a, b, c, d] : List Value).drop 2).take (Tryz.prog.cellsOf 34) = [c] from fun a b c d => by rw [show Tryz.prog.cellsOf 34 = 1 by kernel_rfl]; rfl] at h2
  rw [show ∀ (a b c d : Value), (([a, b, c, d] : List Value).drop 3).take (Tryz.prog.cellsOf 35) = [d] from fun a b c d => by rw [show Tryz.prog.cellsOf 35 = 1 by kernel_rfl]; rfl] at h3
  obtain ⟨code, q0, -, hw⟩ := DataW.trod_int Tryz.underlying33 h0
  obtain ⟨yes, q1, -⟩ := DataW.trod_bool Tryz.underlying4 h1
  obtain ⟨A, cA, es, q2, r2, o2, m2, p2⟩ := ents_of h2
  obtain ⟨B, cB, cur, q3, r3, m3, p3⟩ := u8s_of h3
  simp only [List.cons.injEq, and_true] at q0 q1 q2 q3
  subst q0 q1 q2 q3
  exact ⟨⟨code, yes, A, es, cA, B, cur, cB⟩, rfl, r2, o2, r3, wf_i64 hw, m2, m3, p2, p3⟩
set_option maxRecDepth 100000 in
theorem act_of {fuel : Nat} {cs : List Value} {x : DataW H × List MemPlace} (hf : DataW.trod enc Tryz.prog w 0 (fun _ => true) true fuel 39 cs = some x) :
    ∃ r : AC, cs = r.cs ∧ r.Ok (fun b => b < w.heap.size) w := by
  obtain ⟨y0, y1, y2, n, -, hl, h0, h1, h2⟩ := trod_struct3 Tryz.underlying39 hf
  obtain ⟨c0, c1, c2, c3, c4, c5, rfl⟩ := list6 (hl.trans (by kernel_rfl))
  rw [show ∀ (a b c d e f : Value), (([a, b, c, d, e, f] : List Value).drop 0).take (Tryz.prog.cellsOf 30) = [a] from fun a b c d e f => by rw [show Tryz.prog.cellsOf 30 = 1 by kernel_rfl]; rfl] at h0
  rw [show ∀ (a b c d e f : Value), (([a, b, c, d, e, f] : List Value).drop 1).take (Tryz.prog.cellsOf 30) = [b] from fun a b c d e f => by rw [show Tryz.prog.cellsOf 30 = 1 by kernel_rfl]; rfl] at h1
  rw [show ∀ (a b c d e f : Value), (([a, b, c, d, e, f] : List Value).drop 2).take (Tryz.prog.cellsOf 37) = [c, d, e, f] from fun a b c d e f => by rw [show Tryz.prog.cellsOf 37 = 4 by kernel_rfl]; rfl] at h2
  obtain ⟨a, q0, -, hw0⟩ := DataW.trod_int Tryz.underlying30 h0
  obtain ⟨b, q1, -, hw1⟩ := DataW.trod_int Tryz.underlying30 h1
  obtain ⟨r, q2, ho⟩ := res_of h2
  have hw0 := wf_u64 hw0
  have hw1 := wf_u64 hw1
  simp only [List.cons.injEq, and_true] at q0 q1
  subst q0 q1
  refine ⟨⟨a.toNat, b.toNat, r⟩, ?_, by show a.toNat < 18446744073709551616; omega, by show b.toNat < 18446744073709551616; omega, ho⟩
  unfold AC.cs
  rw [← q2, show ((a.toNat : Nat) : Int) = a by omega, show ((b.toNat : Nat) : Int) = b by omega]
set_option maxRecDepth 100000 in
/-- Acts that come in. -/
theorem open_acts (hv : Value.okWide Tryz.prog w .any base 22 v) (h : DataW.Trod enc Tryz.prog w 0 (fun _ => true) true 22 v d p) : ∃ A c xs, v = .slice A (xs : List AC).length c ∧ Rd (fun b => b < w.heap.size) w 6 AC.cs A xs ∧ (∀ x ∈ xs, x.Ok (fun b => b < w.heap.size) w) ∧ xs.length ≤ maxLen ∧ xs.length ≤ c := by
  obtain ⟨a0, len, cap, rfl⟩ := okWide_slice Tryz.underlying22 hv
  obtain ⟨fuel, hf⟩ := h
  rcases open_slice Tryz.underlying22 hf with h0 | ⟨a, l, c, m, n, D, Pl, hcs, hb, hl, hm, hmm, hx, hi⟩
  · have hcs := h0.1
    simp [Value.cells] at hcs
    obtain ⟨rfl, rfl, rfl⟩ := hcs
    exact ⟨none, 0, [], rfl, Rd.nil _ _ _ _ _, fun _ h => (by cases h), by simp [maxLen], by simp⟩
  · simp [Value.cells] at hcs
    obtain ⟨rfl, rfl, rfl⟩ := hcs
    have hlm : len ≤ m := by rw [hmm]; split <;> omega
    obtain ⟨xs, hxl, hc⟩ := exists_list (fun i (e : AC) => e.Ok (fun b => b < w.heap.size) w ∧ ∀ j u, e.cs[j]? = some u → w.cell? (a.add (i * 6 + j)) = some u) len (fun i hil => by
      obtain ⟨cs', hc, ht'⟩ := hi i (by omega)
      rw [show Tryz.prog.cellsOf 39 = 6 by kernel_rfl] at hc
      obtain ⟨r, rfl, ho⟩ := act_of ht'
      obtain ⟨_, hcl, hat⟩ := World.cells?_some hc
      refine ⟨r, ho, fun j u hu => ?_⟩
      have hj : j < 6 := (List.getElem?_eq_some_iff.1 hu).1
      have := hat j hj
      rw [hu] at this
      rw [← Go.Deep.add_add, this])
    refine ⟨some a, cap, xs, by rw [hxl], fun h0 => ?_, fun x hxm => ?_, by omega, by omega⟩
    · have hz : w.cell? (a.add (0 * 6 + 0)) = some _ := (hc 0 h0).2 0 _ rfl
      obtain ⟨b, off, spot⟩ := a
      have hspot : spot = none := by simpa [Addr.add] using World.cell?_spot hz
      subst hspot
      refine ⟨b, off, rfl, ?_, fun k hk j u hu => ?_⟩
      · have := World.block_lt_of_cell? w _ hz; simpa [Addr.add] using this
      · have := (hc k hk).2 j u hu
        rw [addr_add] at this
        rwa [Nat.add_assoc]
    · obtain ⟨k, hk, rfl⟩ := List.getElem_of_mem hxm
      exact (hc k hk).1
end
end Go.Proofs.YtmalclclopnlnaaGreat
