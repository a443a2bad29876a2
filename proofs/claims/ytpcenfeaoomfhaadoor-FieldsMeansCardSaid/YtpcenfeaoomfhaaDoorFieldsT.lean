/-
  The law FieldsCodes: its walk.
-/
import Derived.Test.YtpcenfeaoomfhaaDoorFieldsS
import Derived.Test.YtpcenfeaoomfhaaDoorFieldsF
import Derived.Test.YtpcenfeaoomfhaaDoorFieldsD
namespace Go.Proofs.YtpcenfeaoomfhaaDoor
open Go.RowKit Go.Shelf
attribute [local go_sem] Oper.semAt_some

def rowL : Option (List Nat) → List Int | none => [] | some ns => natI ns
theorem RowV.rd {w w' : World} {v : Value} {o : Option (List Nat)} (h : RowV w w' v o) : ∃ A c, v = .tuple #[.slice A (rowL o).length c, .bool o.isSome] ∧ Rd (fun b => w.heap.size ≤ b ∧ b < w'.heap.size) w' 1 csI A (rowL o) ∧ (rowL o).length ≤ maxLen := by
  cases o with
  | none => exact ⟨none, 0, h, Rd.nil _ _ _ _ _, by simp [rowL, maxLen]⟩
  | some ns =>
    obtain ⟨s, rfl, hown⟩ := h
    obtain ⟨A, c, rfl, hr, hfr, hml⟩ := hown.rd csI_len
    exact ⟨A, c, rfl, hr.mono hfr, hml⟩

theorem rowC {f : FuncId} {args : Array Value} {X : World} {o : Option (List Nat)} (h : Calls Tryd.prog f args X fun e w' => ∃ v, e = .returned v ∧ RowV X w' v o ∧ Mod (fun _ => False) X w') :
    Calls Tryd.prog f args X fun e w' => ∃ A c, e = .returned (.tuple #[.slice A (rowL o).length c, .bool o.isSome]) ∧ Rd (fun b => X.heap.size ≤ b ∧ b < w'.heap.size) w' 1 csI A (rowL o) ∧ (rowL o).length ≤ maxLen ∧ Mod (fun _ => False) X w' := by
  refine h.mono ?_
  rintro e w' ⟨v, he, hv, hm⟩
  obtain ⟨A, c, rfl, h1, h2⟩ := hv.rd
  exact ⟨A, c, he, h1, h2, hm⟩
set_option maxRecDepth 100000 in
set_option maxHeartbeats 4000000 in
theorem fieldsCodes_any (l : Bs) (r : Int) (A : Option Addr) (c : Nat) (xs : List Int) (w : World) (hmx : MaxVar w) (hA : Rd (fun b => b < w.heap.size) w 1 csI A xs) : Calls Tryd.prog 5 #[.string ⟨l.toArray⟩, .int .i32 r, .slice A xs.length c] w fun e w' => e = .returned (.bool true) ∧ Mod (fun _ => False) w w' := by
  have HMX := Lib.hid (fun X (hX : Mod (fun _ => False) w X) => hmx.mod hX id)
  have HA := Lib.hid (fun X (hX : Mod (fun _ => False) w X) => (hA.mod hX (fun b hb => ⟨hb, id⟩)).mono (D' := fun b => b < X.heap.size) fun b hb => Nat.lt_of_lt_of_le hb hX.size)
  have HK := Lib.hid (fun X (hX : Mod (fun _ => False) w X) => known_any X (hmx.mod hX id))
  obtain ⟨n, hn⟩ : ∃ n, n = xs.length := ⟨_, rfl⟩
  rw [← hn]
  have HN := Lib.hid hn
  clear hmx hA hn
  by_cases hl : 9000 < l.length
  · go_enter Tryd.func5, Tryd.ntmps5
    go_wp2_with (go_at_call 6; refine (HK.out _ (Mod.refl _ _)).mono ?_; rintro e w1 ⟨rfl, hm⟩)
    go_ret
    exact ⟨rfl, hm⟩
  by_cases hx : 300 < n
  · go_enter Tryd.func5, Tryd.ntmps5
    go_wp2_with (go_at_call 6; refine (HK.out _ (Mod.refl _ _)).mono ?_; rintro e w1 ⟨rfl, hm⟩)
    go_ret
    exact ⟨rfl, hm⟩
  have H1 := Lib.hid (fun X => fcode_any l X (by omega))
  have H2 := Lib.hid (fun X => rcode_any l X (by omega))
  have H3 := Lib.hid (fun X (hX : Mod (fun _ => False) w X) => frange_any l X (HMX.out X hX) (by omega))
  have H4 := Lib.hid (fun X => rrange_any l X (by omega))
  have H5 := Lib.hid (fun X => frow_any l X (by omega))
  have H6 := Lib.hid (fun X => rrow_any l X (by omega))
  have H7 := Lib.hid (fun X => fctext_any r X)
  have H8 := Lib.hid (fun X => rctext_any r X)
  have H9 := Lib.hid (fun X (hX : Mod (fun _ => False) w X) => frtext_any _ A c xs X (HA.out X hX) (by rw [← HN.out]; omega) (fun b hb => hb))
  have H10 := Lib.hid (fun X (hX : Mod (fun _ => False) w X) => rrtext_any _ A c xs X (HA.out X hX) (by rw [← HN.out]; omega) (fun b hb => hb))
  rw [← HN.out] at H9 H10
  unfold codeV at H1 H2
  unfold rangeV at H3 H4
  have H5 := Lib.hid (fun X => rowC (H5.out X))
  have H6 := Lib.hid (fun X => rowC (H6.out X))
  generalize (rowOf l).isSome = rb at *
  generalize rowL (rowOf l) = rx at *
  obtain ⟨rn, hrn⟩ : ∃ rn, rn = rx.length := ⟨_, rfl⟩
  rw [← hrn] at H5 H6
  have HRN := Lib.hid hrn
  clear hrn
  generalize codeOf l = oc at *
  generalize (oc.getD 0) = ov at *
  generalize oc.isSome = ob at *
  generalize rangeOf l = og at *
  generalize (og.getD (0, 0)).1 = g1 at *
  generalize (og.getD (0, 0)).2 = g2 at *
  generalize og.isSome = g3 at *
  generalize ctext r = ct at *
  generalize rtext xs = rt at *
  go_enter Tryd.func5, Tryd.ntmps5
  go_wp2_with (first
    | (go_at_call 10
       refine (H1.out _).mono ?_
       rintro e w1 ⟨rfl, hm⟩
       have M1 := Lib.hid hm
       clear hm)
    | (go_at_call 15; refine (H2.out _).mono ?_; rintro e w2 ⟨rfl, rfl⟩)
    | (go_at_call 16
       refine (H3.out _ M1.out).mono ?_
       rintro e w3 ⟨rfl, hm⟩
       have M3 := Lib.hid (M1.out.trans' hm)
       clear hm)
    | (go_at_call 17; refine (H4.out _).mono ?_; rintro e w4 ⟨rfl, rfl⟩)
    | (go_at_call 12
       refine (H5.out _).mono ?_
       rintro e w5 ⟨A5, c5, rfl, hr5, hml, hm⟩
       have R5 := Lib.hid hr5
       have M5 := Lib.hid (M3.out.trans' hm)
       have HML := Lib.hid hml
       clear hm hr5 hml)
    | (go_at_call 18
       refine (H6.out _).mono ?_
       rintro e w6 ⟨A6, c6, rfl, hr6, -, hm⟩
       have hS := same_any _ _ A5 A6 c5 c6 rx rx w6 (R5.out.mod hm (fun b hb => ⟨hb.2, id⟩)) hr6 (by rw [← HRN.out]; exact HML.out) (by rw [← HRN.out]; exact HML.out) (fun b hb => Nat.lt_of_lt_of_le hb.2 hm.size) (fun b hb => hb.2)
       rw [← HRN.out] at hS
       simp only [decide_true] at hS
       have HS := Lib.hid hS
       have M6 := Lib.hid (M5.out.trans' hm)
       clear hm hr6 hS)
    | (go_at_call 14
       refine HS.out.mono ?_
       rintro e w7 ⟨rfl, hm⟩
       have M7 := Lib.hid (M6.out.trans' hm)
       clear hm)
    | (go_at_call 11
       refine (H7.out _).mono ?_
       rintro e w8 ⟨rfl, hm⟩
       have M8 := Lib.hid (M7.out.trans' hm)
       clear hm)
    | (go_at_call 19
       refine (H8.out _).mono ?_
       rintro e w9 ⟨rfl, hm⟩
       have M9 := Lib.hid (M8.out.trans' hm)
       clear hm)
    | (go_at_call 13
       refine (H9.out _ M9.out).mono ?_
       rintro e w10 ⟨rfl, hm⟩
       have M10 := Lib.hid (M9.out.trans' hm)
       clear hm)
    | (go_at_call 20
       refine (H10.out _ M10.out).mono ?_
       rintro e w11 ⟨rfl, hm⟩
       have M11 := Lib.hid (M10.out.trans' hm)
       clear hm)
    | (go_at_call 6
       refine (HK.out _ M11.out).mono ?_
       rintro e w12 ⟨rfl, hm⟩
       have M12 := Lib.hid (M11.out.trans' hm)
       clear hm)
    | fail)
  go_ret
  exact ⟨rfl, M12.out⟩
end Go.Proofs.YtpcenfeaoomfhaaDoor
