/-
  The document's Sorted, Change.
-/
import Derived.Test.YtccnkcaagigceaaEntryK
namespace Go.Proofs.Ytccnkcaagigceaa
open Go.RowKit Go.Shelf
attribute [local go_sem] Oper.semAt_some

/-- A slice that reads as a list. -/
def Sl (w : World) (v : Value) (xs : List At) : Prop := ∃ A c, v = .slice A xs.length c ∧ Rd (fun b => b < w.heap.size) w 2 At.cs A xs ∧ xs.length ≤ c
theorem Sl.nil (w : World) : Sl w (.slice none 0 0) [] := ⟨none, 0, rfl, Rd.nil _ _ _ _ _, Nat.le_refl _⟩
theorem Sl.mod {w w' : World} {v : Value} {xs : List At} (h : Sl w v xs) (hm : Mod (fun _ => False) w w') : Sl w' v xs := by
  obtain ⟨A, c, h1, h2, h3⟩ := h
  exact ⟨A, c, h1, (h2.mod hm (fun b hb => ⟨hb, id⟩)).mono fun b hb => Nat.lt_of_lt_of_le hb hm.size, h3⟩
theorem rputS_any (v : Value) (xs : List At) (a : At) (w : World) (h : Sl w v xs) (hl : xs.length ≤ 1099511627776) : Calls Try.prog 43 #[v, a.val] w fun e w' => ∃ v', e = .returned v' ∧ Sl w' v' (putA a xs) ∧ Mod (fun _ => False) w w' := by
  obtain ⟨A, c, rfl, h2, h3⟩ := h
  exact (rput1_any A c xs a w h2 hl h3).mono fun e w' ⟨A', c', h4, h5, h6, h7⟩ => ⟨_, h4, ⟨A', c', rfl, h5, h6⟩, h7⟩
theorem rsorted_any (A : Option Addr) (c : Nat) (xs : List At) (w : World) (hA : Rd (fun b => b < w.heap.size) w 2 At.cs A xs) (hl : xs.length ≤ 1099511627776) :
    Calls Try.prog 25 #[.slice A xs.length c] w fun e w' => ∃ v, e = .returned v ∧ Sl w' v (sortA xs) ∧ Mod (fun _ => False) w w' := by
  obtain ⟨n, hn⟩ : ∃ n, n = xs.length := ⟨_, rfl⟩
  rw [← hn] at hl ⊢
  have HN := Lib.hid hn
  have HA := Lib.hid (fun X (hX : Mod (fun _ => False) w X) => (hA.mod hX (fun b hb => ⟨hb, id⟩)))
  have HP := Lib.hid (fun v ys a X h h2 => rputS_any v ys a X h h2)
  unfold At.val at HP
  clear hn hA
  go_enter Try.func25, Try.ntmps25
  go_wp2
  go_loopw [3, 4] (fun o i wr => ∃ k : Nat, k ≤ n ∧ i = .int .i64 k ∧ Sl wr o (sortA (xs.take k)) ∧ Mod (fun _ => False) w wr) (fun _ i _ => n - (intOf i).toNat)
  case atStart => exact ⟨0, by omega, rfl, Sl.nil _, Mod.refl _ _⟩
  case round =>
    obtain ⟨k, hk, rfl, hs, hm⟩ := hrel
    have HS := Lib.hid hs
    have HM := Lib.hid hm
    clear hs hm
    by_cases hlt : k < n
    · have hkx : k < xs.length := by rw [← HN.out]; exact hlt
      obtain ⟨b1, o1, rfl, -, p0, p1⟩ := rd2 (HA.out _ HM.out) hkx
      obtain ⟨x, hx⟩ : ∃ x, x = xs[k] := ⟨_, rfl⟩
      rw [← hx] at p0 p1
      have HC := Lib.hid (HP.out u3 (sortA (xs.take k)) x wr HS.out (by have := sortA_len (xs.take k); rw [List.length_take] at this; omega))
      have HX := Lib.hid (show sortA (xs.take (k + 1)) = putA x (sortA (xs.take k)) by rw [List.take_succ_eq_append_getElem hkx, sortA_snoc, ← hx])
      clear hx
      go_wp2_with (first
        | ((with_reducible refine HC.out.mono ?_)
           rintro e w2 ⟨v2, rfl, hs2, hm2⟩
           have HS2 := Lib.hid hs2
           have HM2 := Lib.hid (HM.out.trans' hm2)
           clear hs2 hm2)
        | fail)
      exact ⟨⟨k + 1, by omega, by go_num, by rw [HX.out]; exact HS2.out, HM2.out⟩, by simp only [intOf]; omega⟩
    · obtain rfl : k = n := by omega
      have hys : xs.take k = xs := List.take_of_length_le (by rw [← HN.out]; exact Nat.le_refl _)
      rw [hys] at HS
      clear hys
      go_wp2
      go_ret
      exact ⟨_, rfl, HS.out, HM.out⟩
end Go.Proofs.Ytccnkcaagigceaa
