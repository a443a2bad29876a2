/-
  The iterators of the law WeighWalk.
-/
import Derived.Test.YtiojlpjpihmgdaaWeighB2
namespace Go.Proofs.Ytiojlpjpihmgdaa
open Go.RowKit Go.Shelf
attribute [local go_sem] Oper.semAt_some

def askS (Ba : Nat) (k : Nat) (W : World) : Prop := W.heap[Ba]? = some (.cells #[.int .i64 (k : Int)] 3 (0, 0))
theorem askS_stab (Ba : Nat) : ∀ k W W', askS Ba k W → Agree (fun b => b = Ba) W W' → askS Ba k W' := fun _ _ _ h hA => hp_agree h hA rfl

set_option maxHeartbeats 1000000 in
theorem clos_iter (Bs Ba : Nat) (A : Option Addr) (c : Nat) (xs : List El) (D : Nat → Prop) (w : World) (hl : xs.length ≤ maxLen)
    (hBs : w.cell? ⟨Bs, 0, none⟩ = some (.slice A xs.length c)) (hD : D Bs) (hDl : ∀ b, D b → b < w.heap.size) (hDa : ¬ D Ba) (hA : Rd D w 4 El.cs A xs) :
    IterG Try.prog 9 #[.pointer (some ⟨Bs, 0, none⟩), .pointer (some ⟨Ba, 0, none⟩)] (elIt xs D (fun b => b = Ba) (askS Ba)) w := by
  intro l J Jx C0 W hAg hEl hC hJ hJx hY h0 hs0
  unfold maxLen at hl
  have hBs' := (hAg.cell (p := ⟨Bs, 0, none⟩) hD).trans hBs
  have hA' := hA.keep hAg
  have hBa : Ba < W.heap.size := hEl Ba rfl
  have hBsl : Bs < W.heap.size := Nat.lt_of_lt_of_le (hDl Bs hD) hAg.size
  have hne : Bs ≠ Ba := fun e => hDa (e ▸ hD)
  have hDW : ∀ b, D b → b < W.heap.size ∧ ¬ (C0 b ∨ b = Ba) := fun b hb => ⟨Nat.lt_of_lt_of_le (hDl b hb) hAg.size, fun h => h.elim (fun h => (hC b h).2.1 hb) (fun h => hDa (h ▸ hb))⟩
  clear hA hBs hAg
  obtain ⟨n, hn⟩ : ∃ n, n = xs.length := ⟨_, rfl⟩
  rw [← hn] at hl hBs'
  have HN := Lib.hid hn
  have HDW := Lib.hid hDW
  have HDB := Lib.hid hD
  clear hn hDW hD
  refine callsIn_wide.1 (callsIn_of_wp (n := 0) (F := Fence.wide) Try.func9 rfl trivial ?_ rfl)
  simp only [Try.ntmps9, List.size_toArray, List.length_cons, List.length_nil, Nat.reduceAdd, Nat.reduceSub, Array.replicate_succ, Array.replicate_zero, List.push_toArray, List.append_toArray, List.nil_append, List.cons_append]
  gi_wp2
  gi_loopw [4] (fun i wr => ∃ (k : Nat) (C : Nat → Prop), k ≤ n ∧ i = .int .i64 k ∧ J k C wr ∧ askS Ba k wr ∧ Mod (fun b => C0 b ∨ b = Ba) W wr ∧ (∀ b, C b → b < wr.heap.size ∧ (C0 b ∨ W.heap.size ≤ b)))
    (fun i _ => n - (intOf i).toNat)
  case atStart => exact ⟨0, C0, Nat.zero_le _, rfl, h0, hs0, Mod.refl _ _, fun b hb => ⟨(hC b hb).1, .inl hb⟩⟩
  case round =>
    obtain ⟨k, C, hk, rfl, hJs, hS, hm, hb⟩ := hrel
    have s0 := (hm.cell (p := ⟨Bs, 0, none⟩) (HDW.out _ HDB.out).1 (HDW.out _ HDB.out).2).trans hBs'
    have a0 := hp_cell hS 0
    have af := hp_free hS 0
    by_cases hlt : k < n
    · have hkl : k < xs.length := by rw [← HN.out]; exact hlt
      obtain ⟨b, off, rfl, hd, hc⟩ := hA'.keep (hm.agree HDW.out) (by omega)
      have hnb : b ≠ Ba := fun e => hDa (e ▸ hd)
      obtain ⟨x, hx⟩ : ∃ x, x = xs[k] := ⟨_, rfl⟩
      have c0 : wr.cell? ⟨b, off + k * 4, none⟩ = some (.int .u16 x.P) := by rw [hx]; exact hc k hkl 0 _ rfl
      have c1 : wr.cell? ⟨b, off + k * 4 + 1, none⟩ = some (.int .u16 x.S) := by rw [hx]; exact hc k hkl 1 _ rfl
      have c2 : wr.cell? ⟨b, off + k * 4 + 2, none⟩ = some (.int .u16 x.T) := by rw [hx]; exact hc k hkl 2 _ rfl
      have c3 : wr.cell? ⟨b, off + k * 4 + 3, none⟩ = some (.bool x.V) := by rw [hx]; exact hc k hkl 3 _ rfl
      have hCA : ¬ C Ba := fun h => by rcases (hb Ba h).2 with h | h; exact (hC Ba h).2.2 rfl; omega
      have hbl := hp_lt hS
      obtain ⟨fn, tmps, assign, body, hy, hR⟩ := hY k hkl #[x.v] (fun _ => False) C (wr.setCell ⟨Ba, 0, none⟩ (.int .i64 ((k : Int) + 1)))
        (hJ _ _ _ _ hJs ⟨rfl, rfl, rfl, by simp [World.setCell], fun b' h => (Mod.setCell (C := fun b => b = Ba) (Mod.refl _ wr) (.inl rfl) _).block b' (hb b' h).1 (fun e => hCA (e ▸ h))⟩)
        (hp_eq (hp_set hS 0 _) (by simp)) ⟨x, by rw [hx]; exact List.getElem?_eq_getElem hkl, rfl⟩ (fun _ h => h.elim) (hm.setCell (.inl (.inr rfl)) _) (fun b h => ⟨by have := (hb b h).1; simpa [World.setCell] using this, (hb b h).2⟩)
      simp only [El.v] at hy
      clear hY hc hA' hx
      have HM := Lib.hid hm
      have HB := Lib.hid hb
      clear hm hb
      gi_wp2
      refine ⟨rfl, (hR _).mono ?_⟩
      have M1 : Mod (fun b => C0 b ∨ b = Ba) W (wr.setCell ⟨Ba, 0, none⟩ (.int .i64 ((k : Int) + 1))) := HM.out.setCell (.inl (.inr rfl)) _
      have S1 : askS Ba (k + 1) (wr.setCell ⟨Ba, 0, none⟩ (.int .i64 ((k : Int) + 1))) := hp_eq (hp_set hS 0 _) (by simp)
      have hsz := HM.out.size
      rintro e W3 (⟨rfl, C', hJ3, hm3, hb3⟩ | ⟨rfl, C', hJ3, hm3, hb3⟩)
      all_goals
        have S3 : askS Ba (k + 1) W3 := hp_mod S1 hm3 hCA
        have M3 := M1.trans hm3 (fun b h => (HB.out b h).2.elim (fun h => .inl (.inl h)) .inr)
        have B3 : ∀ b, C' b → b < W3.heap.size ∧ (C0 b ∨ W.heap.size ≤ b) := fun b h => ⟨(hb3 b h).1, (hb3 b h).2.elim (fun h => (HB.out b h).2) (fun h => .inr (by simp [World.setCell] at h; omega))⟩
      · gi_wp2
        go_roundw
        case rel => exact ⟨k + 1, C', by omega, by simp, hJ3, S3, M3, B3⟩
        case measure => simp [intOf]; omega
      · gi_wp2
        refine bodyPost_ret (results_none rfl _ _ _) rfl ?_
        exact ⟨⟨_, rfl⟩, .inr ⟨k + 1, by omega, by show k + 1 ≤ xs.length; omega, S3, C', hJ3, M3, B3⟩⟩
    · obtain rfl : k = n := by omega
      gi_wp2
      go_end0
      refine ⟨⟨_, rfl⟩, .inl ⟨?_, C, ?_, hm, hb⟩⟩
      · show askS Ba xs.length wr
        rw [← HN.out]; exact hS
      · show J xs.length C wr
        rw [← HN.out]
        exact hJs
end Go.Proofs.Ytiojlpjpihmgdaa
