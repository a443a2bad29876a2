/-
  The law EntryMay: its walk.
-/
import Derived.Test.YtccnkcaagigceaaEntryN
namespace Go.Proofs.Ytccnkcaagigceaa
open Go.RowKit Go.Shelf
attribute [local go_sem] Oper.semAt_some

set_option maxRecDepth 100000 in
set_option maxHeartbeats 4000000 in
theorem entryMay_any (nm : Bs) (A : Option Addr) (c : Nat) (xs : List At) (w : World) (hnm : nm.length ≤ 9223372036854775807) (hA : Rd (fun b => b < w.heap.size) w 2 At.cs A xs) (hl : xs.length ≤ maxLen) :
    Calls Try.prog 4 #[.string ⟨nm.toArray⟩, .slice A xs.length c] w fun e w' => e = .returned (.bool true) ∧ Mod (fun _ => False) w w' := by
  have HK := Lib.hid (fun X => known_any X)
  have HMu := Lib.hid (rmuch_any A c xs w hA hl)
  have hFew := Lib.hid (kat1 xs)
  have HA := Lib.hid (fun X (hX : Mod (fun _ => False) w X) => (hA.mod hX (fun b hb => ⟨hb, id⟩)).mono (D' := fun b => b < X.heap.size) fun b hb => Nat.lt_of_lt_of_le hb hX.size)
  obtain ⟨n, hn⟩ : ∃ n, n = xs.length := ⟨_, rfl⟩
  obtain ⟨z, hz⟩ : ∃ z, z = muchB xs := ⟨_, rfl⟩
  rw [← hn] at HMu ⊢
  rw [← hz] at HMu hFew
  have HN := Lib.hid hn
  clear hn hz hA hl
  by_cases h9 : 9000 < nm.length
  · go_enter Try.func4, Try.ntmps4
    go_wp2_with (first
      | (go_at_call 13; refine (HK.out _).mono ?_; rintro e w' ⟨rfl, hm⟩)
      | fail)
    go_ret
    exact ⟨rfl, hm⟩
  have hd9 : decide (9000 < (nm.length : Int)) = false := by rw [decide_eq_false_iff_not]; omega
  cases z
  case' true =>
    go_enter Try.func4, Try.ntmps4
    go_wp2_with (first
      | (go_at_call 14; refine HMu.out.mono ?_; rintro e w1 ⟨rfl, hm1⟩)
      | (go_at_call 13; refine (HK.out _).mono ?_; rintro e w' ⟨rfl, hm⟩)
      | fail)
    go_ret
    exact ⟨rfl, hm1.trans' hm⟩
  have hfew := hFew.out rfl
  have hn120 : n ≤ 120 := by have := HN.out; have := hfew.1; omega
  have HAt1 := Lib.hid (fun x (hx : x ∈ xs) X => eattr_any x X (hfew.fitA x hx).1 (hfew.fitA x hx).2)
  have HAt2 := Lib.hid (fun x (hx : x ∈ xs) X => rattr_any x X (hfew.fitA x hx).1 (hfew.fitA x hx).2)
  have hxl : xs.length ≤ 1099511627776 := by have := hfew.1; omega
  have HN1 := Lib.hid (fun X => ename_any nm X hnm)
  have HN2 := Lib.hid (fun X => rname_any nm X hnm)
  have HS1 := Lib.hid (fun X (hX : Mod (fun _ => False) w X) => emays_any A c xs X (HA.out X hX) hxl hfew.fitA)
  have HS2 := Lib.hid (fun X (hX : Mod (fun _ => False) w X) => rmays_any A c xs X (HA.out X hX) hxl hfew.fitA)
  have HE1 := Lib.hid (fun X (hX : Mod (fun _ => False) w X) => eentry_any nm A c xs X hnm (HA.out X hX) hxl hfew.fitA)
  have HE2 := Lib.hid (fun X (hX : Mod (fun _ => False) w X) => rentry_any nm A c xs X hnm (HA.out X hX) hxl hfew.fitA)
  rw [← HN.out] at HS1 HS2 HE1 HE2
  unfold At.val at HAt1 HAt2
  generalize mayNm nm = z1 at *
  generalize mayAs xs = z2 at *
  generalize mayE nm xs = z3 at *
  clear hxl hfew hFew
  go_enter Try.func4, Try.ntmps4
  go_wp2_with (first
    | (go_at_call 14; refine HMu.out.mono ?_; rintro e w1 ⟨rfl, hm1⟩)
    | fail)
  have HB := Lib.hid (show (w1.alloc (.cells #[.string ⟨nm.toArray⟩, .slice A n c] 35)).heap[w1.heap.size]? = some (.cells #[.string ⟨nm.toArray⟩, .slice A n c] 35 (0, 0)) from hp_new _ _)
  have HM1 := Lib.hid (hm1.alloc (.cells #[.string ⟨nm.toArray⟩, .slice A n c] 35))
  go_loopw [6] (fun i wr => ∃ k : Nat, k ≤ n ∧ i = .int .i64 k ∧ wr.heap[w1.heap.size]? = some (.cells #[.string ⟨nm.toArray⟩, .slice A n c] 35 (0, 0)) ∧ Mod (fun _ => False) w wr) (fun i _ => n - (intOf i).toNat)
  case atStart => exact ⟨0, by omega, rfl, by (repeat' (first | exact HB.out | exact hp_new _ _ | refine hp_alloc ?_ _ | refine hp_drew ?_ | refine hp_drewN ?_ _ | apply hp_set | refine hp_far ?_ (by first | (simp; omega) | (simp; done)) _)), by have := HM1.out; (repeat' (first | exact Mod.refl _ _ | assumption | refine Mod.alloc ?_ _ | refine Mod.drew ?_ | refine Mod.drewN ?_ _ | refine Mod.setCell ?_ (by first | exact Or.inl rfl | (right; simp; done) | (right; simp; omega) | (left; simp; done)) _))⟩
  case round =>
    obtain ⟨k, hk, rfl, hb, hm⟩ := hrel
    have HB2 := Lib.hid hb
    have HM := Lib.hid hm
    clear hb hm
    by_cases hlt : k < n
    · have hkx : k < xs.length := by rw [← HN.out]; exact hlt
      obtain ⟨b1, o1, rfl, -, p0, p1⟩ := rd2 (HA.out _ HM.out) hkx
      obtain ⟨x, hx⟩ : ∃ x, x = xs[k] := ⟨_, rfl⟩
      rw [← hx] at p0 p1
      have hin : x ∈ xs := by rw [hx]; exact List.getElem_mem hkx
      have HC1 := Lib.hid (fun X => HAt1.out x hin X)
      have HC2 := Lib.hid (fun X => HAt2.out x hin X)
      clear hx hin
      generalize mayA x = m at *
      obtain ⟨xT, xV⟩ := x
      simp only at p0 p1 HC1 HC2
      have q0 := cell_regrown p0
      have q1 := cell_regrown p1
      have hmm : (m != m) = false := by simp
      clear p0 p1
      go_wp2
      refine wp_region_quiet_below (by kernel_rfl) (by kernel_rfl) ?_
      repeat (go_big_quiet_step ((first | (go_at_call 10; exact regM fun X _ => HC1.out X) | (go_at_call 15; exact regM fun X _ => HC2.out X) | fail)))
      refine wpQuiet_nil ?_
      intro W1 hW1
      have HM3 := Lib.hid (mod_of_regrown hW1)
      clear hW1 q0 q1
      go_wp2
      exact ⟨⟨k + 1, by omega, by go_num, hp_mod HB2.out HM3.out id, HM.out.trans' HM3.out⟩, by simp only [intOf]; omega⟩
    · obtain rfl : k = n := by omega
      have hb0 := cell_regrown (hp_cell HB2.out 0)
      have hb1 := cell_regrown (hp_cell HB2.out 1)
      have h1 : (z1 == z1) = true := by simp
      have h2 : (z2 == z2) = true := by simp
      have h3 : (z3 == z3) = true := by simp
      go_wp2
      refine wp_region_quiet_below (by kernel_rfl) (by kernel_rfl) ?_
      repeat (go_big_quiet_step ((first
        | (go_at_call 9; exact regM fun X _ => HN1.out X)
        | (go_at_call 16; exact regM fun X _ => HN2.out X)
        | (go_at_call 11; exact regM fun X hX => HS1.out X (HM.out.trans' hX))
        | (go_at_call 17; exact regM fun X hX => HS2.out X (HM.out.trans' hX))
        | (go_at_call 18; exact regM fun X hX => HE1.out X (HM.out.trans' hX))
        | (go_at_call 19; exact regM fun X hX => HE2.out X (HM.out.trans' hX))
        | (go_at_call 13; exact regM fun X _ => HK.out X)
        | fail)))
      refine wpQuiet_nil ?_
      intro W1 hW1
      have HM3 := Lib.hid (mod_of_regrown hW1)
      clear hW1 hb0 hb1
      go_wp2
      go_ret
      exact ⟨rfl, HM.out.trans' HM3.out⟩
end Go.Proofs.Ytccnkcaagigceaa
