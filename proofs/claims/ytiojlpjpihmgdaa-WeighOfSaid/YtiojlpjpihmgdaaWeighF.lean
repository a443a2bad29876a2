/-
  The law WeighOf: its walk.
-/
import Derived.Test.YtiojlpjpihmgdaaWeighE
namespace Go.Proofs.Ytiojlpjpihmgdaa
open Go.RowKit

set_option maxRecDepth 100000 in
set_option maxHeartbeats 4000000 in
theorem weighOf_any (sh : Bool) (lv : Int) (A : Option Addr) (c : Nat) (xs : List El) (w : World) (hA : Rd (fun b => b < w.heap.size) w 4 El.cs A xs) (hl : xs.length ≤ maxLen) :
    Calls Try.prog 5 #[.agg #[.bool sh, .int .i64 lv], .slice A xs.length c] w fun e w' => e = .returned (.bool true) ∧ Mod (fun _ => False) w w' := by
  have HS := Lib.hid (fun W (h : Rd (fun b => b < w.heap.size) W 4 El.cs A xs) => sound_any _ A c xs W h hl)
  by_cases hs : soundL xs = true
  · have hlen : xs.length ≤ 200 := by simp [soundL] at hs; exact hs.2
    have HR := Lib.hid (weighs_refs sh lv xs hs)
    rw [hs] at HS
    obtain ⟨N, hN⟩ : ∃ N, N = xs.length := ⟨_, rfl⟩
    rw [← hN] at hlen HS ⊢
    have HN := Lib.hid hN
    obtain ⟨ws, hws⟩ : ∃ ws, ws = refs sh lv xs := ⟨_, rfl⟩
    have hwl : ws.length ≤ N := by
      have h1 := weighs_len sh lv xs
      rw [HR.out, ← hws, ← hN] at h1
      exact h1
    have HRW := Lib.hid (show weighs sh lv xs = ws by rw [HR.out, hws])
    have HWS := Lib.hid hws
    obtain ⟨M, hM⟩ : ∃ M, M = ws.length := ⟨_, rfl⟩
    have HM := Lib.hid hM
    have hMN : M ≤ 200 := by omega
    clear hN hws hs hl hM hwl HR
    go_enter Try.func5, Try.ntmps5
    go_wp2_with (first
      | (go_at_call 6
         refine (HS.out _ (hA.below ((Below.refl _ w).alloc (Nat.le_refl _) _) fun b h => h)).mono ?_
         rintro e w1 ⟨rfl, rfl⟩)
      | (at_builtin
         refine wpList_app (base := w.heap.size + 1) (xs := []) (ys := xs) (D := fun b => b < w.heap.size) (v := .slice none 0 0) rfl _ (.tmp 13) rfl els_t El.cs_len El.cs_one rfl (OwnS.nil _ _ _ _ _) c rfl HN.out (hA.below ((Below.refl _ w).alloc (Nat.le_refl _) _) fun b h => h) ?_ ?_ ?_ ?_
         · have := HN.out; simp [maxLen]; omega
         · have := HN.out; simp; omega
         · simp
         intro v3 w3 hown3 hm3 _
         obtain ⟨A3, c3, hv3, -, hf3, -⟩ := OwnS.rd hown3 El.cs_len
         rw [List.nil_append, ← HN.out] at hv3
         subst hv3
         rw [List.nil_append] at hown3
         have HM3 := Lib.hid (hm3.mono (C' := fun _ => False) (fun b _ h => by simp [Value.ownBlock] at h))
         have HO3 := Lib.hid hown3
         have s0 : w3.cell? ⟨w.heap.size, 0, none⟩ = some (.bool sh) := (HM3.out.cell (p := ⟨w.heap.size, 0, none⟩) (by simp) id).trans (by simp)
         have s1 : w3.cell? ⟨w.heap.size, 1, none⟩ = some (.int .i64 lv) := (HM3.out.cell (p := ⟨w.heap.size, 1, none⟩) (by simp) id).trans (by simp)
         clear hm3 hown3)
      | (go_at_call 10
         have HRO := rof_any (fun b => b < w.heap.size) sh lv A c xs w3 ((hA.below ((Below.refl _ w).alloc (Nat.le_refl _) _) fun b h => h).mod HM3.out (fun b h => ⟨by simp; omega, id⟩)) (fun b h => by have := HM3.out.size; simp at this; omega) (by have := HN.out; omega)
         rw [← HN.out] at HRO
         refine HRO.mono ?_
         clear HRO
         rintro e w4 ⟨v4, rfl, hv4, hm4⟩
         rw [← HWS.out] at hv4
         obtain ⟨A4, c4, hv4', hr4, hf4, -⟩ := OwnS.rd hv4 Wt.cs_len
         rw [← HM.out] at hv4'
         subst hv4'
         have HM4 := Lib.hid hm4
         have t0 : w4.cell? ⟨w.heap.size, 0, none⟩ = some (.bool sh) := (hm4.cell (p := ⟨w.heap.size, 0, none⟩) (by have := HM3.out.size; simp at this ⊢; omega) id).trans s0
         have t1 : w4.cell? ⟨w.heap.size, 1, none⟩ = some (.int .i64 lv) := (hm4.cell (p := ⟨w.heap.size, 1, none⟩) (by have := HM3.out.size; simp at this ⊢; omega) id).trans s1
         clear hm4 hv4 s0 s1))
    go_loop [7, 8] (fun n i => ∃ k : Nat, k ≤ M ∧ i = .int .i64 k ∧ n = .int .i64 (cntW (ws.take k))) (fun _ i => M - (intOf i).toNat)
    case atStart => exact ⟨0, Nat.zero_le _, rfl, rfl⟩
    case round =>
      obtain ⟨k, hk, rfl, rfl⟩ := hrel
      by_cases hlt : k < M
      · have hkx : k < ws.length := by rw [← HM.out]; exact hlt
        obtain ⟨b, off, rfl, -, hc⟩ := hr4 (by omega)
        obtain ⟨g, hg⟩ : ∃ g, g = ws[k] := ⟨_, rfl⟩
        have h0 : w4.cell? ⟨b, off + k * 4, none⟩ = some (.int .u16 g.a) := by rw [hg]; exact hc k hkx 0 _ rfl
        have h1 : w4.cell? ⟨b, off + k * 4 + 1, none⟩ = some (.int .u16 g.b) := by rw [hg]; exact hc k hkx 1 _ rfl
        have h2 : w4.cell? ⟨b, off + k * 4 + 2, none⟩ = some (.int .u16 g.c) := by rw [hg]; exact hc k hkx 2 _ rfl
        have HSN := Lib.hid (show cntW (ws.take (k + 1)) = cntW (ws.take k) + if g.a = 0 ∧ g.b = 0 ∧ g.c = 0 then 1 else 0 by rw [take_snoc ws k hkx, cntW_snoc, ← hg])
        have hcl : cntW (ws.take k) ≤ k := Nat.le_trans (cntW_le _) (by simp; omega)
        clear hc hg hr4 t0 t1
        go_wp2
        all_goals
          refine ⟨⟨k + 1, by omega, by go_num, ?_⟩, by simp only [intOf]; omega⟩
          rw [HSN.out]
          clear h0 h1 h2
          go_tidy
          first
            | (rw [if_pos (by simp_all)]; go_num)
            | (rw [if_neg (by simp_all)]; go_num)
      · obtain rfl : k = M := by omega
        have hck : ws.take k = ws := List.take_of_length_le (by rw [← HM.out]; exact Nat.le_refl _)
        rw [hck]
        clear hck
        have HRd := Lib.hid (fun X (hX : Mod (fun _ => False) w4 X) => (((OwnS.rd HO3.out El.cs_len).choose_spec.choose_spec.2.1).mod (HM4.out.trans' hX) (fun b hb => ⟨(hf3 b hb).2, id⟩)).mono (D' := fun b => b < X.heap.size) (fun b hb => by have := (hf3 b hb).2; have := HM4.out.size; have := hX.size; omega))
        have hA3 : ∀ X, Mod (fun _ => False) w4 X → Rd (fun b => b < X.heap.size) X 4 El.cs A3 xs := fun X hX => by
          have h := HRd.out X hX
          have he := (OwnS.rd HO3.out El.cs_len).choose_spec.choose_spec.1
          injection he with he1 he2 he3
          rw [← he1] at h
          exact h
        have HOf := Lib.hid (fun X (hX : Mod (fun _ => False) w4 X) => of_any sh lv A3 c3 xs X (hA3 X hX) (by have := HN.out; omega))
        have HIg := Lib.hid (fun X (hX : Mod (fun _ => False) w4 X) => ign_any sh lv A3 c3 xs X (hA3 X hX) (by have := HN.out; omega))
        rw [← HN.out, HRW.out] at HOf HIg
        obtain ⟨bm, hbm⟩ : ∃ bm, bm = (decide (1 ≤ lv) && decide (lv ≤ 4)) := ⟨_, rfl⟩
        have hmay := fun W => (may_any sh lv W).mono (R' := fun e w' => e = .returned (.bool bm) ∧ Mod (fun _ => False) W w') (fun e w' h => ⟨by rw [hbm]; exact h.1, by rw [← h.2]; exact (Mod.refl _ _).alloc _⟩)
        have HMay := Lib.hid hmay
        have HR4 := Lib.hid hr4
        have h04 : w.heap.size < w4.heap.size := by have := HM3.out.size; have := HM4.out.size; simp at *; omega
        have HF4 := Lib.hid hf4
        clear hmay hr4 hA3 HRd hf4
        obtain ⟨d1, hd1⟩ : ∃ d1, decide (1 ≤ lv) = d1 := ⟨_, rfl⟩
        obtain ⟨d2, hd2⟩ : ∃ d2, decide (lv ≤ 4) = d2 := ⟨_, rfl⟩
        rw [hd1, hd2] at hbm
        go_wp2
        cases d1 <;> cases d2 <;> simp only [Bool.and_false, Bool.and_true] at hbm <;> subst hbm
        rotate_left 2
        iterate 2
          · go_region_held3 (fun W => W.cell? ⟨w.heap.size, 0, none⟩ = some (.bool sh) ∧ W.cell? ⟨w.heap.size, 1, none⟩ = some (.int .i64 lv)) (first | exact ⟨t0, t1⟩ | exact ⟨a0, a1⟩ | exact ⟨b0, b1⟩ | exact ⟨d0, d1⟩ | exact ⟨f0, f1⟩ | exact ⟨g0, g1⟩ | fail) (first
              | (go_at_call 11
                 refine (HOf.out _ (Mod.refl _ w4).drew).mono ?_
                 rintro e w5 ⟨v5, rfl, hv5, hm5⟩
                 obtain ⟨A5, c5, hv5', hr5, hf5, -⟩ := OwnS.rd hv5 Wt.cs_len
                 rw [← HM.out] at hv5'
                 subst hv5'
                 have M5 := (Mod.refl (fun _ => False) w4).drew.trans' hm5
                 have a0 := (M5.cell (p := ⟨w.heap.size, 0, none⟩) h04 id).trans t0
                 have a1 := (M5.cell (p := ⟨w.heap.size, 1, none⟩) h04 id).trans t1
                 have HM5 := Lib.hid M5
                 clear hv5 hm5 M5)
              | (go_at_call 12
                 refine (same_any (fun _ => True) (fun _ => True) A5 A4 _ _ _ _ ws ws w5 HM.out HM.out (hr5.mono fun _ _ => trivial) (((HR4.out.mod HM5.out fun b hb => ⟨(HF4.out b hb).2, id⟩)).mono fun _ _ => trivial) (by simp [maxLen]; omega)).mono ?_
                 rw [decide_eq_true rfl]
                 rintro e w6 ⟨rfl, q, rfl⟩
                 have b0 : (w5.drewN q).cell? ⟨w.heap.size, 0, none⟩ = some (.bool sh) := a0
                 have b1 : (w5.drewN q).cell? ⟨w.heap.size, 1, none⟩ = some (.int .i64 lv) := a1)
              | (go_at_call 13
                 refine (HIg.out _ (HM5.out.drewN q)).mono ?_
                 rintro e w7 ⟨rfl, hm7⟩
                 have M7 := (HM5.out.drewN q).trans' hm7
                 have d0 := (M7.cell (p := ⟨w.heap.size, 0, none⟩) h04 id).trans t0
                 have d1 := (M7.cell (p := ⟨w.heap.size, 1, none⟩) h04 id).trans t1
                 have HM7 := Lib.hid M7
                 clear hm7 M7)
              | (go_at_call 14
                 refine (HMay.out _).mono ?_
                 rintro e w8 ⟨rfl, hm8⟩
                 have M8 := HM7.out.trans' hm8
                 have f0 := (M8.cell (p := ⟨w.heap.size, 0, none⟩) h04 id).trans t0
                 have f1 := (M8.cell (p := ⟨w.heap.size, 1, none⟩) h04 id).trans t1
                 have HM8 := Lib.hid M8
                 clear hm8 M8)
              | (go_at_call 7
                 refine (known_any _).mono ?_
                 rintro e w9 ⟨rfl, hm9⟩
                 have M9 := HM8.out.trans' hm9
                 have g0 := (M9.cell (p := ⟨w.heap.size, 0, none⟩) h04 id).trans t0
                 have g1 := (M9.cell (p := ⟨w.heap.size, 1, none⟩) h04 id).trans t1
                 have HM9 := Lib.hid M9
                 clear hm9 M9))
            go_wp2
            go_ret
            refine ⟨rfl, ?_⟩
            exact (((Mod.refl _ w).alloc _).trans' HM3.out).trans' (HM4.out.trans' HM9.out)
        all_goals
          first
          | go_region_with (first
              | (go_at_call 11
                 refine (HOf.out _ (Mod.refl _ w4).drew).mono ?_
                 rintro e w5 ⟨v5, rfl, hv5, hm5⟩
                 obtain ⟨A5, c5, hv5', hr5, hf5, -⟩ := OwnS.rd hv5 Wt.cs_len
                 rw [← HM.out] at hv5'
                 subst hv5'
                 have M5 := (Mod.refl (fun _ => False) w4).drew.trans' hm5
                 have a0 := (M5.cell (p := ⟨w.heap.size, 0, none⟩) h04 id).trans t0
                 have a1 := (M5.cell (p := ⟨w.heap.size, 1, none⟩) h04 id).trans t1
                 have HM5 := Lib.hid M5
                 clear hv5 hm5 M5)
              | (go_at_call 12
                 refine (same_any (fun _ => True) (fun _ => True) A5 A4 _ _ _ _ ws ws w5 HM.out HM.out (hr5.mono fun _ _ => trivial) (((HR4.out.mod HM5.out fun b hb => ⟨(HF4.out b hb).2, id⟩)).mono fun _ _ => trivial) (by simp [maxLen]; omega)).mono ?_
                 rw [decide_eq_true rfl]
                 rintro e w6 ⟨rfl, q, rfl⟩
                 have b0 : (w5.drewN q).cell? ⟨w.heap.size, 0, none⟩ = some (.bool sh) := a0
                 have b1 : (w5.drewN q).cell? ⟨w.heap.size, 1, none⟩ = some (.int .i64 lv) := a1)
              | (go_at_call 13
                 refine (HIg.out _ (HM5.out.drewN q)).mono ?_
                 rintro e w7 ⟨rfl, hm7⟩
                 have M7 := (HM5.out.drewN q).trans' hm7
                 have d0 := (M7.cell (p := ⟨w.heap.size, 0, none⟩) h04 id).trans t0
                 have d1 := (M7.cell (p := ⟨w.heap.size, 1, none⟩) h04 id).trans t1
                 have HM7 := Lib.hid M7
                 clear hm7 M7)
              | (go_at_call 14
                 refine (HMay.out _).mono ?_
                 rintro e w8 ⟨rfl, hm8⟩
                 have M8 := HM7.out.trans' hm8
                 have f0 := (M8.cell (p := ⟨w.heap.size, 0, none⟩) h04 id).trans t0
                 have f1 := (M8.cell (p := ⟨w.heap.size, 1, none⟩) h04 id).trans t1
                 have HM8 := Lib.hid M8
                 clear hm8 M8)
              | (go_at_call 7
                 refine (known_any _).mono ?_
                 rintro e w9 ⟨rfl, hm9⟩
                 have M9 := HM8.out.trans' hm9
                 have g0 := (M9.cell (p := ⟨w.heap.size, 0, none⟩) h04 id).trans t0
                 have g1 := (M9.cell (p := ⟨w.heap.size, 1, none⟩) h04 id).trans t1
                 have HM9 := Lib.hid M9
                 clear hm9 M9))
          | fail
        all_goals
          go_wp2
          go_ret
          refine ⟨rfl, ?_⟩
          exact (((Mod.refl _ w).alloc _).trans' HM3.out).trans' (HM4.out.trans' HM9.out)
  · have hs' : soundL xs = false := by simpa using hs
    rw [hs'] at HS
    clear hs hs' hl
    go_enter Try.func5, Try.ntmps5
    go_wp2_with (first
      | (go_at_call 6
         refine (HS.out _ (hA.below ((Below.refl _ w).alloc (Nat.le_refl _) _) fun b h => h)).mono ?_
         rintro e w1 ⟨rfl, rfl⟩)
      | (go_at_call 7
         refine (known_any _).mono ?_
         rintro e w2 ⟨rfl, hm2⟩))
    go_ret
    exact ⟨rfl, ((Mod.refl _ w).alloc _).trans' hm2⟩
end Go.Proofs.Ytiojlpjpihmgdaa
