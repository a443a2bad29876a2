/-
  The library's sort of numbers: patterns broken, equals parted.
-/
import Derived.Test.YtidbgfmknhlmnaaGreatDoorSortD
import Derived.Test.YtidbgfmknhlmnaaGreatDoorSnShelf
import Derived.Sort.LotD5
import Derived.Laws.Bits64b
namespace Go.Proofs.YtidbgfmknhlmnaaGreatDoor
open Go.RowKit Go.Shelf Go.Sort
attribute [local go_sem] Oper.semAt_some

/-- Which other place: below twice the range's length. -/
theorem other_lt {l X : Nat} (hl : 0 < l) (hl2 : l ≤ 1099511627776) : X &&& (1 <<< bitsLen l) - 1 < 2 * l ∧ 1 ≤ 1 <<< bitsLen l ∧ 1 <<< bitsLen l < 4611686018427387904 := by
  have h1 : ¬ bitsLen l ≤ bitsLen l - 1 := by
    have : 0 < bitsLen l := by unfold bitsLen; rw [if_neg (by omega)]; omega
    omega
  have h2 := fun h => h1 ((bitsLen_le_iff l (bitsLen l - 1)).2 h)
  have h40 : bitsLen l ≤ 41 := (bitsLen_le_iff l 41).2 (by omega)
  obtain ⟨k, hk⟩ : ∃ k, bitsLen l = k + 1 := ⟨bitsLen l - 1, by omega⟩
  rw [hk] at h2 h40 ⊢
  rw [Nat.add_sub_cancel] at h2
  have hp : 2 ^ k ≤ l := Nat.not_lt.1 h2
  have hpp : 1 ≤ 2 ^ k := Nat.one_le_two_pow
  have h61 : 2 ^ (k + 1) ≤ 2 ^ 41 := Nat.pow_le_pow_right (by decide) h40
  rw [Nat.one_shiftLeft]
  refine ⟨?_, by rw [Nat.pow_succ]; omega, by omega⟩
  have : X &&& 2 ^ (k + 1) - 1 ≤ 2 ^ (k + 1) - 1 := Nat.and_le_right
  rw [Nat.pow_succ] at this ⊢
  omega
set_option maxRecDepth 100000 in
set_option maxHeartbeats 4000000 in
theorem sbreak_any (base g n c a b : Nat) (xs : List Int) (w : World) (h : DS base g n c w xs) (hl : a + 12 < b) (hbn : b ≤ n) (hn : n ≤ 1099511627776) :
    Calls Tryz.prog 83 #[.slice (some ⟨g, 0, none⟩) n c, .int .i64 a, .int .i64 b] w fun e w' => e = .returned (.tuple #[]) ∧ ∃ ys, DS base g n c w' ys ∧ Sws a b xs ys ∧ Mod (fun x => x = g) w w' := by
  obtain ⟨l, hll⟩ : ∃ l, b = a + l := ⟨b - a, by omega⟩
  obtain ⟨q, hq⟩ : ∃ q, q = l / 4 := ⟨_, rfl⟩
  obtain ⟨i0, hi0⟩ : ∃ i0, i0 + 1 = a + q * 2 := ⟨a + q * 2 - 1, by omega⟩
  obtain ⟨M, hM⟩ : ∃ M, M = 1 <<< bitsLen l := ⟨_, rfl⟩
  have hMb := other_lt (l := l) (X := 0) (by omega) (by omega)
  rw [← hM] at hMb
  have v1 : IntKind.i64.wrap ((b : Int) - (a : Int)) = (l : Int) := by rw [show (b : Int) - (a : Int) = (l : Int) by omega]; exact IntWalk.i64_in _ (by omega)
  have v2 : (l : Int).tdiv 4 = (q : Int) := by rw [Int.tdiv_eq_ediv_of_nonneg (by omega)]; omega
  have v3 : IntKind.i64.wrap (q : Int) = (q : Int) := IntWalk.i64_in _ (by omega)
  have v4 : IntKind.i64.wrap ((q : Int) * 2) = (q : Int) * 2 := IntWalk.i64_in _ (by omega)
  have v5 : IntKind.i64.wrap ((a : Int) + (q : Int) * 2) = (i0 : Int) + 1 := by rw [show (a : Int) + (q : Int) * 2 = (i0 : Int) + 1 by omega]; exact IntWalk.i64_in _ (by omega)
  have v6 : IntKind.i64.wrap (i0 : Int) = (i0 : Int) := IntWalk.i64_in _ (by omega)
  have v7 : IntKind.i64.wrap ((i0 : Int) + 1 + 1) = ((i0 + 2 : Nat) : Int) := by rw [show (i0 : Int) + 1 + 1 = ((i0 + 2 : Nat) : Int) by omega]; exact IntWalk.i64_in _ (by omega)
  have v8 : IntKind.u64.wrap (l : Int) = l := by rw [IntKind.wrap_u64]; omega
  obtain ⟨m1, hm1⟩ : ∃ m1, M = m1 + 1 := ⟨M - 1, by rw [hM]; omega⟩
  have v9 : IntKind.u64.wrap ((M : Int) - 1) = (m1 : Int) := by rw [IntKind.wrap_u64]; omega
  have hm1lt : m1 < 18446744073709551616 := by omega
  have hO : ∀ X, X &&& m1 < 2 * l := fun X => by
    have := (other_lt (l := l) (X := X) (by omega) (by omega)).1
    rwa [← hM, hm1, Nat.add_sub_cancel] at this
  have HO := Lib.hid hO
  clear hm1 hO
  have hl8 : 12 < l := by omega
  have hp : ∀ X, Calls Tryz.prog 104 #[.int .i64 l] X fun e w' => e = .returned (.int .u64 (M : Int)) ∧ w' = X := fun X => by
    have := AnyF.nextPowerOfTwo Tryz.powRg l (by omega) X
    rw [← hM] at this
    exact this
  have HP := Lib.hid hp
  clear hp
  have HE := Lib.hid (And.intro hll (And.intro hq (And.intro hi0 hM)))
  have HMb := Lib.hid hMb
  have hgw := (h.blk (by omega)).2.1
  have HD := Lib.hid h
  have hne : w.heap.size ≠ g := by omega
  have hln : l ≤ 1099511627776 := by omega
  clear hll hq hi0 hM hMb h
  go_enter Tryz.func83, Tryz.ntmps83
  go_wp2_with (first | (go_at_call 104; (with_reducible refine (HP.out _).mono ?_); rintro e w' ⟨rfl, rfl⟩) | fail)
  have hd0 := HD.out.mod ((Mod.refl (fun _ => False) w).alloc (.cells #[.int .u64 l] 172)) id
  have hb0 := hp_new w (.cells #[.int .u64 l] 172)
  have HD0 := Lib.hid hd0
  have HB0 := Lib.hid hb0
  have HM0 := Lib.hid ((Mod.refl (fun x => x = g ∨ x = w.heap.size) w).alloc (.cells #[.int .u64 l] 172))
  clear hd0 hb0
  go_loopw [9] (fun v wr => ∃ (i X : Nat) (ys : List Int), v = .int .i64 i ∧ i0 ≤ i ∧ i ≤ i0 + 3 ∧ X < 18446744073709551616 ∧ wr.heap[w.heap.size]? = some (.cells #[.int .u64 (X : Int)] 172 (0, 0)) ∧ DS base g n c wr ys ∧ Sws a b xs ys ∧ Mod (fun x => x = g ∨ x = w.heap.size) w wr) (fun v _ => i0 + 3 - (intOf v).toNat)
  case atStart => exact ⟨i0, l, xs, rfl, Nat.le_refl _, by omega, by omega, HB0.out, HD0.out, .refl, HM0.out⟩
  case round =>
    obtain ⟨i, X, ys, rfl, hii, hi3, hX, hb, hd, hs, hm⟩ := hrel
    have HB := Lib.hid hb
    have HD := Lib.hid hd
    have HS := Lib.hid hs
    have HM := Lib.hid hm
    clear hb hd hs hm
    by_cases hlt : i ≤ i0 + 2
    · have hib : i < b := by have := HE.out; omega
      have hai : a ≤ i := by have := HE.out; omega
      have hin : i < n := by omega
      have hsn : w.heap.size ≠ g := hne
      obtain ⟨Y, hY⟩ : ∃ Y, Y = xorNextN X := ⟨_, rfl⟩
      have hYl : Y < 18446744073709551616 := by rw [hY]; exact xorNextN_lt X hX
      obtain ⟨o, ho⟩ : ∃ o, o = Y &&& m1 := ⟨_, rfl⟩
      have ho2 : o < 2 * l := by rw [ho]; exact HO.out Y
      have hA : bits .and .u64 (Y : Int) (m1 : Int) = (o : Int) := by rw [bits_and_u64_nat _ _ hYl hm1lt, ho]
      have ho3 : IntKind.i64.wrap (o : Int) = (o : Int) := IntWalk.i64_in _ (by omega)
      have wi : IntKind.i64.wrap ((i : Int) + 1) = ((i + 1 : Nat) : Int) := by rw [show (i : Int) + 1 = ((i + 1 : Nat) : Int) by omega]; exact IntWalk.i64_in _ (by omega)
      have hc0 := hp_cell HB.out 0
      simp only [List.getElem?_toArray, List.getElem?_cons_zero] at hc0
      have hNx : Calls Tryz.prog 105 #[.pointer (some ⟨w.heap.size, 0, none⟩)] wr fun e w' => e = .returned (.int .u64 (Y : Int)) ∧ w'.heap[w.heap.size]? = some (.cells #[.int .u64 (Y : Int)] 172 (0, 0)) ∧ Mod (fun x => x = w.heap.size) wr w' := by
        refine (AnyF.xorshift_Next Tryz.nextRg w.heap.size 0 X hX wr hc0 (hp_free HB.out 0)).mono ?_
        rintro e w' ⟨rfl, rfl⟩
        rw [← hY]
        refine ⟨rfl, ?_, ((Mod.refl (fun x => x = w.heap.size) wr).setCell (p := ⟨w.heap.size, 0, none⟩) (.inl rfl) _).drewN 3⟩
        have := hp_set HB.out 0 (.int .u64 (Y : Int))
        simpa using this
      have HNx := Lib.hid hNx
      clear hNx hc0 hY ho
      by_cases hol : l ≤ o
      · obtain ⟨o1, ho1⟩ : ∃ o1, o1 = o - l := ⟨_, rfl⟩
        obtain ⟨z, hz⟩ : ∃ z, z = a + o1 := ⟨_, rfl⟩
        have wo : IntKind.i64.wrap ((o : Int) - (l : Int)) = (o1 : Int) := by rw [show (o : Int) - (l : Int) = (o1 : Int) by omega]; exact IntWalk.i64_in _ (by omega)
        have wz : IntKind.i64.wrap ((a : Int) + (o1 : Int)) = (z : Int) := by rw [show (a : Int) + (o1 : Int) = (z : Int) by omega]; exact IntWalk.i64_in _ (by omega)
        have hzb : z < b := by have := HE.out.1; omega
        have haz : a ≤ z := by omega
        clear ho1 hz
        have hzn : z < n := by omega
        go_wp2_with (first
          | (go_at_call 105
             (with_reducible refine HNx.out.mono ?_)
             rintro e w1 ⟨rfl, hb1, hm1⟩
             have HB1 := Lib.hid hb1
             have HD1 := Lib.hid (HD.out.mod hm1 (fun e => hsn e.symm))
             have HM1 := Lib.hid (HM.out.trans hm1 (fun x hx => .inl (.inr hx)))
             clear hb1 hm1)
          | fail)
        clear HB HD HM HNx
        have HD := HD1
        have HM := HM1
        have HSs := Lib.hid (HS.out.exch (i := i) (j := z) HD.out.len hai hib haz hzb hbn)
        clear HD1 HM1
        by_cases hzi : z = i
        · subst hzi
          have e1 := HD.out.cell (k := z) hzn
          have e2 := HD.out.cell (k := z) hzn
          have f1 := (HD.out.blk (by omega)).2.2 z
          have f2 := (HD.out.blk (by omega)).2.2 z
          have hdq := HD.out.exchd hzn hzn rfl rfl
          have hmq0 := (mod_swp w1 g z z (.int .i32 (at_ ys z)) (.int .i32 (at_ ys z))).drew
          have hbq := hp_mod HB1.out hmq0 hsn
          have hmq := HM.out.trans hmq0 (fun x hx => .inl (.inl hx))
          obtain ⟨W1, hW1⟩ : ∃ W1, W1 = ((w1.setCell ⟨g, z, none⟩ (.int .i32 (at_ ys z))).setCell ⟨g, z, none⟩ (.int .i32 (at_ ys z))).drew := ⟨_, rfl⟩
          rw [← hW1] at hdq hmq hbq
          have HW := Lib.hid hW1
          clear HD HM hW1 hmq0
          have HD := Lib.hid hdq
          have HM := Lib.hid hmq
          have HBf := Lib.hid hbq
          clear hdq hmq hbq
          go_wp2
          go_region
          rw [← HW.out]
          clear e1 e2 f1 f2 HW
          go_wp2
          exact ⟨⟨z + 1, Y, _, by go_num, by omega, by omega, hYl, HBf.out, HD.out, HSs.out, HM.out⟩, by simp only [intOf]; omega⟩
        · have hne1 : ¬ i = z := fun e => hzi e.symm
          have e1 := HD.out.cell (k := i) hin
          have e2 := HD.out.cell (k := z) hzn
          have f1 := (HD.out.blk (by omega)).2.2 i
          have f2 := (HD.out.blk (by omega)).2.2 z
          have hdq := HD.out.exchd hin hzn rfl rfl
          have hmq0 := (mod_swp w1 g i z (.int .i32 (at_ ys z)) (.int .i32 (at_ ys i))).drew
          have hbq := hp_mod HB1.out hmq0 hsn
          have hmq := HM.out.trans hmq0 (fun x hx => .inl (.inl hx))
          obtain ⟨W1, hW1⟩ : ∃ W1, W1 = ((w1.setCell ⟨g, i, none⟩ (.int .i32 (at_ ys z))).setCell ⟨g, z, none⟩ (.int .i32 (at_ ys i))).drew := ⟨_, rfl⟩
          rw [← hW1] at hdq hmq hbq
          have HW := Lib.hid hW1
          clear HD HM hW1 hmq0
          have HD := Lib.hid hdq
          have HM := Lib.hid hmq
          have HBf := Lib.hid hbq
          clear hdq hmq hbq
          go_wp2
          go_region
          rw [← HW.out]
          clear e1 e2 f1 f2 HW
          go_wp2
          exact ⟨⟨i + 1, Y, _, by go_num, by omega, by omega, hYl, HBf.out, HD.out, HSs.out, HM.out⟩, by simp only [intOf]; omega⟩
      · obtain ⟨z, hz⟩ : ∃ z, z = a + o := ⟨_, rfl⟩
        have wz : IntKind.i64.wrap ((a : Int) + (o : Int)) = (z : Int) := by rw [show (a : Int) + (o : Int) = (z : Int) by omega]; exact IntWalk.i64_in _ (by omega)
        have hzb : z < b := by have := HE.out.1; omega
        have haz : a ≤ z := by omega
        clear hz
        have hzn : z < n := by omega
        go_wp2_with (first
          | (go_at_call 105
             (with_reducible refine HNx.out.mono ?_)
             rintro e w1 ⟨rfl, hb1, hm1⟩
             have HB1 := Lib.hid hb1
             have HD1 := Lib.hid (HD.out.mod hm1 (fun e => hsn e.symm))
             have HM1 := Lib.hid (HM.out.trans hm1 (fun x hx => .inl (.inr hx)))
             clear hb1 hm1)
          | fail)
        clear HB HD HM HNx
        have HD := HD1
        have HM := HM1
        have HSs := Lib.hid (HS.out.exch (i := i) (j := z) HD.out.len hai hib haz hzb hbn)
        clear HD1 HM1
        by_cases hzi : z = i
        · subst hzi
          have e1 := HD.out.cell (k := z) hzn
          have e2 := HD.out.cell (k := z) hzn
          have f1 := (HD.out.blk (by omega)).2.2 z
          have f2 := (HD.out.blk (by omega)).2.2 z
          have hdq := HD.out.exchd hzn hzn rfl rfl
          have hmq0 := (mod_swp w1 g z z (.int .i32 (at_ ys z)) (.int .i32 (at_ ys z))).drew
          have hbq := hp_mod HB1.out hmq0 hsn
          have hmq := HM.out.trans hmq0 (fun x hx => .inl (.inl hx))
          obtain ⟨W1, hW1⟩ : ∃ W1, W1 = ((w1.setCell ⟨g, z, none⟩ (.int .i32 (at_ ys z))).setCell ⟨g, z, none⟩ (.int .i32 (at_ ys z))).drew := ⟨_, rfl⟩
          rw [← hW1] at hdq hmq hbq
          have HW := Lib.hid hW1
          clear HD HM hW1 hmq0
          have HD := Lib.hid hdq
          have HM := Lib.hid hmq
          have HBf := Lib.hid hbq
          clear hdq hmq hbq
          go_wp2
          go_region
          rw [← HW.out]
          clear e1 e2 f1 f2 HW
          go_wp2
          exact ⟨⟨z + 1, Y, _, by go_num, by omega, by omega, hYl, HBf.out, HD.out, HSs.out, HM.out⟩, by simp only [intOf]; omega⟩
        · have hne1 : ¬ i = z := fun e => hzi e.symm
          have e1 := HD.out.cell (k := i) hin
          have e2 := HD.out.cell (k := z) hzn
          have f1 := (HD.out.blk (by omega)).2.2 i
          have f2 := (HD.out.blk (by omega)).2.2 z
          have hdq := HD.out.exchd hin hzn rfl rfl
          have hmq0 := (mod_swp w1 g i z (.int .i32 (at_ ys z)) (.int .i32 (at_ ys i))).drew
          have hbq := hp_mod HB1.out hmq0 hsn
          have hmq := HM.out.trans hmq0 (fun x hx => .inl (.inl hx))
          obtain ⟨W1, hW1⟩ : ∃ W1, W1 = ((w1.setCell ⟨g, i, none⟩ (.int .i32 (at_ ys z))).setCell ⟨g, z, none⟩ (.int .i32 (at_ ys i))).drew := ⟨_, rfl⟩
          rw [← hW1] at hdq hmq hbq
          have HW := Lib.hid hW1
          clear HD HM hW1 hmq0
          have HD := Lib.hid hdq
          have HM := Lib.hid hmq
          have HBf := Lib.hid hbq
          clear hdq hmq hbq
          go_wp2
          go_region
          rw [← HW.out]
          clear e1 e2 f1 f2 HW
          go_wp2
          exact ⟨⟨i + 1, Y, _, by go_num, by omega, by omega, hYl, HBf.out, HD.out, HSs.out, HM.out⟩, by simp only [intOf]; omega⟩
    · go_wp2
      exact bodyPost_end (v := .tuple #[]) (by simp [results, Tryz.results83, go_sem]) rfl ⟨rfl, ys, HD.out, HS.out, HM.out.mono fun x hx h => by rcases h with h | h; exact h; omega⟩
end Go.Proofs.YtidbgfmknhlmnaaGreatDoor
