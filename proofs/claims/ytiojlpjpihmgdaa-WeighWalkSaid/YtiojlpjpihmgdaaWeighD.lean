/-
  weigh.Ignored; blazonref15.Same, Of; blazonlaw15.sound.
-/
import Derived.Test.YtiojlpjpihmgdaaWeighC
namespace Go.Proofs.Ytiojlpjpihmgdaa
open Go.RowKit

def Wt.zero3 (x : Wt) : Bool := x.a == 0 && x.b == 0 && x.c == 0
def cntW (l : List Wt) : Nat := (l.filter Wt.zero3).length
theorem cntW_snoc (l : List Wt) (x : Wt) : cntW (l ++ [x]) = cntW l + if x.a = 0 ∧ x.b = 0 ∧ x.c = 0 then 1 else 0 := by
  have h : x.zero3 = decide (x.a = 0 ∧ x.b = 0 ∧ x.c = 0) := by rw [Bool.eq_iff_iff]; simp [Wt.zero3, and_assoc]
  unfold cntW
  rw [List.filter_append]
  by_cases hx : x.a = 0 ∧ x.b = 0 ∧ x.c = 0 <;> simp [h, hx]
theorem cntW_le (l : List Wt) : cntW l ≤ l.length := List.length_filter_le _ _

theorem take_snoc {α : Type} (l : List α) (k : Nat) (h : k < l.length) : l.take (k + 1) = l.take k ++ [l[k]] := List.take_succ_eq_append_getElem h

set_option maxHeartbeats 1000000 in
theorem ign_any (sh : Bool) (lv : Int) (A : Option Addr) (c : Nat) (xs : List El) (w : World) (hA : Rd (fun b => b < w.heap.size) w 4 El.cs A xs) (hlen : xs.length ≤ 1099511627776) :
    Calls Try.prog 13 #[.agg #[.bool sh, .int .i64 lv], .slice A xs.length c] w fun e w' => e = .returned (.int .i64 (cntW (weighs sh lv xs))) ∧ Mod (fun _ => False) w w' := by
  have hwl := weighs_len sh lv xs
  obtain ⟨ws, hws⟩ : ∃ ws, ws = weighs sh lv xs := ⟨_, rfl⟩
  have HO := Lib.hid (of_any sh lv A c xs (w.alloc (.cells #[.bool sh, .int .i64 lv] 23)) ((hA.below ((Below.refl _ w).alloc (Nat.le_refl _) _) (fun b h => h)).mono (fun b h => by simp; omega)) hlen)
  rw [← hws] at HO hwl ⊢
  clear hws hA
  obtain ⟨N, hN⟩ : ∃ N, N = ws.length := ⟨_, rfl⟩
  have HN := Lib.hid hN
  have hNl : N ≤ 1099511627776 := by omega
  clear hN hwl
  go_enter Try.func13, Try.ntmps13
  go_wp2_with (go_at_call 11; refine HO.out.mono ?_; rintro e w1 ⟨v, rfl, hv, hm⟩; obtain ⟨A1, c1, rfl, hr, hf, hl⟩ := OwnS.rd hv Wt.cs_len; rw [← HN.out] at hv hr hf hl ⊢)
  have HM := Lib.hid ((((Mod.refl (fun _ => False) w).alloc _).trans' hm))
  clear hm
  go_loopw [5, 12] (fun n i wr => ∃ k : Nat, k ≤ N ∧ i = .int .i64 k ∧ n = .int .i64 (cntW (ws.take k)) ∧ Mod (fun _ => False) w1 wr) (fun _ i _ => N - (intOf i).toNat)
  case atStart => exact ⟨0, Nat.zero_le _, rfl, rfl, Mod.refl _ _⟩
  case round =>
    obtain ⟨k, hk, rfl, rfl, hmr⟩ := hrel
    by_cases hlt : k < N
    · have hkl : k < ws.length := by rw [← HN.out]; exact hlt
      obtain ⟨b, off, rfl, hd, hc⟩ := (hr.mod hmr (fun b hb => ⟨(hf b hb).2, id⟩)) (by omega)
      have e0 : wr.cell? ⟨b, off + k * 4, none⟩ = some (.int .u16 ws[k].a) := hc k hkl 0 _ rfl
      have e1 : wr.cell? ⟨b, off + k * 4 + 1, none⟩ = some (.int .u16 ws[k].b) := hc k hkl 1 _ rfl
      have e2 : wr.cell? ⟨b, off + k * 4 + 2, none⟩ = some (.int .u16 ws[k].c) := hc k hkl 2 _ rfl
      have e3 : wr.cell? ⟨b, off + k * 4 + 3, none⟩ = some (.int .u16 ws[k].d) := hc k hkl 3 _ rfl
      have HS := Lib.hid (show cntW (ws.take (k + 1)) = cntW (ws.take k) + _ by rw [take_snoc ws k hkl, cntW_snoc])
      have hcl : cntW (ws.take k) ≤ k := Nat.le_trans (cntW_le _) (by simp; omega)
      have HMR := Lib.hid hmr
      clear hc hmr hr
      go_wp2
      all_goals
        refine ⟨⟨k + 1, by omega, by go_num, ?_, HMR.out.alloc _⟩, by simp [intOf]; omega⟩
        rw [HS.out]
        first
          | (rw [if_pos (by simp_all)]; go_num)
          | (rw [if_neg (by simp_all)]; go_num)
    · obtain rfl : k = N := by omega
      go_wp2
      go_ret
      refine ⟨ret_int ?_, HM.out.trans' hmr⟩
      rw [HN.out, List.take_length]

theorem wt_neq (x y : Wt) (w : World) : (binOp .neq 38 x.v y.v).run Try.prog w = .ok (.bool (!decide (x = y))) w := by
  have h := run_neq_ints (P := Try.prog) w 38 31 4 .u16 (by kernel_rfl) (by kernel_rfl) (fun w => by kernel_rfl) [(x.a : Int), x.b, x.c, x.d] [(y.a : Int), y.b, y.c, y.d] rfl rfl
  have e : ([(x.a : Int), x.b, x.c, x.d] == [(y.a : Int), y.b, y.c, y.d]) = decide (x = y) := by
    rw [Bool.eq_iff_iff]
    cases x; cases y
    simp
    omega
  rw [e] at h
  exact h


set_option maxHeartbeats 1000000 in
theorem same_any (D D' : Nat → Prop) (A B : Option Addr) (c d n m : Nat) (xs ys : List Wt) (w : World) (hn : n = xs.length) (hm : m = ys.length) (hA : Rd D w 4 Wt.cs A xs) (hB : Rd D' w 4 Wt.cs B ys) (hl : n ≤ maxLen) :
    Calls Try.prog 12 #[.slice A n c, .slice B m d] w fun e w' => e = .returned (.bool (decide (xs = ys))) ∧ ∃ q, w.drewN q = w' := by
  unfold maxLen at hl
  have HN := Lib.hid hn
  have HM := Lib.hid hm
  by_cases hnm : n = m
  · obtain rfl : n = m := hnm
    clear hn hm
    go_enter Try.func12, Try.ntmps12
    go_wp2
    go_loopw [5] (fun i wr => ∃ k q : Nat, k ≤ n ∧ i = .int .i64 k ∧ wr = w.drewN q ∧ xs.take k = ys.take k) (fun i _ => n - (intOf i).toNat)
    case atStart => exact ⟨0, 0, Nat.zero_le _, rfl, rfl, rfl⟩
    case round =>
      obtain ⟨k, q, hk, rfl, rfl, ht⟩ := hrel
      have HT := Lib.hid ht
      clear ht
      by_cases hlt : k < n
      · have hkx : k < xs.length := by rw [← HN.out]; exact hlt
        have hky : k < ys.length := by rw [← HM.out]; exact hlt
        obtain ⟨b, off, rfl, -, hc⟩ := hA (by omega)
        obtain ⟨b', off', rfl, -, hc'⟩ := hB (by omega)
        have x0 : w.cell? ⟨b, off + k * 4, none⟩ = some (.int .u16 xs[k].a) := hc k hkx 0 _ rfl
        have x1 : w.cell? ⟨b, off + k * 4 + 1, none⟩ = some (.int .u16 xs[k].b) := hc k hkx 1 _ rfl
        have x2 : w.cell? ⟨b, off + k * 4 + 2, none⟩ = some (.int .u16 xs[k].c) := hc k hkx 2 _ rfl
        have x3 : w.cell? ⟨b, off + k * 4 + 3, none⟩ = some (.int .u16 xs[k].d) := hc k hkx 3 _ rfl
        have y0 : w.cell? ⟨b', off' + k * 4, none⟩ = some (.int .u16 ys[k].a) := hc' k hky 0 _ rfl
        have y1 : w.cell? ⟨b', off' + k * 4 + 1, none⟩ = some (.int .u16 ys[k].b) := hc' k hky 1 _ rfl
        have y2 : w.cell? ⟨b', off' + k * 4 + 2, none⟩ = some (.int .u16 ys[k].c) := hc' k hky 2 _ rfl
        have y3 : w.cell? ⟨b', off' + k * 4 + 3, none⟩ = some (.int .u16 ys[k].d) := hc' k hky 3 _ rfl
        have hi : (0 : Int) ≤ (k : Int) ∧ (k : Int) < (n : Int) := by omega
        have hne := fun W => wt_neq xs[k] ys[k] W
        unfold Wt.v at hne
        clear hc hc' hA hB
        by_cases he : xs[k] = ys[k]
        · have HE := Lib.hid he
          simp only [he, decide_true, Bool.not_true] at hne
          rw [he] at x0 x1 x2 x3
          clear he
          go_wp2
          go_quiet (fail)
          go_wp2
          exact ⟨⟨k + 1, q + nq, by omega, by go_num, rfl, by rw [take_snoc xs k hkx, take_snoc ys k hky, HT.out, HE.out]⟩, by simp [intOf]; omega⟩
        · have hd : decide (xs[k] = ys[k]) = false := by simpa using he
          simp only [hd, Bool.not_false] at hne
          have HE := Lib.hid he
          clear he
          go_wp2
          go_quiet (fail)
          go_wp2
          go_ret
          refine ⟨ret_bool ?_, q + nq, by simp [World.drewN_drewN]⟩
          symm
          rw [decide_eq_false_iff_not]
          intro h
          subst h
          exact HE.out rfl
      · obtain rfl : k = n := by omega
        go_wp2
        go_ret
        refine ⟨ret_bool ?_, _, rfl⟩
        have := HT.out
        rw [List.take_of_length_le (by rw [← HN.out]; exact Nat.le_refl _), List.take_of_length_le (by rw [← HM.out]; exact Nat.le_refl _)] at this
        simp [this]
  · have h1 : ((n : Int) == m) = false := by simpa using (by omega : ¬ (n : Int) = m)
    have h2 : decide (xs = ys) = false := by
      rw [decide_eq_false_iff_not]; rintro rfl; exact hnm (HN.out.trans HM.out.symm)
    rw [h2]
    have HNM := Lib.hid hnm
    clear hn hm hnm
    go_enter Try.func12, Try.ntmps12
    go_wp2
    go_ret
    exact ⟨rfl, 0, rfl⟩


/-! ### the reference -/
/-- Is it behind a variable one, none between but ignorable ones? (The elements ahead, the nearest first.) -/
def scanB : List El → Bool
  | [] => false
  | e :: r => if e.V = true ∧ e.P ≠ 0 then true else if e.P ≠ 0 ∨ e.V = true then false else scanB r
def rbh (xs : List El) (k : Nat) : Bool := scanB (xs.take k).reverse
def refs (sh : Bool) (lv : Int) (xs : List El) : List Wt := if 1 ≤ lv ∧ lv ≤ 4 then xs.mapIdx fun k e => oneW sh (rbh xs k) e else []
theorem scan_succ (xs : List El) (k : Nat) (h : k < xs.length) : scanB (xs.take (k + 1)).reverse = if xs[k].V = true ∧ xs[k].P ≠ 0 then true else if xs[k].P ≠ 0 ∨ xs[k].V = true then false else scanB (xs.take k).reverse := by
  rw [take_snoc xs k h, List.reverse_append]; rfl
theorem mapIdx_take_succ {α β : Type} (f : Nat → α → β) (xs : List α) (k : Nat) (h : k < xs.length) : (xs.mapIdx f).take (k + 1) = (xs.mapIdx f).take k ++ [f k xs[k]] := by
  rw [take_snoc _ k (by simpa using h), List.getElem_mapIdx]

theorem rof_step {w wr X w2 : World} {v v' u : Value} (hm : Mod (fun _ => False) w wr) (hX : Mod (fun _ => False) wr X) (hm2 : Mod (fun b => v.ownBlock = some b) X w2)
    (hf : ∀ b, v.ownBlock = some b → w.heap.size ≤ b ∧ b < wr.heap.size) (hne : v.ownBlock ≠ some w.heap.size) (hsc : wr.cell? ⟨w.heap.size, 0, none⟩ = some u) (hws : w.heap.size < wr.heap.size)
    (hat : v'.ownBlock = v.ownBlock ∨ v'.ownBlock = some X.heap.size) : Mod (fun _ => False) w w2 ∧ w2.cell? ⟨w.heap.size, 0, none⟩ = some u ∧ v'.ownBlock ≠ some w.heap.size ∧ w.heap.size < w2.heap.size := by
  have h1 := hX.size
  have h2 := hm2.size
  refine ⟨(hm.trans' hX).trans hm2 (fun b hb => .inr (hf b hb).1), ?_, ?_, by omega⟩
  · exact (hm2.cell (p := ⟨w.heap.size, 0, none⟩) (by simp; omega) hne).trans ((hX.cell (p := ⟨w.heap.size, 0, none⟩) hws id).trans hsc)
  · rcases hat with h | h
    · rw [h]; exact hne
    · rw [h]; simp; omega

set_option maxRecDepth 100000 in
set_option maxHeartbeats 4000000 in
theorem rof_any (D : Nat → Prop) (sh : Bool) (lv : Int) (A : Option Addr) (c : Nat) (xs : List El) (w : World) (hA : Rd D w 4 El.cs A xs) (hD : ∀ b, D b → b < w.heap.size) (hlen : xs.length ≤ 1099511627776) :
    Calls Try.prog 10 #[.agg #[.bool sh, .int .i64 lv], .slice A xs.length c] w fun e w' => ∃ v, e = .returned v ∧ OwnS w.heap.size 38 4 Wt.cs w' v (refs sh lv xs) ∧ Mod (fun _ => False) w w' := by
  obtain ⟨N, hN⟩ : ∃ N, N = xs.length := ⟨_, rfl⟩
  rw [← hN] at hlen ⊢
  have HN := Lib.hid hN
  clear hN
  by_cases hlv : 1 ≤ lv ∧ lv ≤ 4
  · obtain ⟨hl1, hl2⟩ := hlv
    have HR := Lib.hid (show refs sh lv xs = xs.mapIdx fun k e => oneW sh (rbh xs k) e by simp [refs, hl1, hl2])
    go_enter Try.func10, Try.ntmps10
    go_wp2
    have HW := Lib.hid (show w.heap.size < (w.alloc (.cells #[.bool sh, .int .i64 lv] 23)).heap.size by simp)
    go_loopw [5, 6] (fun o i wr => ∃ k : Nat, k ≤ N ∧ i = .int .i64 k ∧ OwnS w.heap.size 38 4 Wt.cs wr o ((xs.mapIdx fun k e => oneW sh (rbh xs k) e).take k) ∧ Mod (fun _ => False) w wr ∧ wr.cell? ⟨w.heap.size, 0, none⟩ = some (.bool sh) ∧ o.ownBlock ≠ some w.heap.size ∧ w.heap.size < wr.heap.size) (fun _ i _ => N - (intOf i).toNat)
    case atStart => exact ⟨0, Nat.zero_le _, rfl, by simpa using OwnS.nil _ _ _ _ _, by (repeat' (first | exact Mod.refl _ _ | assumption | refine Mod.alloc ?_ _ | refine Mod.drew ?_ | refine Mod.drewN ?_ _ | refine Mod.setCell ?_ (by first | exact Or.inl rfl | (right; simp; done) | (right; simp; omega) | (left; simp; done)) _)), by simp, by simp [Value.ownBlock], HW.out⟩
    case round =>
      obtain ⟨k, hk, rfl, ho, hm, hsc, hne, hws⟩ := hrel
      by_cases hlt : k < N
      · have hkx : k < xs.length := by rw [← HN.out]; exact hlt
        obtain ⟨b, off, rfl, hd, hc⟩ := (hA.mod hm (fun b hb => ⟨hD b hb, id⟩)) (by omega)
        obtain ⟨e, he⟩ : ∃ e, e = xs[k] := ⟨_, rfl⟩
        have e0 : wr.cell? ⟨b, off + k * 4, none⟩ = some (.int .u16 e.P) := by rw [he]; exact hc k hkx 0 _ rfl
        have e1 : wr.cell? ⟨b, off + k * 4 + 1, none⟩ = some (.int .u16 e.S) := by rw [he]; exact hc k hkx 1 _ rfl
        have e2 : wr.cell? ⟨b, off + k * 4 + 2, none⟩ = some (.int .u16 e.T) := by rw [he]; exact hc k hkx 2 _ rfl
        have e3 : wr.cell? ⟨b, off + k * 4 + 3, none⟩ = some (.bool e.V) := by rw [he]; exact hc k hkx 3 _ rfl
        obtain ⟨A1, c1, hv, -, hfo, hlo⟩ := OwnS.rd ho Wt.cs_len
        have hl0 : ((xs.mapIdx fun k e => oneW sh (rbh xs k) e).take k).length = k := by simp; omega
        rw [hl0] at hv hlo
        subst hv
        have HE := Lib.hid he
        have HC := Lib.hid hc
        have HM := Lib.hid hm
        have HO := Lib.hid ho
        have HL := Lib.hid hl0
        have HF := Lib.hid hfo
        have HNE := Lib.hid hne
        have hbl : b < wr.heap.size := World.block_lt_of_cell? wr _ e0
        clear he hc hm ho hl0 hfo hA hne
        cases sh
        · go_wp2_with (at_builtin
                       refine wpList_app (xs := (xs.mapIdx fun k e => oneW false (rbh xs k) e).take k) (ys := [(⟨e.P, e.S, e.T, 0⟩ : Wt)]) (D := fun b => b = wr.heap.size + 1) rfl (.tmp 32) (.tmp 40) rfl wts_t Wt.cs_len Wt.cs_one rfl
                         (HO.out.keep (Agree.below (((Below.refl _ _).alloc (Nat.le_refl _) _).alloc (by simp) _) fun b h => (HF.out b h).2)) 1 rfl rfl (Rd.one (hp_at _ _ (by simp)) rfl) ?_ ?_ ?_ ?_
                       · rw [HL.out]; simp [maxLen]; omega
                       · rw [HL.out]; simp; omega
                       · simp; omega
                       intro v' w2 hown2 hm2 hat2
                       have hx2 : (xs.mapIdx fun k e => oneW false (rbh xs k) e).take k ++ [(⟨e.P, e.S, e.T, 0⟩ : Wt)] = (xs.mapIdx fun k e => oneW false (rbh xs k) e).take (k + 1) := by
                         rw [mapIdx_take_succ _ _ _ hkx, ← HE.out]; rfl
                       rw [hx2] at hown2
                       have HM2 := Lib.hid hm2
                       clear hx2 hm2)
          have h := rof_step HM.out (((Mod.refl _ wr).alloc _).alloc _) HM2.out HF.out HNE.out hsc hws hat2
          exact ⟨⟨k + 1, by omega, by go_num, hown2, h⟩, by simp [intOf]; omega⟩
        · go_upto_block 2 with (fail)
          go_cut [8] (fun b wx => b = .bool (rbh xs k) ∧ wx = wr.alloc (.cells #[.int .u16 e.P, .int .u16 e.S, .int .u16 e.T, .bool e.V] 33))
          case first =>
            go_wp2_with (fail)
            go_loop [8, 9] (fun b i => ∃ m : Nat, m ≤ k ∧ i = .int .i64 ((m : Int) - 1) ∧ b = .bool false ∧ scanB (xs.take m).reverse = rbh xs k) (fun _ i => (intOf i + 1).toNat)
            case atStart => exact ⟨k, Nat.le_refl _, rfl, rfl, rfl⟩
            case round =>
              obtain ⟨m, hm, rfl, rfl, hsb⟩ := hrel
              have HB := Lib.hid hsb
              clear hsb
              cases m with
              | zero =>
                rw [show (((0 : Nat) : Int) - 1) = -1 from rfl]
                go_wp2
                go_meet
                exact ⟨congrArg Value.bool HB.out, rfl⟩
              | succ m =>
                rw [show (((m + 1 : Nat) : Int) - 1) = (m : Int) from by omega]
                have hmx : m < xs.length := by omega
                obtain ⟨g, hg⟩ : ∃ g, g = xs[m] := ⟨_, rfl⟩
                have g0 : wr.cell? ⟨b, off + m * 4, none⟩ = some (.int .u16 g.P) := by rw [hg]; exact HC.out m hmx 0 _ rfl
                have g3 : wr.cell? ⟨b, off + m * 4 + 3, none⟩ = some (.bool g.V) := by rw [hg]; exact HC.out m hmx 3 _ rfl
                have hss := scan_succ xs m hmx
                rw [← hg] at hss
                have HS := Lib.hid hss
                clear hss hg
                go_wp2
                all_goals first
                  | (go_meet
                     refine ⟨congrArg Value.bool ?_, rfl⟩
                     rw [← HB.out, HS.out]
                     clear HB HS HE HC HM HO HL HF HNE HR hsc e0 e1 e2 e3 g0 g3
                     go_tidy
                     simp_all; done)
                  | (refine ⟨⟨m, by omega, rfl, rfl, ?_⟩, by simp only [intOf]; omega⟩
                     rw [← HB.out, HS.out]
                     clear HB HS HE HC HM HO HL HF HNE HR hsc e0 e1 e2 e3 g0 g3
                     go_tidy
                     simp_all; done)
                  | trace_state
          case rest =>
            obtain ⟨rfl, rfl⟩ := hcut
            have HOe := Lib.hid (HO.out.keep (Agree.below ((Below.refl _ wr).alloc (Nat.le_refl _) (.cells #[.int .u16 e.P, .int .u16 e.S, .int .u16 e.T, .bool e.V] 33)) fun b h => (HF.out b h).2))
            have HA := Lib.hid (fun (X : World) (hX : Mod (fun _ => False) wr X) => HO.out.mod hX (fun b _ => id))
            have HB1 := Lib.hid (show ((xs.mapIdx fun k e => oneW true (rbh xs k) e).take k).length + 1 ≤ maxLen by rw [HL.out]; simp [maxLen]; omega)
            have HB2 := Lib.hid (show (((xs.mapIdx fun k e => oneW true (rbh xs k) e).take k).length + 1) * 8 ≤ 140737488355328 by rw [HL.out]; omega)
            have HX := Lib.hid (show (xs.mapIdx fun k e => oneW true (rbh xs k) e).take k ++ [oneW true (rbh xs k) e] = (xs.mapIdx fun k e => oneW true (rbh xs k) e).take (k + 1) by rw [mapIdx_take_succ _ _ _ hkx, ← HE.out])
            clear HOe hlo e0 e1 e2 e3 HC
            go_wp2_with (at_builtin
                         refine wpList_app (xs := (xs.mapIdx fun k e => oneW true (rbh xs k) e).take k) (ys := [oneW true (rbh xs k) e]) (D := fun b => b = wr.heap.size + 1 + 1) (v := .slice A1 k c1) rfl (.tmp 117) (.tmp 119) rfl wts_t Wt.cs_len Wt.cs_one rfl
                             (HA.out _ (by (repeat' (first | exact Mod.refl _ _ | assumption | refine Mod.alloc ?_ _ | refine Mod.drew ?_ | refine Mod.drewN ?_ _ | refine Mod.setCell ?_ (by first | exact Or.inl rfl | (right; simp; done) | (right; simp; omega) | (left; simp; done)) _)))) 1 rfl rfl (Rd.one (hp_at _ _ (by simp)) ?_) HB1.out HB2.out ?_ ?_
                         · go_tidy; simp_all [oneW, Wt.cs]
                         · simp; omega
                         intro v' w2 hown2 hm2 hat2
                         rw [HX.out] at hown2
                         have HM2 := Lib.hid hm2
                         clear hm2)
            all_goals
              have h := rof_step HM.out (by (repeat' (first | exact Mod.refl _ _ | assumption | refine Mod.alloc ?_ _ | refine Mod.drew ?_ | refine Mod.drewN ?_ _ | refine Mod.setCell ?_ (by first | exact Or.inl rfl | (right; simp; done) | (right; simp; omega) | (left; simp; done)) _))) HM2.out HF.out HNE.out hsc hws hat2
              exact ⟨⟨k + 1, by omega, by go_num, hown2, h⟩, by simp only [intOf]; omega⟩
      · obtain rfl : k = N := by omega
        go_wp2
        go_ret
        refine ⟨_, rfl, ?_, hm⟩
        rw [HR.out]
        rw [List.take_of_length_le (by simp [← HN.out])] at ho
        exact ho
  · have HR := Lib.hid (show refs sh lv xs = [] by simp only [refs, if_neg hlv])
    go_enter Try.func10, Try.ntmps10
    go_wp2
    all_goals
      go_ret
      refine ⟨_, rfl, ?_, by (repeat' (first | exact Mod.refl _ _ | assumption | refine Mod.alloc ?_ _ | refine Mod.drew ?_ | refine Mod.drewN ?_ _ | refine Mod.setCell ?_ (by first | exact Or.inl rfl | (right; simp; done) | (right; simp; omega) | (left; simp; done)) _))⟩
      rw [HR.out]
      exact OwnS.nil _ _ _ _ _
end Go.Proofs.Ytiojlpjpihmgdaa
