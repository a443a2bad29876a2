/-
  Texts of this claim, one behind the other: CliF, RefO, RefV, ResG, RefN.
-/
import Derived.Test.YtmalclclopnlnaaGreatPk01
import Derived.Test.YtmalclclopnlnaaGreatPk02
import Derived.Test.YtmalclclopnlnaaGreatPk09
import Derived.Test.YtmalclclopnlnaaGreatPk11
import Derived.Test.YtmalclclopnlnaaGreatPk14
import Derived.Test.YtmalclclopnlnaaGreatPk16
import Derived.Test.YtmalclclopnlnaaGreatPk18
import Derived.Test.YtmalclclopnlnaaGreatPk30
import Derived.BigQuiet
/-
  The package clients: the iterator over all clients.
-/
namespace Go.Proofs.YtmalclclopnlnaaGreat
open Go.RowKit Go.Shelf
attribute [local go_sem] Oper.semAt_some

theorem sorted_uniq {a b : List Int} (h : a.Perm b) (ha : a.Pairwise (· ≤ ·)) (hb : b.Pairwise (· ≤ ·)) : a = b :=
  List.Perm.eq_of_pairwise (le := (· ≤ ·)) (fun x y _ _ h1 h2 => Int.le_antisymm h1 h2) ha hb h
theorem tab_keys {L : List Told} {ms : List TC} {ys : List Int} (hp : (ms.map TC.told).Perm L) (ht : Tab L) (hy : ys.Perm ((ms.map TC.kv).map Prod.fst)) (hs : ys.Pairwise (· ≤ ·)) : ys = L.map fun x => (x.c : Int) := by
  refine sorted_uniq (hy.trans ?_) hs (List.pairwise_map.2 (ht.1.imp fun h => by omega))
  have := hp.map fun x => (x.c : Int)
  rw [List.map_map] at this ⊢
  exact this
theorem cell_modC {C : Nat → Prop} {w w' : World} {b i : Nat} {v : Value} (h : w.cell? ⟨b, i, none⟩ = some v) (hm : Mod C w w') (hn : ¬ C b) : w'.cell? ⟨b, i, none⟩ = some v :=
  (hm.cell (p := ⟨b, i, none⟩) (World.block_lt_of_cell? w _ h) hn).trans h
theorem rdK {D : Nat → Prop} {w : World} {A : Option Addr} {xs : List Int} (h : Rd D w 1 csK A xs) {k : Nat} (hk : k < xs.length) : ∃ b off, A = some ⟨b, off, none⟩ ∧ D b ∧ w.cell? ⟨b, off + k, none⟩ = some (.int .u64 xs[k]) := by
  obtain ⟨b, off, rfl, hd, hc⟩ := h (by omega)
  refine ⟨b, off, rfl, hd, ?_⟩
  have := hc k hk 0 _ rfl
  simpa using this
/-- What All hands out, rising. -/
def tabIt (L : List Told) (D : Nat → Prop) : It :=
  ⟨L.length, 2, fun k enc _ _ => ∃ x, L[k]? = some x ∧ enc = #[.int .u64 (x.c : Int), .int .u64 (x.n : Int)], D, fun _ => False, fun _ _ => True⟩
theorem tabIt_ok {L : List Told} {D : Nat → Prop} : (tabIt L D).Ok :=
  ⟨fun k enc R W ⟨x, _, h⟩ => by rw [h]; rfl, fun k enc R W W' h _ => h, fun _ _ _ _ _ => trivial, fun _ h => h.elim⟩
set_option maxRecDepth 100000 in
set_option maxHeartbeats 2000000 in
theorem ttall1_iter (bt p m : Nat) (F : Nat → Prop) (L : List Told) (ms : List TC) (D : Nat → Prop) (w : World) (hbt : w.cell? ⟨bt, 0, none⟩ = some (.pointer (some ⟨p, 0, none⟩))) (h : TabAt F p m 47 w L ms) (d1 : D bt) (d2 : D p) (d3 : D m) (hDl : ∀ b, D b → b < w.heap.size) :
    IterG Tryz.prog 33 #[.pointer (some ⟨bt, 0, none⟩)] (tabIt L D) w := by
  intro y J Jx C0 W hAg _ hC hJ hJx hY h0 _
  have hbt' := (hAg.cell (p := ⟨bt, 0, none⟩) d1).trans hbt
  have hp' := hp_agree h.ptr hAg d2
  have hm' := hp_agree h.map hAg d3
  have hgoal : (tabIt L D).n = L.length := rfl
  have hE : (tabIt L D).E = fun _ => False := rfl
  have hS : (tabIt L D).S = fun _ _ => True := rfl
  have HY := Lib.hid hY
  simp only [tabIt] at HY
  rw [hgoal, hE, hS]
  obtain ⟨n, hn⟩ : ∃ n, n = L.length := ⟨_, rfl⟩
  rw [← hn] at HY ⊢
  have HN := Lib.hid hn
  have hn16 : n ≤ 16 := by rw [hn]; exact h.tab.2.1
  have HC := Lib.hid (show ∀ b, C0 b → b < W.heap.size ∧ ¬ D b from fun b hb => ⟨(hC b hb).1, (hC b hb).2.1⟩)
  have HD := Lib.hid (show D bt ∧ D p ∧ D m from ⟨d1, d2, d3⟩)
  have hlen : (ms.map TC.kv).length ≤ 1000000 := by rw [List.length_map, h.len, ← hn]; omega
  have HK := Lib.hid (fun Bt X (hX : Mod (fun _ => False) W X) hBt => sortedKeys_any Bt m (ms.map TC.kv) X hBt (hp_mod hm' hX id) hlen)
  have HTK := Lib.hid (fun ys hy hs => tab_keys (ys := ys) h.perm h.tab hy hs)
  have HGet := Lib.hid (show ∀ k (hk : k < n), ∃ x : Told, ∃ z : Value, L[k]? = some x ∧ ∃ kb A c, mGet (x.c : Int) (ms.map TC.kv) = some (.agg #[.int .u64 (x.n : Int), .slice A kb c]) from fun k hk => by
    have hkl : k < L.length := by omega
    refine ⟨L[k], .nilFunc, List.getElem?_eq_getElem hkl, ?_⟩
    have hat := atT_of h.tab.1 (List.getElem_mem hkl)
    rcases h.get L[k].c with ⟨h1, h2⟩ | ⟨t, ht, htc, h1, h2⟩
    · rw [h2] at hat; cases hat
    · rw [h2] at hat
      injection hat with hat
      rw [h1, ← hat]
      exact ⟨_, _, _, rfl⟩)
  have HP := Lib.hid hp'
  have HMp := Lib.hid hm'
  have HB := Lib.hid hbt'
  have q0 : W.cell? ⟨p, 0, none⟩ = some (.map (some m)) := by rw [hp_cell hp']; rfl
  clear hY hbt hC h hgoal hE hS hp' hm' hlen d1 d2 d3 hn hDl hAg
  refine callsIn_wide.1 (callsIn_of_wp (n := 0) (F := Fence.wide) Tryz.func33 rfl trivial ?_ rfl)
  simp only [Tryz.ntmps33, List.size_toArray, List.length_cons, List.length_nil, Nat.reduceAdd, Nat.reduceSub, Array.replicate_succ, Array.replicate_zero, List.push_toArray, List.append_toArray, List.nil_append, List.cons_append]
  gi_wp2_with (first
    | ((refine ⟨trivial, rfl, ?_⟩; gi_at_call 35)
       refine ci (mkeys_any _ _) ?_
       rintro e w2 ⟨rfl, rfl⟩)
    | ((refine ⟨trivial, rfl, ?_⟩; gi_at_call 34)
       refine ci (HK.out _ _ (by (repeat' (with_reducible (first | exact Mod.refl _ _ | assumption | refine Mod.alloc ?_ _ | refine Mod.drew ?_ | refine Mod.drewN ?_ _ | refine Mod.setCell ?_ (by first | exact Or.inl rfl | (right; simp; done) | (right; simp; omega) | (left; simp; done)) _)))) (hp_new _ _)) ?_
       rintro e w3 ⟨vk, ys, rfl, hok, hperm, hsort, hm3⟩
       have hys := HTK.out ys hperm hsort
       obtain ⟨Ak, ck, hvk, hrk, hfk, hlk⟩ := hok.rd csK_len
       subst hvk
       have M3 : Mod (fun _ => False) W w3 := Mod.trans' (by (repeat' (first | exact Mod.refl _ _ | assumption | refine Mod.alloc ?_ _ | refine Mod.drew ?_ | refine Mod.drewN ?_ _ | refine Mod.setCell ?_ (by first | exact Or.inl rfl | (right; simp; done) | (right; simp; omega) | (left; simp; done)) _))) hm3
       have HM3 := Lib.hid M3
       have HRk := Lib.hid (hrk.mono fun b hb => (hfk b hb))
       have HYs := Lib.hid hys
       obtain ⟨ny, hny⟩ : ∃ k, k = ys.length := ⟨_, rfl⟩
       have hnyn : ny = n := by rw [hny, hys, List.length_map, HN.out]
       rw [← hny, hnyn]
       clear hperm hsort hok hys hny hnyn hm3 hrk hfk hlk M3)
    | fail)
  have hs3 := HM3.out.size
  gi_loopw [14] (fun i wr => ∃ (k : Nat) (C : Nat → Prop), k ≤ n ∧ i = .int .i64 k ∧ J k C wr ∧ Mod C0 w3 wr ∧ (∀ b, C b → b < wr.heap.size ∧ (C0 b ∨ w3.heap.size ≤ b))) (fun i _ => n - (intOf i).toNat)
  case atStart => exact ⟨0, C0, Nat.zero_le _, rfl, hJ _ _ _ _ h0 (HM3.out.agree fun b hb => ⟨(HC.out b hb).1, id⟩), Mod.refl _ _, fun b hb => ⟨Nat.lt_of_lt_of_le (HC.out b hb).1 hs3, .inl hb⟩⟩
  case round =>
    obtain ⟨k, C, hk, rfl, hj, hm, hb⟩ := hrel
    have HM := Lib.hid hm
    have HB2 := Lib.hid (show ∀ b, C b → b < wr.heap.size ∧ (C0 b ∨ W.heap.size ≤ b) from fun b h => ⟨(hb b h).1, (hb b h).2.imp id fun h => by omega⟩)
    have HB3 := Lib.hid hb
    have MW : Mod C0 W wr := (HM3.out.mono fun _ _ h => h.elim).trans' hm
    have HMW := Lib.hid MW
    clear hm hb MW
    by_cases hlt : k < n
    · have hkx : k < ys.length := by rw [HYs.out, List.length_map, ← HN.out]; exact hlt
      obtain ⟨b, off, hA, -, q1⟩ := rdK (HRk.out.mod HM.out (fun b hb => ⟨hb.2, fun h => by have h1 := (HC.out b h).1; have h2 := hb.1; simp at h2; omega⟩)) hkx
      have hA := hA
      subst hA
      obtain ⟨x, z, hx, kb, A, c, hg⟩ := HGet.out k hlt
      have hyk : ys[k] = (x.c : Int) := by
        have h1 : ys[k]? = some (x.c : Int) := by rw [HYs.out, List.getElem?_map, hx]; rfl
        rw [List.getElem?_eq_getElem hkx] at h1
        exact Option.some.inj h1
      rw [hyk] at q1
      have hbt := HD.out
      have b0 := cell_modC HB.out HMW.out (fun h => (HC.out bt h).2 hbt.1)
      have p0 := cell_modC q0 HMW.out (fun h => (HC.out p h).2 hbt.2.1)
      have hlk := run_mget (P := Tryz.prog) (w := wr) kvU_t Tryz.underlying45 (z := .agg #[.int .u64 0, .slice none 0 0]) (by kernel_rfl) (hp_mod HMp.out HMW.out (fun h => (HC.out m h).2 hbt.2.2)) (x.c : Int) false
      rw [hg] at hlk
      have hlk : (Instr.lookup 45 (.map (some m)) (.int .u64 (x.c : Int)) false).run Tryz.prog wr = .ok (.agg #[.int .u64 (x.n : Int), .slice A kb c]) wr := hlk
      have hfd := fld_n (x.n : Int) A kb c
      obtain ⟨fn, tmps, assign, body, hy, hR⟩ := HY.out k hlt #[.int .u64 (x.c : Int), .int .u64 (x.n : Int)] (fun _ => False) C wr hj trivial ⟨x, hx, rfl⟩ (fun b hb => hb.elim) (HMW.out.mono fun _ _ h => .inl h) HB2.out
      clear hx hyk hg q0 hj
      gi_wp2
      refine ⟨rfl, (hR _).mono ?_⟩
      have hs2 := HMW.out.size
      rintro e W3 (⟨rfl, C', hJ3, hm3, hb3⟩ | ⟨rfl, C', hJ3, hm3, hb3⟩)
      all_goals
        have M3 := HM.out.trans hm3 (fun b h => (HB3.out b h).2)
        have M4 := HMW.out.trans hm3 (fun b h => (HB2.out b h).2)
        have hsM := HM.out.size
        have B3 : ∀ b, C' b → b < W3.heap.size ∧ (C0 b ∨ w3.heap.size ≤ b) := fun b h => ⟨(hb3 b h).1, (hb3 b h).2.elim (fun h => (HB3.out b h).2) (fun h => .inr (by omega))⟩
        have B4 : ∀ b, C' b → b < W3.heap.size ∧ (C0 b ∨ W.heap.size ≤ b) := fun b h => ⟨(B3 b h).1, (B3 b h).2.imp id fun h => by omega⟩
      · gi_wp2
        go_roundw
        case rel => exact ⟨k + 1, C', by omega, by go_num, hJ3, M3, B3⟩
        case measure => simp only [intOf]; omega
      · gi_wp2
        refine bodyPost_ret (results_none rfl _ _ _) rfl ?_
        exact ⟨⟨_, rfl⟩, .inr ⟨k + 1, by omega, by omega, trivial, C', hJ3, M4.mono fun _ _ h => .inl h, B4⟩⟩
    · obtain rfl : k = n := by omega
      gi_wp2
      go_end0
      exact ⟨⟨_, rfl⟩, .inl ⟨trivial, C, hj, HMW.out.mono fun _ _ h => .inl h, HB2.out⟩⟩
end Go.Proofs.YtmalclclopnlnaaGreat
/-
  The document's results: two the same.
-/
namespace Go.Proofs.YtmalclclopnlnaaGreat
open Go.RowKit Go.Shelf
attribute [local go_sem] Oper.semAt_some

theorem beq_dec (a b : Bs) : (a == b) = decide (a = b) := by rw [Bool.eq_iff_iff]; simp
set_option maxRecDepth 100000 in
set_option maxHeartbeats 4000000 in
theorem rsameR_any (x y : RC) (w : World) (hx : x.Ok (fun b => b < w.heap.size) w) (hy : y.Ok (fun b => b < w.heap.size) w) :
    Calls Tryz.prog 20 #[x.val, y.val] w fun e w' => e = .returned (.bool (decide (x.res = y.res))) ∧ Mod (fun _ => False) w w' := by
  obtain ⟨n, hn⟩ : ∃ n, n = x.es.length := ⟨_, rfl⟩
  obtain ⟨m, hm⟩ : ∃ m, m = x.cur.length := ⟨_, rfl⟩
  obtain ⟨n', hn'⟩ : ∃ n, n = y.es.length := ⟨_, rfl⟩
  obtain ⟨m', hm'⟩ : ∃ m, m = y.cur.length := ⟨_, rfl⟩
  obtain ⟨kx, yx, Ax, cAx, Bx, cBx, hvx⟩ : ∃ kx yx Ax cAx Bx cBx, x.val = .agg #[.int .i64 kx, .bool yx, .slice Ax n cAx, .slice Bx m cBx] ∧ kx = x.code ∧ yx = x.yes ∧ Ax = x.A ∧ Bx = x.B ∧ cBx = x.cB ∧ cAx = x.cA := ⟨_, _, _, _, _, _, by rw [hn, hm]; rfl, rfl, rfl, rfl, rfl, rfl, rfl⟩
  obtain ⟨ky, yy, Ay, cAy, By, cBy, hvy⟩ : ∃ ky yy Ay cAy By cBy, y.val = .agg #[.int .i64 ky, .bool yy, .slice Ay n' cAy, .slice By m' cBy] ∧ ky = y.code ∧ yy = y.yes ∧ Ay = y.A ∧ By = y.B ∧ cBy = y.cB ∧ cAy = y.cA := ⟨_, _, _, _, _, _, by rw [hn', hm']; rfl, rfl, rfl, rfl, rfl, rfl, rfl⟩
  obtain ⟨hvx, hkx, hyx, hAx, hBx, hcBx, hcAx⟩ := hvx
  obtain ⟨hvy, hky, hyy, hAy, hBy, hcBy, hcAy⟩ := hvy
  rw [hvx, hvy, res_dec]
  have HW1 : Mod (fun _ => False) w ((w.alloc (.cells #[.int .i64 kx, .bool yx, .slice Ax n cAx, .slice Bx m cBx] 37)).alloc (.cells #[.int .i64 ky, .bool yy, .slice Ay n' cAy, .slice By m' cBy] 37)) := by (repeat' (first | exact Mod.refl _ _ | assumption | refine Mod.alloc ?_ _ | refine Mod.drew ?_ | refine Mod.drewN ?_ _ | refine Mod.setCell ?_ (by first | exact Or.inl rfl | (right; simp; done) | (right; simp; omega) | (left; simp; done)) _))
  have q1 := run_str_of (hx.rdC.mod HW1 fun b hb => ⟨hb, id⟩) x.cB
  have q2 := run_str_of (hy.rdC.mod HW1 fun b hb => ⟨hb, id⟩) y.cB
  rw [← hm, ← hBx, ← hcBx] at q1
  rw [← hm', ← hBy, ← hcBy] at q2
  have hbx : ((w.alloc (.cells #[.int .i64 kx, .bool yx, .slice Ax n cAx, .slice Bx m cBx] 37)).alloc (.cells #[.int .i64 ky, .bool yy, .slice Ay n' cAy, .slice By m' cBy] 37)).heap[w.heap.size]? = some (.cells #[.int .i64 kx, .bool yx, .slice Ax n cAx, .slice Bx m cBx] 37 (0, 0)) := hp_alloc (hp_new _ _) _
  have hby : ((w.alloc (.cells #[.int .i64 kx, .bool yx, .slice Ax n cAx, .slice Bx m cBx] 37)).alloc (.cells #[.int .i64 ky, .bool yy, .slice Ay n' cAy, .slice By m' cBy] 37)).heap[w.heap.size + 1]? = some (.cells #[.int .i64 ky, .bool yy, .slice Ay n' cAy, .slice By m' cBy] 37 (0, 0)) := hp_at _ _ (by simp)
  obtain ⟨d0, h0⟩ : ∃ d, (x.code == y.code) = d := ⟨_, rfl⟩
  obtain ⟨d1, h1⟩ : ∃ d, (x.yes == y.yes) = d := ⟨_, rfl⟩
  obtain ⟨d2, h2⟩ : ∃ d, decide (x.es.map EnC.ent = y.es.map EnC.ent) = d := ⟨_, rfl⟩
  obtain ⟨d3, h3⟩ : ∃ d, decide (x.cur = y.cur) = d := ⟨_, rfl⟩
  rw [h0, h1, h2, h3]
  rw [← hkx, ← hky] at h0
  rw [← hyx, ← hyy] at h1
  have i0 : (kx != ky) = !d0 := by unfold bne; rw [h0]
  have hj : (d1 = true → yx = yy) ∧ (d1 = false → yx = !yy) := by rw [← h1]; cases yx <;> cases yy <;> simp
  have i3a : (x.cur == y.cur) = d3 := by rw [beq_dec, h3]
  have i3b : (d3 = true → x.cur = y.cur) ∧ (d3 = false → ¬ x.cur = y.cur) := by rw [← h3]; simp
  have i3 : (x.cur != y.cur) = !d3 := by unfold bne; rw [beq_dec, h3]
  have HA := Lib.hid (fun X (hX : Mod (fun _ => False) w X) => hx.rdE.mod hX (fun b hb => ⟨hb, id⟩))
  have HB := Lib.hid (fun X (hX : Mod (fun _ => False) w X) => hy.rdE.mod hX (fun b hb => ⟨hb, id⟩))
  rw [← hAx] at HA
  rw [← hAy] at HB
  have HOx := Lib.hid (fun X (hX : Mod (fun _ => False) w X) e he => (hx.ok e he).mod hX (fun b hb => ⟨hb, id⟩))
  have HOy := Lib.hid (fun X (hX : Mod (fun _ => False) w X) e he => (hy.ok e he).mod hX (fun b hb => ⟨hb, id⟩))
  have HN := Lib.hid hn
  have HN' := Lib.hid hn'
  have HR := Lib.hid h2
  have HBX := Lib.hid hbx
  have HBY := Lib.hid hby
  have HM0 := Lib.hid HW1
  have hnl : n ≤ 9223372036854775807 := by have := hx.esl; unfold maxLen at this; omega
  have hnl' : n' ≤ 9223372036854775807 := by have := hy.esl; unfold maxLen at this; omega
  clear h0 h1 hx hy hn hm hn' hm' hvx hvy hkx hyx hAx hBx hcBx hcAx hky hyy hAy hBy hcBy hcAy h2 h3 HW1 hbx hby
  cases d0
  · go_enter Tryz.func20, Tryz.ntmps20
    go_wp2
    go_ret
    exact ⟨rfl, by (repeat' (first | exact Mod.refl _ _ | assumption | refine Mod.alloc ?_ _ | refine Mod.drew ?_ | refine Mod.drewN ?_ _ | refine Mod.setCell ?_ (by first | exact Or.inl rfl | (right; simp; done) | (right; simp; omega) | (left; simp; done)) _))⟩
  cases d1
  · obtain rfl := hj.2 rfl
    clear hj
    go_enter Tryz.func20, Tryz.ntmps20
    go_wp2
    go_ret
    exact ⟨rfl, by (repeat' (first | exact Mod.refl _ _ | assumption | refine Mod.alloc ?_ _ | refine Mod.drew ?_ | refine Mod.drewN ?_ _ | refine Mod.setCell ?_ (by first | exact Or.inl rfl | (right; simp; done) | (right; simp; omega) | (left; simp; done)) _))⟩
  obtain rfl := hj.1 rfl
  clear hj
  by_cases hnn : n = n'
  case neg =>
    have e1 : ((n : Int) != (n' : Int)) = true := by rw [bne_iff_ne]; omega
    have hd2 : d2 = false := by
      rw [← HR.out]
      refine decide_eq_false fun e => hnn ?_
      have := congrArg List.length e
      rw [List.length_map, List.length_map, ← HN.out, ← HN'.out] at this
      exact this
    subst hd2
    clear HR
    go_enter Tryz.func20, Tryz.ntmps20
    go_wp2
    go_ret
    exact ⟨by simp, by (repeat' (first | exact Mod.refl _ _ | assumption | refine Mod.alloc ?_ _ | refine Mod.drew ?_ | refine Mod.drewN ?_ _ | refine Mod.setCell ?_ (by first | exact Or.inl rfl | (right; simp; done) | (right; simp; omega) | (left; simp; done)) _))⟩
  case pos =>
    subst hnn
    cases d3
    · have hxc := i3b.2 rfl
      clear i3b
      go_enter Tryz.func20, Tryz.ntmps20
      go_wp2
      go_ret
      exact ⟨by simp, by (repeat' (first | exact Mod.refl _ _ | assumption | refine Mod.alloc ?_ _ | refine Mod.drew ?_ | refine Mod.drewN ?_ _ | refine Mod.setCell ?_ (by first | exact Or.inl rfl | (right; simp; done) | (right; simp; omega) | (left; simp; done)) _))⟩
    · have hxc := i3b.1 rfl
      rw [hxc] at q1
      clear i3b i3 i3a
      go_enter Tryz.func20, Tryz.ntmps20
      go_wp2
      obtain ⟨W0, hW0⟩ : ∃ W0, W0 = (w.alloc (.cells #[.int .i64 kx, .bool yx, .slice Ax n cAx, .slice Bx m cBx] 37)).alloc (.cells #[.int .i64 ky, .bool yx, .slice Ay n cAy, .slice By m' cBy] 37) := ⟨_, rfl⟩
      rw [← hW0] at HBX HBY HM0 ⊢
      clear hW0 q1 q2 i0 hxc
      go_loopw [5] (fun i wr => ∃ k : Nat, k ≤ n ∧ i = .int .i64 k ∧ (x.es.take k).map EnC.ent = (y.es.take k).map EnC.ent ∧ Mod (fun _ => False) W0 wr) (fun i _ => n - (intOf i).toNat)
      case atStart => exact ⟨0, Nat.zero_le _, rfl, by simp, Mod.refl _ _⟩
      case round =>
        obtain ⟨k, hk, rfl, he, hmw⟩ := hrel
        have HE := Lib.hid he
        have hbx := hp_mod HBX.out hmw id
        have hby := hp_mod HBY.out hmw id
        have X2 : wr.cell? ⟨w.heap.size, 2, none⟩ = some (.slice Ax n cAx) := by rw [hp_cell hbx]; rfl
        have Y2 : wr.cell? ⟨w.heap.size + 1, 2, none⟩ = some (.slice Ay n cAy) := by rw [hp_cell hby]; rfl
        have HMw := Lib.hid (HM0.out.trans' hmw)
        have HMr := Lib.hid hmw
        clear he hmw hbx hby
        by_cases hlt : k < n
        · have hkx : k < x.es.length := by rw [← HN.out]; exact hlt
          have hky : k < y.es.length := by rw [← HN'.out]; exact hlt
          obtain ⟨b1, o1, rfl, -, p0, p1⟩ := rdEn (HA.out _ HMw.out) hkx
          obtain ⟨b2, o2, rfl, -, q0, q1⟩ := rdEn (HB.out _ HMw.out) hky
          obtain ⟨e, hx'⟩ : ∃ e, e = x.es[k] := ⟨_, rfl⟩
          obtain ⟨f, hy'⟩ : ∃ f, f = y.es[k] := ⟨_, rfl⟩
          rw [← hx'] at p0 p1
          rw [← hy'] at q0 q1
          have HTx := Lib.hid (show x.es.take (k + 1) = x.es.take k ++ [e] by rw [hx']; exact List.take_succ_eq_append_getElem hkx)
          have HTy := Lib.hid (show y.es.take (k + 1) = y.es.take k ++ [f] by rw [hy']; exact List.take_succ_eq_append_getElem hky)
          have HS := Lib.hid (fun X (hX : Mod (fun _ => False) wr X) => rsame_any e.nm f.nm e.A f.A e.c f.c e.ats f.ats X ((HOx.out X (HMw.out.trans' hX) e (by rw [hx']; exact List.getElem_mem _)).rd.mono fun b hb => Nat.lt_of_lt_of_le hb (HMw.out.trans' hX).size) ((HOy.out X (HMw.out.trans' hX) f (by rw [hy']; exact List.getElem_mem _)).rd.mono fun b hb => Nat.lt_of_lt_of_le hb (HMw.out.trans' hX).size)
            (HOx.out X (HMw.out.trans' hX) e (by rw [hx']; exact List.getElem_mem _)).ats (HOy.out X (HMw.out.trans' hX) f (by rw [hy']; exact List.getElem_mem _)).ats)
          clear hx' hy'
          obtain ⟨z, hz⟩ : ∃ z, z = sameE e.nm f.nm e.ats f.ats := ⟨_, rfl⟩
          rw [← hz] at HS
          have hz2 := hz.trans (sameE_ent e f)
          clear hz
          have a0 := cell_regrown p0
          have a1 := cell_regrown p1
          have a2 := cell_regrown q0
          have a3 := cell_regrown q1
          have a4 := cell_regrown X2
          have a5 := cell_regrown Y2
          cases z
          · have HF := Lib.hid (show d2 = false by
              rw [← HR.out]
              simp only [decide_eq_false_iff_not]
              intro e0
              have h1 : (x.es.take (k + 1)).map EnC.ent = (y.es.take (k + 1)).map EnC.ent := by rw [List.map_take, List.map_take, e0]
              rw [HTx.out, HTy.out, List.map_append, List.map_append, HE.out, List.append_cancel_left_eq] at h1
              simp only [List.map_cons, List.map_nil, List.cons.injEq, and_true] at h1
              rw [decide_eq_true h1] at hz2
              cases hz2)
            clear hz2
            go_wp2
            refine wp_region_quiet_below (by kernel_rfl) (by kernel_rfl) ?_
            repeat (go_big_quiet_step ((first | (first | (go_at_call 37; with_reducible exact regM fun X hX => HS.out X hX) | fail) | fail)))
            refine wpQuiet_nil ?_
            intro W1 hW1
            have HQ := mod_of_regrown hW1
            clear hW1
            go_wp2
            go_ret
            exact ⟨by rw [HF.out]; rfl, HMw.out.trans' HQ⟩
          · have hz3 : e.ent = f.ent := of_decide_eq_true hz2.symm
            have HG := Lib.hid (show (x.es.take (k + 1)).map EnC.ent = (y.es.take (k + 1)).map EnC.ent by rw [HTx.out, HTy.out, List.map_append, List.map_append, HE.out]; simp [hz3])
            clear hz2 hz3
            go_wp2
            refine wp_region_quiet_below (by kernel_rfl) (by kernel_rfl) ?_
            repeat (go_big_quiet_step ((first | (first | (go_at_call 37; with_reducible exact regM fun X hX => HS.out X hX) | fail) | fail)))
            refine wpQuiet_nil ?_
            intro W1 hW1
            have HQ := mod_of_regrown hW1
            clear hW1
            go_wp2
            exact ⟨⟨k + 1, by omega, by go_num, HG.out, HMr.out.trans' HQ⟩, by simp only [intOf]; omega⟩
        · obtain rfl : k = n := by omega
          have hd : d2 = true := by
            rw [← HR.out]
            refine decide_eq_true ?_
            have := HE.out
            rwa [List.take_of_length_le (by rw [← HN.out]; exact Nat.le_refl _), List.take_of_length_le (by rw [← HN'.out]; exact Nat.le_refl _)] at this
          subst hd
          clear HR
          go_wp2
          go_ret
          exact ⟨rfl, HMw.out⟩
end Go.Proofs.YtmalclclopnlnaaGreat
/-
  The reference of the package tlv: a value.
-/
namespace Go.Proofs.YtmalclclopnlnaaGreat
open Go.RowKit Go.Shelf
attribute [local go_sem] Oper.semAt_some

section
variable {α : Type} {E sz : Nat} {cs : α → List Value} {base : Nat} {xs : List α} {w : World}
theorem own_of_cells' (hcs : ∀ x, (cs x).length = sz) {g c : Nat} {cur : Array Value} (hh : w.heap[g]? = some (.cells cur E (0, 0))) (hb : base ≤ g) (hc : xs.length ≤ c) (hm : c ≤ maxLen) (hsz : cur.size = c * sz)
    (h : ∀ k (hk : k < xs.length) j u, (cs xs[k])[j]? = some u → w.cell? ⟨g, 0 + k * sz + j, none⟩ = some u) : OwnS base E sz cs w (.slice (some ⟨g, 0, none⟩) xs.length c) xs := by
  refine ⟨flat_length hcs xs, .inr ⟨g, c, cur, rfl, hb, hh, hc, hm, hsz, ?_⟩⟩
  have hle : xs.length * sz ≤ c * sz := Nat.mul_le_mul_right _ hc
  refine flat_ext hcs _ (by have h0 : cur.toList.length = cur.size := Array.length_toList; rw [List.length_take, h0, hsz]; exact Nat.min_eq_left hle) fun k hk j hj => ?_
  have hlt : k * sz + j < xs.length * sz := by
    have : (k + 1) * sz ≤ xs.length * sz := Nat.mul_le_mul_right _ hk
    rw [Nat.succ_mul] at this; omega
  rw [List.getElem?_take_of_lt hlt]
  have hcl : j < (cs xs[k]).length := by rw [hcs]; exact hj
  have := h k hk j _ (List.getElem?_eq_getElem hcl)
  rw [Nat.zero_add, hp_cell hh] at this
  rw [Array.getElem?_toList, this, List.getElem?_eq_getElem hcl]
end
theorem head_cells2 (t : UInt8) (m : Nat) (hm : m ≤ 4194304) : [Value.int .u8 (t.toNat : Int), .int .u8 ((m : Int) / 16777216), .int .u8 ((m : Int) / 65536 % 256), .int .u8 ((m : Int) / 256 % 256), .int .u8 ((m : Int) % 256)] = (t :: lenB m).flatMap csU := by
  simp only [lenB, csU, List.flatMap_cons, List.flatMap_nil, List.cons_append, List.nil_append, UInt8.toNat_ofNat']
  have e1 : (m : Int) / 16777216 = ((m / 16777216 % 2 ^ 8 : Nat) : Int) := by omega
  have e2 : (m : Int) / 65536 % 256 = ((m / 65536 % 256 % 2 ^ 8 : Nat) : Int) := by omega
  have e3 : (m : Int) / 256 % 256 = ((m / 256 % 256 % 2 ^ 8 : Nat) : Int) := by omega
  have e4 : (m : Int) % 256 = ((m % 256 % 2 ^ 8 : Nat) : Int) := by omega
  rw [e1, e2, e3, e4]
set_option maxRecDepth 100000 in
set_option maxHeartbeats 4000000 in
theorem fvalue_any (t : UInt8) (D : Nat → Prop) (A : Option Addr) (c : Nat) (xs : Bs) (w : World) (hA : Rd D w 1 csU A xs) (hl : xs.length ≤ 4194304) :
    Calls Tryz.prog 44 #[.int .u8 (t.toNat : Int), .slice A xs.length c] w fun e w' => ∃ A' c', e = .returned (.slice A' (valV t xs).length c') ∧ OwnS w.heap.size 5 1 csU w' (.slice A' (valV t xs).length c') (valV t xs) ∧ Mod (fun _ => False) w w' := by
  obtain ⟨m, hm⟩ : ∃ m, m = xs.length := ⟨_, rfl⟩
  rw [← hm] at hl ⊢
  have HA := Lib.hid (show Rd (fun b => D b ∧ b < w.heap.size) w 1 csU A xs from hA.lt csU_len (by decide))
  have HM := Lib.hid hm
  have HCe := Lib.hid (head_cells2 t m hl)
  clear hm hA
  go_enter Tryz.func44, Tryz.ntmps44
  have HLn := Lib.hid (show (t :: lenB m).length = 5 from rfl)
  have hown : OwnS w.heap.size 5 1 csU (w.alloc (.cells #[.int .u8 (t.toNat : Int), .int .u8 ((m : Int) / 16777216), .int .u8 ((m : Int) / 65536 % 256), .int .u8 ((m : Int) / 256 % 256), .int .u8 ((m : Int) % 256)] 5)) (.slice (some ⟨w.heap.size, 0, none⟩) 5 5) (t :: lenB m) := by
    have hb := hp_new w (.cells #[.int .u8 (t.toNat : Int), .int .u8 ((m : Int) / 16777216), .int .u8 ((m : Int) / 65536 % 256), .int .u8 ((m : Int) / 256 % 256), .int .u8 ((m : Int) % 256)] 5 (0, 0))
    have h := own_of_cells' (xs := t :: lenB m) (cs := csU) csU_len (c := 5) hb (Nat.le_refl _) (Nat.le_refl _) (by simp [maxLen]) rfl (fun k hk j u hu => by
      have hr := Rd.blk csU_len hb HCe.out (by rw [HLn.out]; omega)
      obtain ⟨b', off', he, _, hc⟩ := hr
      injection he with he
      injection he with e1 e2
      subst e1 e2
      have := hc k hk j u hu
      rw [Nat.zero_add] at this ⊢
      exact this)
    exact h
  have HOwn := Lib.hid hown
  clear hown
  go_wp2_with (at_builtin
               refine wpList_app (base := w.heap.size) (xs := t :: lenB m) (ys := xs) (D := fun b => D b ∧ b < w.heap.size) (v := .slice (some ⟨w.heap.size, 0, none⟩) 5 5) rfl (.tmp 25) (.tmp 26) rfl u8s_t csU_len csU_one rfl HOwn.out c rfl HM.out (HA.out.below ((Below.refl _ w).alloc (Nat.le_refl _) _) fun b h => h.2) ?_ ?_ ?_ ?_
               · rw [HLn.out, ← HM.out]; simp [maxLen]; omega
               · rw [HLn.out, ← HM.out]; omega
               · simp
               intro v' w2 hown2 hm2 hat2
               have hown2 : OwnS w.heap.size 5 1 csU w2 v' (valV t xs) := by unfold valV; rw [← HM.out]; exact hown2
               obtain ⟨A2, c2, hv2, -, hfr2, hml2⟩ := OwnS.rd hown2 csU_len
               obtain ⟨n2, hn2⟩ : ∃ n, n = (valV t xs).length := ⟨_, rfl⟩
               rw [← hn2] at hv2
               subst hv2
               have HN2 := Lib.hid hn2
               have HO2 := Lib.hid hown2
               have M2 := Lib.hid (((Mod.refl (fun _ => False) w).alloc (.cells #[.int .u8 (t.toNat : Int), .int .u8 ((m : Int) / 16777216), .int .u8 ((m : Int) / 65536 % 256), .int .u8 ((m : Int) / 256 % 256), .int .u8 ((m : Int) % 256)] 5)).trans hm2 (fun b hb => by simp [Value.ownBlock] at hb; right; omega))
               clear hm2 hown2 hat2 hfr2 hml2 hn2)
  go_ret
  exact ⟨A2, c2, by rw [HN2.out]; rfl, by rw [← HN2.out]; exact HO2.out, M2.out⟩
end Go.Proofs.YtmalclclopnlnaaGreat
/-
  The document's values: a flag.
-/
namespace Go.Proofs.YtmalclclopnlnaaGreat
open Go.RowKit Go.Shelf
attribute [local go_sem] Oper.semAt_some

theorem fflag_any (t : UInt8) (b : Bool) (w : World) : Calls Tryz.prog 43 #[.int .u8 (t.toNat : Int), .bool b] w fun e w' => ∃ A c k, e = .returned (.slice A k c) ∧ k = (valV t (flB b)).length ∧ OwnS w.heap.size 5 1 csU w' (.slice A k c) (valV t (flB b)) ∧ Mod (fun _ => False) w w' := by
  obtain ⟨k, hk⟩ : ∃ k : UInt8, k = if b then 1 else 0 := ⟨_, rfl⟩
  obtain ⟨W1, hW1⟩ : ∃ W1, W1 = w.alloc (.cells #[.int .u8 (k.toNat : Int)] 5) := ⟨_, rfl⟩
  have hm1 : Mod (fun _ => False) w W1 := by rw [hW1]; (repeat' (first | exact Mod.refl _ _ | assumption | refine Mod.alloc ?_ _ | refine Mod.drew ?_ | refine Mod.drewN ?_ _ | refine Mod.setCell ?_ (by first | exact Or.inl rfl | (right; simp; done) | (right; simp; omega) | (left; simp; done)) _))
  have hb1 : W1.heap[w.heap.size]? = some (.cells #[.int .u8 (k.toNat : Int)] 5 (0, 0)) := by rw [hW1]; exact hp_new _ _
  have hf : flB b = [k] := by rw [hk]; cases b <;> rfl
  have hv := fvalue_any t _ (some ⟨w.heap.size, 0, none⟩) 1 [k] W1 (Rd.one hb1 rfl) (by simp)
  rw [hf]
  obtain ⟨n, hn⟩ : ∃ n, n = (valV t [k]).length := ⟨_, rfl⟩
  rw [← hn] at hv ⊢
  rw [hW1] at hv
  have HV := Lib.hid hv
  have HM := Lib.hid hm1
  rw [hW1] at HM
  clear hv hb1 hm1 hf hW1 hn
  cases b
  all_goals
    subst hk
    go_enter Tryz.func43, Tryz.ntmps43
    go_wp2_with (first
      | (go_at_call 44
         refine HV.out.mono ?_
         rintro e w2 ⟨A', c', rfl, ho, hm2⟩
         have HO := Lib.hid ho
         have HM2 := Lib.hid hm2
         clear ho hm2)
      | fail)
    go_ret
    exact ⟨A', c', n, rfl, rfl, HO.out.less HM.out.size, HM.out.trans' HM2.out⟩
end Go.Proofs.YtmalclclopnlnaaGreat
/-
  The document's values: a number.
-/
namespace Go.Proofs.YtmalclclopnlnaaGreat
open Go.RowKit Go.Shelf
attribute [local go_sem] Oper.semAt_some

theorem div_pow (n k : Nat) : n / 256 ^ k / 256 = n / 256 ^ (k + 1) := by rw [Nat.div_div_eq_div_mul, ← Nat.pow_succ]
set_option maxRecDepth 100000 in
set_option maxHeartbeats 2000000 in
theorem fnumber_any (t : UInt8) (n : Nat) (w : World) (hn : n < 18446744073709551616) : Calls Tryz.prog 42 #[.int .u8 (t.toNat : Int), .int .u64 (n : Int)] w fun e w' => ∃ A c k, e = .returned (.slice A k c) ∧ k = (valV t (be 8 n)).length ∧ OwnS w.heap.size 5 1 csU w' (.slice A k c) (valV t (be 8 n)) ∧ Mod (fun _ => False) w w' := by
  have hmk : (Instr.makeSlice 35 (.int .i64 8) (.int .i64 8)).run Tryz.prog w = .ok (.slice (some ⟨w.heap.size, 0, none⟩) 8 8) (w.alloc (.cells (madeCells (Value.int .u8 0).cells 8) 5)) :=
    run_makeSlice (P := Tryz.prog) (w := w) 35 5 _ (.int .u8 0) Tryz.underlying35 rfl rfl .i64 .i64 8 8 (by decide) (by decide) (by decide) (by decide) (by decide)
  rw [show madeCells (Value.int .u8 0).cells 8 = ((numW n 0).flatMap csU).toArray from made8 n] at hmk
  obtain ⟨W1, hW1⟩ : ∃ W1, W1 = w.alloc (.cells ((numW n 0).flatMap csU).toArray 5) := ⟨_, rfl⟩
  have hb1 : W1.heap[w.heap.size]? = some (.cells ((numW n 0).flatMap csU).toArray 5 (0, 0)) := by rw [hW1]; exact hp_new _ _
  have hm1 : Mod (fun _ => False) w W1 := by rw [hW1]; (repeat' (first | exact Mod.refl _ _ | assumption | refine Mod.alloc ?_ _ | refine Mod.drew ?_ | refine Mod.drewN ?_ _ | refine Mod.setCell ?_ (by first | exact Or.inl rfl | (right; simp; done) | (right; simp; omega) | (left; simp; done)) _))
  rw [← hW1] at hmk
  have HB1 := Lib.hid hb1
  have HM1 := Lib.hid hm1
  have HNn := Lib.hid hn
  obtain ⟨z, hz⟩ : ∃ z, z = w.heap.size := ⟨_, rfl⟩
  rw [← hz] at hmk HB1
  have HZ := Lib.hid hz
  clear hW1 hb1 hm1 hz hn
  go_enter Tryz.func42, Tryz.ntmps42
  go_wp2
  go_loopw [1, 6] (fun u i wr => ∃ k : Nat, k ≤ 8 ∧ i = .int .i64 (7 - (k : Int)) ∧ u = .int .u64 ((n / 256 ^ k : Nat) : Int) ∧ wr.heap[z]? = some (.cells ((numW n k).flatMap csU).toArray 5 (0, 0)) ∧ Mod (fun _ => False) w wr) (fun _ i _ => (intOf i + 1).toNat)
  case atStart => exact ⟨0, by omega, rfl, by simp, HB1.out, HM1.out⟩
  case round =>
    obtain ⟨k, hk, rfl, rfl, hb, hm⟩ := hrel
    have HB := Lib.hid hb
    have HM := Lib.hid hm
    obtain ⟨q, hq⟩ : ∃ q, q = n / 256 ^ k := ⟨_, rfl⟩
    have HQ := Lib.hid hq
    have HQn := Lib.hid (show q / 256 = n / 256 ^ (k + 1) by rw [hq]; exact div_pow n k)
    have hql : q < 18446744073709551616 := Nat.lt_of_le_of_lt (by rw [hq]; exact Nat.div_le_self _ _) HNn.out
    rw [← hq]
    clear hq
    by_cases hk8 : k = 8
    · subst hk8
      have hrd : Rd (fun b => b = z) wr 1 csU (some ⟨z, 0, none⟩) (numW n 8) := Rd.blk csU_len hb rfl
      have hv := fvalue_any t _ (some ⟨z, 0, none⟩) 8 (be 8 n) wr hrd (by rw [be_len]; decide)
      rw [be_len] at hv
      obtain ⟨kk, hkk⟩ : ∃ z, z = (valV t (be 8 n)).length := ⟨_, rfl⟩
      rw [← hkk] at hv
      have HKk := Lib.hid hkk
      have HV := Lib.hid (show Calls Tryz.prog 44 #[.int .u8 (t.toNat : Int), .slice (some ⟨z, 0, none⟩) 8 8] wr _ from hv)
      clear hb hm hrd hv hkk
      go_wp2_with (first
        | (go_at_call 44
           (with_reducible refine HV.out.mono ?_)
           rintro e w2 ⟨A', c', rfl, ho, hm2⟩
           have HO := Lib.hid ho
           have HM2 := Lib.hid hm2
           clear ho hm2)
        | fail)
      go_ret
      exact ⟨A', c', kk, rfl, HKk.out, HO.out.less HM.out.size, HM.out.trans' HM2.out⟩
    · have hk7 : k < 8 := by omega
      obtain ⟨u, hu⟩ : ∃ u, wr.cell? ⟨z, 7 - k, none⟩ = some u := by
        rw [hp_cell hb]
        have hl : ((numW n k).flatMap csU).toArray.size = 8 := by rw [flat_csU]; simp [numW_len n k hk]
        exact ⟨_, Array.getElem?_eq_getElem (by omega)⟩
      have hf : wr.frozen? ⟨z, 7 - k, none⟩ = false := hp_free hb _
      clear hb hm
      go_wp2
      have e1 : ((q : Int) % 256) = ((n / 256 ^ k % 256 : Nat) : Int) := by rw [← HQ.out]; omega
      have e2 : (q : Int) / 256 = ((n / 256 ^ (k + 1) : Nat) : Int) := by rw [← HQn.out]; omega
      rw [e1, e2]
      refine ⟨⟨k + 1, by omega, by congr 1; omega, rfl, ?_, ?_⟩, ?_⟩
      · rw [← numW_set n k hk7]
        exact hp_set HB.out _ _
      · have := HZ.out
        exact HM.out.setCell (.inr (by show w.heap.size ≤ z; omega)) _
      · simp only [intOf]; omega
end Go.Proofs.YtmalclclopnlnaaGreat
