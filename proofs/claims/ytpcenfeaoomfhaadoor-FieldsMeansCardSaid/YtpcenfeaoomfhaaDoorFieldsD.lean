/-
  The law's own: once, known, FieldsLines.
-/
import Derived.Test.YtpcenfeaoomfhaaDoorFieldsC
import Derived.IntWalk
namespace Go.Proofs.YtpcenfeaoomfhaaDoor
open Go.RowKit Go.Shelf
attribute [local go_sem] Oper.semAt_some

theorem wp_as {P : Program} {c : Code} {Q : Exit → Act → World → Prop} {a : Act} {w : World} (Φ : World → Prop) (hΦ : Φ w) (h : ∀ W, Φ W → c.wp P Q a W) : c.wp P Q a w := h w hΦ
def onC (z rb b : Nat) : Prop := b = z ∨ b = rb
def onI (z rb : Nat) (k : Nat) (C : Nat → Prop) (W : World) : Prop := W.heap[z]? = some (.cells #[.int .i64 (k : Int)] 3 (0, 0)) ∧ (∃ b, W.heap[rb]? = some (.cells #[.bool b] 4 (0, 0))) ∧ C = onC z rb
def onX (z rb : Nat) (c : Code) (_k : Nat) (C : Nat → Prop) (W : World) : Prop := c = .ret ∧ W.heap[rb]? = some (.cells #[.bool true] 4 (0, 0)) ∧ C = onC z rb
def onA (z rb : Nat) (T enc : Array Value) (a' : Act) (k : Nat) (C : Nat → Prop) (W : World) : Prop :=
  ∃ v0 v1, enc = #[v0, v1] ∧ a' = { tmps := (((T.setIfInBounds 17 v0).setIfInBounds 18 v1).setIfInBounds 9 v0).setIfInBounds 10 v1, defers := [] } ∧ onI z rb k C W

set_option maxRecDepth 100000 in
set_option maxHeartbeats 4000000 in
theorem once_any (l : Bs) (A : Option Addr) (c : Nat) (ws : List Ln) (most : Int) (D : Nat → Prop) (w : World) (hl : l.length ≤ 1000000) (hmx : MaxVar w) (hA : LnsAt D w A ws) (hD : ∀ b, D b → b < w.heap.size) (hws : ws.map Ln.pr = linesT l) :
    Calls Tryd.prog 8 #[.string ⟨l.toArray⟩, .slice A ws.length c, .int .i64 most] w fun e w' => e = .returned (.bool true) ∧ Mod (fun _ => False) w w' := by
  have hml : 0 < w.heap.size := by obtain ⟨m, hc⟩ := hmx; exact World.block_lt_of_cell? w _ hc
  obtain ⟨N, hN⟩ : ∃ N, N = ws.length := ⟨_, rfl⟩
  have hNL : N = (linesT l).length := by rw [← hws, List.length_map]; exact hN
  have hNl : N ≤ 1000001 := by rw [hNL]; unfold linesT; have := linesL_len 0 (splitC 10 l); have := splitC_len 10 l; omega
  have HN := Lib.hid hN
  have HNL := Lib.hid hNL
  have HMX := Lib.hid hmx
  have HWS := Lib.hid hws
  have HA := Lib.hid hA
  rw [← hN]
  have hnl := fun W' => run_eql_func_nil (P := Tryd.prog) W' Tryd.underlying47 (.func 30) #[]
  clear hN hmx hNL hA hws
  refine callsIn_wide.1 (callsIn_of_wp_marks (n := 0) (F := Fence.wide) Tryd.func8 rfl trivial ?_ rfl)
  simp only [Tryd.ntmps8, List.size_toArray, List.length_cons, List.length_nil, Nat.reduceAdd, Nat.reduceSub, Array.replicate_succ, Array.replicate_zero, List.push_toArray, List.append_toArray, List.nil_append, List.cons_append]
  refine wpIn_wide.2 ?_
  go_wp2_with (first
    | (go_at_call 23; refine (flines_any l _).mono ?_; rintro e w1 ⟨rfl, rfl⟩)
    | fail)
  obtain ⟨B, hB⟩ : ∃ B, B = w.heap.size := ⟨_, rfl⟩
  rw [← hB]
  refine wp_as (fun W => W.heap.size = B + 5 ∧ W.heap[B]? = some (.cells #[.slice A N c] 23 (0, 0)) ∧ W.heap[B + 1]? = some (.cells #[.int .i64 most] 3 (0, 0)) ∧ W.heap[B + 1 + 1]? = some (.cells #[.bool false] 4 (0, 0)) ∧
      W.heap[B + 1 + 1 + 1]? = some (.cells #[.string ⟨l.toArray⟩] 9 (0, 0)) ∧ W.heap[B + 1 + 1 + 1 + 1]? = some (.cells #[.int .i64 0] 3 (0, 0)) ∧ Mod (fun _ => False) w W)
    ⟨by subst hB; simp, by subst hB; exact (hp_alloc (hp_alloc (hp_alloc (hp_alloc (hp_new _ _) _) _) _) _), by subst hB; exact (hp_alloc (hp_alloc (hp_alloc (hp_at _ _ (by simp)) _) _) _), by subst hB; exact (hp_alloc (hp_alloc (hp_at _ _ (by simp)) _) _), by subst hB; exact (hp_alloc (hp_at _ _ (by simp)) _), by subst hB; exact (hp_at _ _ (by simp)), by (repeat' (first | exact Mod.refl _ _ | assumption | refine Mod.alloc ?_ _ | refine Mod.drew ?_ | refine Mod.drewN ?_ _ | refine Mod.setCell ?_ (by first | exact Or.inl rfl | (right; simp; done) | (right; simp; omega) | (left; simp; done)) _))⟩ ?_
  rintro W1 ⟨hsz1, b0, b1, b2, b3, b4, hm1⟩
  have HB := Lib.hid hB
  have hmlB : 0 < B := by rw [hB]; exact hml
  have HA1 := Lib.hid (show LnsAt (fun b => b < B) W1 A ws from (HA.out.keep (hm1.agree fun b hb => ⟨hD b hb, id⟩)).mono fun b hb => by rw [hB]; exact hD b hb)
  have HMX1 := Lib.hid (HMX.out.mod hm1 id)
  have HM1 := Lib.hid hm1
  have HF := Lib.hid (And.intro b0 b1)
  clear hB hm1 b0 b1 hml
  refine (wpIn_wide (n := 0)).1 ?_
  refine wp_rangeG (gf := 30) (lb := #[.pointer (some ⟨B + 1 + 1 + 1, 0, none⟩)]) rfl (enters_of Tryd.func30 (by kernel_rfl) rfl) lnIt_ok
    (flines1_iter (B + 1 + 1 + 1) l (fun b => b = B + 1 + 1 + 1 ∨ b = 0) W1 hl (hp_cell b3 0) (.inl rfl) (.inr rfl) (fun b hb => by rcases hb with rfl | rfl <;> omega) HMX1.out)
    (fun b hb => by rcases hb with (rfl | rfl) | h <;> first | omega | exact h.elim) rfl
    (onI (B + 1 + 1 + 1 + 1) (B + 1 + 1)) (onX (B + 1 + 1 + 1 + 1) (B + 1 + 1)) (onA (B + 1 + 1 + 1 + 1) (B + 1 + 1))
    (fun k C X Y ⟨h1, ⟨b, h2⟩, h3⟩ hA => ⟨hp_agree h1 hA (by rw [h3]; exact .inl rfl), ⟨b, hp_agree h2 hA (by rw [h3]; exact .inr rfl)⟩, h3⟩)
    (fun c k C X Y ⟨h1, h2, h3⟩ hA => ⟨h1, hp_agree h2 hA (by rw [h3]; exact .inr rfl), h3⟩)
    (fun T enc a' k C X Y ⟨v0, v1, g0, g1, h1, ⟨b, h2⟩, h3⟩ hA => ⟨v0, v1, g0, g1, hp_agree h1 hA (by rw [h3]; exact .inl rfl), ⟨b, hp_agree h2 hA (by rw [h3]; exact .inr rfl)⟩, h3⟩)
    (onC (B + 1 + 1 + 1 + 1) (B + 1 + 1)) (fun b hb => by
      rcases hb with rfl | rfl
      · exact ⟨by omega, fun hd => by rcases hd with h | h <;> omega, id⟩
      · exact ⟨by omega, fun hd => by rcases hd with h | h <;> omega, id⟩) ⟨b4, ⟨false, b2⟩, rfl⟩ trivial ?assign ?body ?done ?stop
  case assign =>
    rintro l' k hk enc R C W' ⟨h1, ⟨b, h2⟩, rfl⟩ - ⟨x, A5, -, rfl, -⟩ - hm' hb'
    have H1 := Lib.hid h1
    have H2 := Lib.hid h2
    clear h1 h2 b2 b3 b4
    gi_wp2
    exact ⟨onC _ _, ⟨_, _, rfl, rfl, H1.out, ⟨b, H2.out⟩, rfl⟩, Mod.refl _ _, fun b hb => ⟨(hb' b hb).1, .inl hb⟩⟩
  case body =>
    rintro l' k hk enc R C a' W' ⟨v0, v1, he, rfl, h1, ⟨fb, h2⟩, rfl⟩ - ⟨x, A5, hx, hen, hrd⟩ hR hm' hb' - - -
    rw [hen] at he
    injection he with he
    injection he with he0 he
    injection he with he1 he
    subst he0 he1
    clear he
    have hkN : k < N := by rw [HNL.out]; exact hk
    have hkw : k < ws.length := by rw [← HN.out]; exact hkN
    obtain ⟨y, hy⟩ : ∃ y, y = ws[k] := ⟨_, rfl⟩
    have hxy : x = y.pr := by
      rw [← HWS.out, List.getElem?_map, List.getElem?_eq_getElem hkw, ← hy] at hx
      simpa using hx.symm
    subst hxy
    have MW : Mod (fun b => b = B + 1 + 1 + 1 + 1 ∨ b = B + 1 + 1) W1 W' := hm'.mono fun b _ h => by
      rcases h with h | h
      · exact h
      · exact h.elim
    have hAW := HA1.out.keep (MW.agree (D := fun b => b < B) fun b hb => ⟨by omega, fun h => by omega⟩)
    obtain ⟨bw, ow, rfl, -, hc⟩ := hAW.1 (by omega)
    have w0 : W'.cell? ⟨bw, ow + k * 2, none⟩ = some (.int .i64 (y.N : Int)) := by rw [hy]; exact hc k hkw 0 _ rfl
    have w1 : W'.cell? ⟨bw, ow + k * 2 + 1, none⟩ = some (.slice y.A y.F.length y.c) := by rw [hy]; exact hc k hkw 1 _ rfl
    have HF1 := Lib.hid (show Rd (fun b => b < B) W' 1 csB y.A y.F by rw [hy]; exact hAW.2 _ (List.getElem_mem _))
    have HF2 := Lib.hid (show Rd R W' 1 csB (some A5) y.F from hrd)
    have s0 := hp_cell (hp_mod HF.out.1 MW (by omega)) 0
    have m0 := hp_cell (hp_mod HF.out.2 MW (by omega)) 0
    have c0 := hp_cell h1 0
    have f0 := hp_free h1 0
    have r0 := hp_free h2 0
    have rl := hp_lt h2
    have zl := hp_lt h1
    have H1 := Lib.hid h1
    have H2 := Lib.hid h2
    have HR := Lib.hid hR
    have hyl : y.F.length ≤ 1000001 := by have := linesT_flen l _ (List.mem_of_getElem? hx); have h2 : y.pr.2.length = y.F.length := rfl; omega
    obtain ⟨n5, hn5⟩ : ∃ n5, n5 = y.F.length := ⟨_, rfl⟩
    have hpr : y.pr.2.length = n5 := hn5.symm
    have hpr1 : y.pr.1 = y.N := rfl
    rw [← hn5] at w1 hyl
    simp only [hpr, hpr1]
    have HN5 := Lib.hid hn5
    have hg1 : decide ((N : Int) ≤ (k : Int)) = false := by simp; omega
    have hg2 : decide (N ≤ k) = false := by simp; omega
    clear h1 h2 hc hAW hx hen hrd hR hm' hb' hy hn5 hpr hpr1 hk b2 b3 b4
    gi_wp2
    gi_loopw [11] (fun i X => ∃ j : Nat, j ≤ n5 ∧ i = .int .i64 j ∧ Mod (fun _ => False) W' X) (fun i _ => n5 - (intOf i).toNat)
    case atStart => exact ⟨0, Nat.zero_le _, rfl, Mod.refl _ _⟩
    case round =>
      obtain ⟨j, hj, rfl, hmx⟩ := hrel
      have HMX' := Lib.hid hmx
      by_cases hjn : j < n5
      · have hjy : j < y.F.length := by rw [← HN5.out]; exact hjn
        obtain ⟨q, hq⟩ : ∃ q, q = y.F[j] := ⟨_, rfl⟩
        obtain ⟨b1, o1, hA1', hb1, hc1⟩ := HF1.out.mod hmx (fun b hb => ⟨by omega, id⟩) (by omega)
        obtain ⟨b2, o2, hA2', hb2, hc2⟩ := HF2.out.mod hmx (fun b hb => ⟨(HR.out b hb).1, id⟩) (by omega)
        injection hA2' with hA2'
        subst hA2'
        have q1 : wr.cell? ⟨b1, o1 + j, none⟩ = some (.string ⟨q.toArray⟩) := by rw [hq]; have := hc1 j hjy 0 _ rfl; simpa using this
        have q2 : wr.cell? ⟨b2, o2 + j, none⟩ = some (.string ⟨q.toArray⟩) := by rw [hq]; have := hc2 j hjy 0 _ rfl; simpa using this
        have s0' := (hmx.cell (p := ⟨B, 0, none⟩) (show B < W'.heap.size by omega) id).trans s0
        have c0' := (hmx.cell (p := ⟨B + 1 + 1 + 1 + 1, 0, none⟩) zl id).trans c0
        have w1' := (hmx.cell (p := ⟨bw, ow + k * 2 + 1, none⟩) (World.block_lt_of_cell? W' _ w1) id).trans w1
        rw [hA1'] at w1'
        clear hq hc1 hc2 s0 c0 w0 w1 m0 f0 r0 hmx hA1'
        have hjn2 : decide (n5 ≤ j) = false := by simp; omega
        gi_wp2
        (refine region_quiet_round rfl (by kernel_rfl) (by kernel_rfl) (by kernel_rfl) ?_; (repeat (gi_big_quiet_step (fail))); refine wpQuietIn_nil ?_; intro _ hw'; obtain ⟨nq, hw''⟩ := hw'; subst hw'')
        all_goals gi_wp2
        all_goals exact ⟨⟨j + 1, by omega, by go_num, HMX'.out.drewN _⟩, by simp only [intOf]; omega⟩
      · obtain rfl : j = n5 := by omega
        have s0' := (hmx.cell (p := ⟨B, 0, none⟩) (show B < W'.heap.size by omega) id).trans s0
        have m0' := (hmx.cell (p := ⟨B + 1, 0, none⟩) (show B + 1 < W'.heap.size by omega) id).trans m0
        have H1' := Lib.hid (hp_mod H1.out hmx id)
        have H2' := Lib.hid (hp_mod H2.out hmx id)
        have c0' := hp_cell H1'.out 0
        have f0' := hp_free H1'.out 0
        have r0' := hp_free H2'.out 0
        have r0c := hp_cell H2'.out 0
        have zl' := hp_lt H1'.out
        have rl' := hp_lt H2'.out
        have hw1 : IntKind.i64.wrap ((k : Int) + 1) = (k : Int) + 1 := IntWalk.i64_in _ (by omega)
        clear s0 m0 c0 f0 r0 w0 w1 hmx
        obtain ⟨xb, hxb⟩ : ∃ x, ((k : Int) + 1 == most) = x := ⟨_, rfl⟩
        cases xb
        · gi_wp2
          exact ⟨onC _ _, ⟨hp_eq (hp_set H1'.out 0 _) (by simp), ⟨fb, hp_far H2'.out (by simp) _⟩, rfl⟩, (HMX'.out.mono (fun _ _ h => h.elim)).setCell (.inl (.inl rfl)) _, fun b hb => ⟨by rcases hb with rfl | rfl <;> simpa [World.setCell], .inl hb⟩⟩
        · gi_wp2
          exact ⟨onC _ _, ⟨rfl, hp_eq (hp_set (hp_far H2'.out (by simp) _) 0 _) (by simp), rfl⟩, ((HMX'.out.mono (fun _ _ h => h.elim)).setCell (.inl (.inl rfl)) _).setCell (.inl (.inr rfl)) _, fun b hb => ⟨by rcases hb with rfl | rfl <;> simpa [World.setCell], .inl hb⟩⟩
  case done =>
    rintro W' C' ⟨h1, ⟨b, h2⟩, rfl⟩ _ hm' hb' hK hn'
    rw [hsz1] at hK hn' ⊢
    have h1 : W'.heap[B + 1 + 1 + 1 + 1]? = some (.cells #[.int .i64 ((linesT l).length : Int)] 3 (0, 0)) := h1
    rw [← HNL.out] at h1
    have MW : Mod (fun b => b = B + 1 + 1 + 1 + 1 ∨ b = B + 1 + 1) W1 W' := hm'.mono fun b _ h => by
      rcases h with h | h
      · exact h
      · exact h.elim
    have s0 := hp_cell (hp_mod HF.out.1 MW (by omega)) 0
    have c0 := hp_cell h1 0
    have f0 := hp_free h2 0
    have r0 := hp_cell h2 0
    have H2 := Lib.hid h2
    have HK := Lib.hid hK
    have HMW := Lib.hid MW
    clear h1 h2 hm' hb' hK hn' MW b2 b3 b4
    go_wp2
    have hK2 := hp_far HK.out (p := ⟨B + 1 + 1, 0, none⟩) (show B + 5 ≠ B + 1 + 1 by omega) (.bool true)
    have hR := hp_eq (hp_set H2.out 0 (.bool true)) (cs' := #[.bool true]) (by simp)
    have hR2 : ((W'.setCell ⟨B + 1 + 1, 0, none⟩ (.bool true)).putObj (B + 5) (.deferred none)).heap[B + 1 + 1]? = some (.cells #[.bool true] 4 (0, 0)) := by
      rw [World.putObj_heap_other (by omega)]; exact hR
    have hc := hp_cell hR2 0
    refine retM1 (v := .bool true) rfl hK2 ?_ ⟨rfl, ?_⟩
    · simp [results, asAddr, go_sem] at hc ⊢
      rw [hc]
    · refine Mod.putObj ?_ (.inr (by have := HB.out; omega)) _
      refine Mod.setCell ?_ (.inr (by have := HB.out; show w.heap.size ≤ B + 1 + 1; omega)) _
      exact HM1.out.trans HMW.out (fun b hb => by have := HB.out; rcases hb with rfl | rfl <;> (right; omega))
  case stop =>
    rintro W' C' cc k hk0 hk ⟨rfl, h2, rfl⟩ _ hm' hb' hK hn'
    rw [hsz1] at hK hn' ⊢
    have MW : Mod (fun b => b = B + 1 + 1 + 1 + 1 ∨ b = B + 1 + 1) W1 W' := hm'.mono fun b _ h => by
      rcases h with h | h
      · exact h
      · exact h.elim
    have hR2 : (W'.putObj (B + 5) (.deferred none)).heap[B + 1 + 1]? = some (.cells #[.bool true] 4 (0, 0)) := by
      rw [World.putObj_heap_other (by omega)]; exact h2
    have hc := hp_cell hR2 0
    gi_wp2
    refine retM1 (v := .bool true) rfl hK ?_ ⟨rfl, ?_⟩
    · simp [results, asAddr, go_sem] at hc ⊢
      rw [hc]
    · refine Mod.putObj ?_ (.inr (by have := HB.out; omega)) _
      exact HM1.out.trans MW (fun b hb => by have := HB.out; rcases hb with rfl | rfl <;> (right; omega))

theorem known_lines : linesT [48, 48, 52, 49, 32, 59, 32, 97, 32, 98, 32, 59, 59, 32, 35, 32, 120] = [(1, [[48, 48, 52, 49], [97, 32, 98], [], []])] := by decide +kernel
set_option maxRecDepth 100000 in
theorem known_any (w : World) (hmx : MaxVar w) : Calls Tryd.prog 6 #[] w fun e w' => e = .returned (.bool true) ∧ Mod (fun _ => False) w w' := by
  have HMX := Lib.hid hmx
  clear hmx
  go_enter Tryd.func6, Tryd.ntmps6
  go_wp2_with (first
    | (go_at_call 8
       refine (once_any [48, 48, 52, 49, 32, 59, 32, 97, 32, 98, 32, 59, 59, 32, 35, 32, 120] (some ⟨w.heap.size + 1, 0, none⟩) 1 [⟨1, some ⟨w.heap.size, 0, none⟩, 4, [[48, 48, 52, 49], [97, 32, 98], [], []]⟩] 0 (fun b => b = w.heap.size ∨ b = w.heap.size + 1) _ ?_ ?_ ?_ ?_ ?_).mono ?_
       · decide
       · exact HMX.out.mod (show Mod (fun _ => False) w _ by (repeat' (first | exact Mod.refl _ _ | assumption | refine Mod.alloc ?_ _ | refine Mod.drew ?_ | refine Mod.drewN ?_ _ | refine Mod.setCell ?_ (by first | exact Or.inl rfl | (right; simp; done) | (right; simp; omega) | (left; simp; done)) _))) id
       · refine ⟨(Rd.one (x := (⟨1, some ⟨w.heap.size, 0, none⟩, 4, [[48, 48, 52, 49], [97, 32, 98], [], []]⟩ : Ln)) (hp_at _ (.cells #[.int .i64 1, .slice (some ⟨w.heap.size, 0, none⟩) 4 4] 38) (by simp)) rfl).mono fun b hb => .inr hb, fun x hx => ?_⟩
         rw [List.mem_singleton] at hx
         subst hx
         exact (Rd.blk csB_len (hp_alloc (hp_new _ (.cells #[.string ⟨#[48, 48, 52, 49]⟩, .string ⟨#[97, 32, 98]⟩, .string ⟨#[]⟩, .string ⟨#[]⟩] 9)) _) rfl).mono fun b hb => .inl hb
       · rintro b (rfl | rfl) <;> simp <;> omega
       · exact known_lines.symm
       rintro e w1 ⟨rfl, hm⟩
       have HM := Lib.hid hm
       clear hm)
    | fail)
  go_ret
  refine ⟨rfl, Mod.trans' ?_ HM.out⟩
  (repeat' (first | exact Mod.refl _ _ | assumption | refine Mod.alloc ?_ _ | refine Mod.drew ?_ | refine Mod.drewN ?_ _ | refine Mod.setCell ?_ (by first | exact Or.inl rfl | (right; simp; done) | (right; simp; omega) | (left; simp; done)) _))

/-! ### The law FieldsLines -/
set_option maxRecDepth 100000 in
set_option maxHeartbeats 1000000 in
theorem fieldsLines_any (l : Bs) (leave : Int) (w : World) (hmx : MaxVar w) : Calls Tryd.prog 3 #[.string ⟨l.toArray⟩, .int .i64 leave] w fun e w' => e = .returned (.bool true) ∧ Mod (fun _ => False) w w' := by
  have HMX := Lib.hid hmx
  have HK := Lib.hid (fun X (hX : Mod (fun _ => False) w X) => known_any X (hmx.mod hX id))
  clear hmx
  by_cases hl : l.length ≤ 9000
  · obtain ⟨L, hL⟩ : ∃ L, L = (linesT l).length := ⟨_, rfl⟩
    have HR := Lib.hid (rlines_any l w (by omega))
    have HC := Lib.hid (fun X (hX : Mod (fun _ => False) w X) => count_any l X (by omega) (HMX.out.mod hX id))
    rw [← hL] at HR HC
    have hLl : L ≤ 9001 := by rw [hL]; unfold linesT; have := linesL_len 0 (splitC 10 l); have := splitC_len 10 l; omega
    have HL := Lib.hid hL
    clear hL
    go_enter Tryd.func3, Tryd.ntmps3
    go_wp2_with (first
      | (go_at_call 7
         refine HR.out.mono ?_
         rintro e w1 ⟨A, c, ws, rfl, hws, hat, hm1⟩
         have hwl : ws.length = L := by rw [HL.out, ← hws, List.length_map]
         have HO := Lib.hid (fun X most (hX : Mod (fun _ => False) w1 X) => once_any l A c ws most (fun b => w.heap.size ≤ b ∧ b < w1.heap.size) X (by omega) (HMX.out.mod (hm1.trans' hX) id) (hat.keep (hX.agree fun b hb => ⟨hb.2, id⟩)) (fun b hb => Nat.lt_of_lt_of_le hb.2 hX.size) hws)
         rw [hwl] at HO
         have HM1 := Lib.hid hm1
         clear hm1 hat hws hwl)
      | (go_at_call 8
         (with_reducible refine (HO.out _ 0 (Mod.refl _ _)).mono ?_)
         rintro e w2 ⟨rfl, hm2⟩
         have HM2 := Lib.hid hm2
         clear hm2)
      | (go_at_call 8
         (with_reducible refine (HO.out _ leave HM2.out).mono ?_)
         rintro e w3 ⟨rfl, hm3⟩
         have HM3 := Lib.hid (HM2.out.trans' hm3)
         clear hm3)
      | (go_at_call 9
         refine (HC.out _ (HM1.out.trans' HM3.out)).mono ?_
         rintro e w4 ⟨rfl, hm4⟩
         have HM4 := Lib.hid ((HM1.out.trans' HM3.out).trans' hm4)
         clear hm4)
      | (go_at_call 6
         refine (HK.out _ HM4.out).mono ?_
         rintro e w5 ⟨rfl, hm5⟩
         have HM5 := Lib.hid (HM4.out.trans' hm5)
         clear hm5)
      | fail)
    go_ret
    exact ⟨rfl, HM5.out⟩
  · have hd : decide (9000 < (l.length : Int)) = true := by simp; omega
    have hd2 : decide (9000 < l.length) = true := by simp; omega
    go_enter Tryd.func3, Tryd.ntmps3
    go_wp2_with (go_at_call 6; refine (HK.out _ (Mod.refl _ _)).mono ?_; rintro e w1 ⟨rfl, hm⟩)
    go_ret
    exact ⟨rfl, hm⟩
end Go.Proofs.YtpcenfeaoomfhaaDoor
