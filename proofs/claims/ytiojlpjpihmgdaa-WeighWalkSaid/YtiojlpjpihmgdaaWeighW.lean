/-
  The law WeighWalk: its walk.
-/
import Derived.Test.YtiojlpjpihmgdaaWeighI
import Derived.Test.YtiojlpjpihmgdaaWeighE
import Derived.Sort.AtCall
import Derived.IntWalk
import Derived.Test.YtiojlpjpihmgdaaRound
namespace Go.Proofs.Ytiojlpjpihmgdaa
open Go.RowKit Go.Shelf
attribute [local go_sem] Oper.semAt_some

/-- A function's end behind any number of ranges over functions. -/
theorem leaves_many {P : Program} {fn : Func} {tmps : Array Value} {R : Ending → World → Prop} {n : Nat} {u : FrameMode} (hu : u ≠ .run) : ∀ (Ds : List Nat) (w : World), Ds.Nodup → (∀ D ∈ Ds, w.heap[D]? = some (.deferred (some []))) →
    (∀ W, Mod (fun b => b ∈ Ds) w W → LeavesInM Fence.wide n P fn tmps R [] u W) → LeavesInM Fence.wide n P fn tmps R (Ds.map fun D => { target := .collected D, args := #[] }) u w
  | [], w, _, _, h => h w (Mod.refl _ _)
  | D :: Ds, w, hn, hk, h => by
    refine ⟨hu, .inl ⟨D, _, rfl, run_takeDeferred (hk D (by simp)), ?_⟩⟩
    rw [List.nodup_cons] at hn
    refine leaves_many hu Ds _ hn.2 (fun D' hD' => ?_) (fun W hW => h W ?_)
    · rw [World.putObj_heap_other (fun e => hn.1 (by first | exact e ▸ hD' | exact e.symm ▸ hD'))]
      exact hk D' (by simp [hD'])
    · exact ((Mod.refl _ w).putObj (.inl (by simp)) _).trans (C' := fun b => b ∈ Ds) hW (fun b hb => .inl (by simp [hb]))

theorem rd_keepG {α : Type} {cs : α → List Value} {sz : Nat} {w w' : World} {A : Option Addr} {xs : List α} (h : Rd (fun b => b < w.heap.size) w sz cs A xs) (hm : Mod (fun _ => False) w w') : Rd (fun b => b < w'.heap.size) w' sz cs A xs :=
  (h.mod hm (fun _ hb => ⟨hb, id⟩)).mono fun _ hb => Nat.lt_of_lt_of_le hb hm.size
theorem wp_as {P : Program} {c : Code} {Q : Exit → Act → World → Prop} {a : Act} {w : World} (Φ : World → Prop) (hΦ : Φ w) (h : ∀ W, Φ W → c.wp P Q a W) : c.wp P Q a w := h w hΦ
theorem walk_nil (s : Bool) (n : Int) (w : World) :
    Calls Try.prog 8 #[.agg #[.bool s, .int .i64 n], .nilFunc] w fun e w' =>
      e = .returned (.func (.func 15) #[] #[.pointer (some ⟨w.heap.size + 1, 0, none⟩), .pointer (some ⟨w.heap.size, 0, none⟩)]) ∧
      (w.alloc (.cells #[.bool s, .int .i64 n] 23)).alloc (.cells #[.nilFunc] 46) = w' := by
  go_enter Try.func8, Try.ntmps8
  go_wp2
  go_ret
  exact ⟨rfl, rfl⟩

set_option maxRecDepth 100000 in
theorem walknil_iter (Bq Bo : Nat) (D : Nat → Prop) (w : World) (hq : w.cell? ⟨Bq, 0, none⟩ = some .nilFunc) (hD : D Bq) (hDl : ∀ b, D b → b < w.heap.size) :
    IterG Try.prog 15 #[.pointer (some ⟨Bq, 0, none⟩), .pointer (some ⟨Bo, 0, none⟩)] (wtIt [] D (fun _ => False) (fun _ _ => True)) w := by
  intro l J Jx C0 W hAg _ hC hJ hJx _ h0 _
  have q' := (hAg.cell (p := ⟨Bq, 0, none⟩) hD).trans hq
  have hbq : Bq < W.heap.size := Nat.lt_of_lt_of_le (hDl _ hD) hAg.size
  have hn := fun W' => run_eql_nilfunc_nil (P := Try.prog) W' Try.underlying46
  clear hq hAg
  refine callsIn_wide.1 (callsIn_of_wp_marks (n := 0) (F := Fence.wide) Try.func15 rfl trivial ?_ rfl)
  simp only [Try.ntmps15, List.size_toArray, List.length_cons, List.length_nil, Nat.reduceAdd, Nat.reduceSub, Array.replicate_succ, Array.replicate_zero, List.push_toArray, List.append_toArray, List.nil_append, List.cons_append]
  gi_wp2_with (first | (refine ⟨trivial, ?_⟩) | fail)
  refine retM0 rfl (results_none rfl _ _ _) ⟨⟨_, rfl⟩, .inl ⟨trivial, ?_⟩⟩
  exact ⟨C0, hJ _ _ _ _ h0 (Agree.below ((Below.refl _ _).alloc (Nat.le_refl _) _) fun b h => (hC b h).1), by (repeat' (first | exact Mod.refl _ _ | assumption | refine Mod.alloc ?_ _ | refine Mod.drew ?_ | refine Mod.drewN ?_ _ | refine Mod.setCell ?_ (by first | exact Or.inl rfl | (right; simp; done) | (right; simp; omega) | (left; simp; done)) _)), fun b h => ⟨by have := (hC b h).1; simp; omega, .inl h⟩⟩

def noI (_ : Nat) (C : Nat → Prop) (_ : World) : Prop := C = fun _ => False
def wwI (z : Nat) (k : Nat) (C : Nat → Prop) (W : World) : Prop := W.heap[z]? = some (.cells #[.int .i64 (k : Int)] 3 (0, 0)) ∧ C = fun b => b = z
def wwX (z : Nat) (lf : Int) (c : Code) (k : Nat) (C : Nat → Prop) (W : World) : Prop := c = .exit 4 ∧ (k : Int) = lf ∧ wwI z k C W
def wwA (z : Nat) (ws : List Wt) (T _enc : Array Value) (a' : Act) (k : Nat) (C : Nat → Prop) (W : World) : Prop :=
  ∃ bE x, ws[k]? = some x ∧ a' = { tmps := (T.setIfInBounds 39 x.v).setIfInBounds 13 (.pointer (some ⟨bE, 0, none⟩)), defers := [] } ∧ z < bE ∧ W.heap[z]? = some (.cells #[.int .i64 (k : Int)] 3 (0, 0)) ∧
    W.heap[bE]? = some (.cells #[.int .u16 x.a, .int .u16 x.b, .int .u16 x.c, .int .u16 x.d] 38 (0, 0)) ∧ C = fun b => b = z ∨ b = bE
set_option maxRecDepth 100000 in
set_option maxHeartbeats 8000000 in
theorem weighWalk_any (sh : Bool) (lv : Int) (A : Option Addr) (c : Nat) (xs : List El) (lf : Int) (w : World) (hA : Rd (fun b => b < w.heap.size) w 4 El.cs A xs) (hl : xs.length ≤ maxLen) :
    Calls Try.prog 3 #[.agg #[.bool sh, .int .i64 lv], .slice A xs.length c, .int .i64 lf] w fun e w' => e = .returned (.bool true) ∧ Mod (fun _ => False) w w' := by
  have HA0 := Lib.hid hA
  have HA := Lib.hid (fun X (hX : Mod (fun _ => False) w X) => rd_keepG hA hX)
  have HS := Lib.hid (fun X (hX : Mod (fun _ => False) w X) => sound_any _ A c xs X (HA.out X hX) hl)
  by_cases hs : soundL xs = true
  · have hlen : xs.length ≤ 200 := by simp [soundL] at hs; exact hs.2
    have HR := Lib.hid (weighs_refs sh lv xs hs)
    rw [hs] at HS
    obtain ⟨N, hN⟩ : ∃ N, N = xs.length := ⟨_, rfl⟩
    rw [← hN] at hlen HS ⊢
    have HN := Lib.hid hN
    obtain ⟨ws, hws⟩ : ∃ ws, ws = weighs sh lv xs := ⟨_, rfl⟩
    obtain ⟨M, hM⟩ : ∃ M, M = ws.length := ⟨_, rfl⟩
    have HM := Lib.hid hM
    have hMN : M ≤ N := by rw [hM, hws, hN]; exact weighs_len sh lv xs
    have HWS := Lib.hid hws
    clear hN hws hs hl hM hA
    have hnl := fun W' => run_eql_func_nil (P := Try.prog) W' Try.underlying28 (.func 15) #[]
    refine callsIn_wide.1 (callsIn_of_wp_marks (n := 0) (F := Fence.wide) Try.func3 rfl trivial ?_ rfl)
    simp only [Try.ntmps3, List.size_toArray, List.length_cons, List.length_nil, Nat.reduceAdd, Nat.reduceSub, Array.replicate_succ, Array.replicate_zero, List.push_toArray, List.append_toArray, List.nil_append, List.cons_append]
    refine wpIn_wide.2 ?_
    go_wp2_with (first
      | (go_at_call 6; refine (HS.out _ (by (repeat' (first | exact Mod.refl _ _ | assumption | refine Mod.alloc ?_ _ | refine Mod.drew ?_ | refine Mod.drewN ?_ _ | refine Mod.setCell ?_ (by first | exact Or.inl rfl | (right; simp; done) | (right; simp; omega) | (left; simp; done)) _)))).mono ?_; rintro e w1 ⟨rfl, rfl⟩)
      | (go_at_call_has 8 Value.nilFunc; refine (walk_nil sh lv _).mono ?_; rintro e w3 ⟨rfl, rfl⟩)
      | (go_at_call 8; refine (walk_any sh lv _ ⟨_, _, rfl⟩ _).mono ?_; rintro e w2 ⟨rfl, rfl⟩)
      | fail)
    obtain ⟨B, hB⟩ : ∃ B, B = w.heap.size := ⟨_, rfl⟩
    rw [← hB]
    refine wp_as (fun W => W.heap.size = B + 9 ∧ W.heap[B]? = some (.cells #[.bool sh, .int .i64 lv] 23 (0, 0)) ∧ W.heap[B + 1]? = some (.cells #[.slice A N c] 24 (0, 0)) ∧ W.heap[B + 1 + 1]? = some (.cells #[.int .i64 lf] 3 (0, 0)) ∧
        W.heap[B + 1 + 1 + 1]? = some (.cells #[.bool false] 4 (0, 0)) ∧ W.heap[B + 1 + 1 + 1 + 1]? = some (.cells #[.int .i64 0] 3 (0, 0)) ∧ W.heap[B + 1 + 1 + 1 + 1 + 1]? = some (.cells #[.bool sh, .int .i64 lv] 23 (0, 0)) ∧
        W.heap[B + 1 + 1 + 1 + 1 + 1 + 1]? = some (.cells #[.func (.func 9) #[] #[.pointer (some ⟨B + 1, 0, none⟩), .pointer (some ⟨B + 1 + 1 + 1 + 1, 0, none⟩)]] 46 (0, 0)) ∧
        W.heap[B + 1 + 1 + 1 + 1 + 1 + 1 + 1 + 1]? = some (.cells #[.nilFunc] 46 (0, 0)) ∧ Mod (fun _ => False) w W)
      ⟨by subst hB; simp, by subst hB; exact (hp_alloc (hp_alloc (hp_alloc (hp_alloc (hp_alloc (hp_alloc (hp_alloc (hp_alloc (hp_new _ _) _) _) _) _) _) _) _) _), by subst hB; exact (hp_alloc (hp_alloc (hp_alloc (hp_alloc (hp_alloc (hp_alloc (hp_alloc (hp_at _ _ (by simp)) _) _) _) _) _) _) _), by subst hB; exact (hp_alloc (hp_alloc (hp_alloc (hp_alloc (hp_alloc (hp_alloc (hp_at _ _ (by simp)) _) _) _) _) _) _), by subst hB; exact (hp_alloc (hp_alloc (hp_alloc (hp_alloc (hp_alloc (hp_at _ _ (by simp)) _) _) _) _) _), by subst hB; exact (hp_alloc (hp_alloc (hp_alloc (hp_alloc (hp_at _ _ (by simp)) _) _) _) _), by subst hB; exact (hp_alloc (hp_alloc (hp_alloc (hp_at _ _ (by simp)) _) _) _), by subst hB; exact (hp_alloc (hp_alloc (hp_at _ _ (by simp)) _) _), by subst hB; exact (hp_at _ _ (by simp)), by (repeat' (first | exact Mod.refl _ _ | assumption | refine Mod.alloc ?_ _ | refine Mod.drew ?_ | refine Mod.drewN ?_ _ | refine Mod.setCell ?_ (by first | exact Or.inl rfl | (right; simp; done) | (right; simp; omega) | (left; simp; done)) _))⟩ ?_
    have HB := Lib.hid hB
    clear hB
    rintro W1 ⟨hsz1, b0, b1, b2, b3, b4, b5, b6, b8, hm1⟩
    refine (wpIn_wide (n := 0)).1 ?_
    refine wp_rangeG (gf := 15) (lb := #[.pointer (some ⟨B + 1 + 1 + 1 + 1 + 1 + 1 + 1 + 1, 0, none⟩), .pointer (some ⟨B + 1 + 1 + 1 + 1 + 1 + 1 + 1, 0, none⟩)]) (i := wtIt [] (fun b => b = B + 1 + 1 + 1 + 1 + 1 + 1 + 1 + 1) (fun _ => False) (fun _ _ => True)) rfl
      (enters_of Try.func15 (by kernel_rfl) rfl) (wtIt_ok (fun _ _ _ _ _ => trivial) (fun _ h => h.elim))
      (walknil_iter _ _ _ W1 (hp_cell b8 0) rfl (fun b hb => by subst hb; omega)) (fun b hb => by rcases hb with rfl | h; exact hp_lt b8; exact h.elim) rfl
      noI (fun _ => noI) (fun _ _ _ => noI) (fun _ _ _ _ h _ => h) (fun _ _ _ _ _ h _ => h) (fun _ _ _ _ _ _ _ h _ => h) (fun _ => False) (fun _ h => h.elim) rfl trivial
      (fun _ k hk => absurd hk (Nat.not_lt_zero k)) (fun _ k hk => absurd hk (Nat.not_lt_zero k)) ?_ (fun _ _ _ k h1 h2 => absurd (Nat.lt_of_lt_of_le h1 h2) (Nat.not_lt_zero 0))
    rintro W2 C2 - - hm2 - hK2 -
    have hm2' : Mod (fun _ => False) W1 W2 := hm2.mono (fun b _ h => by simp [wtIt] at h)
    have M2 := hm1.trans' hm2'
    clear hm2
    rw [hsz1] at hK2 ⊢
    have o0 := hp_cell (hp_mod b0 hm2' id) 0
    have o1 := hp_cell (hp_mod b0 hm2' id) 1
    have l0 := hp_cell (hp_mod b1 hm2' id) 0
    have hl2 := hm2'.size
    have HF := Lib.hid (And.intro b0 (And.intro b1 (And.intro b2 (And.intro b3 (And.intro b4 (And.intro b5 b6))))))
    clear b0 b1 b2 b3 b4 b5 b6 b8
    go_wp2_with (first
      | (go_at_call 10
         have HRO := rof_any (fun b => b < W2.heap.size) sh lv A c xs W2 (HA.out _ M2) (fun b h => h) (by have := HN.out; omega)
         rw [← HN.out] at HRO
         refine HRO.mono ?_
         clear HRO
         rintro e w4 ⟨v4, rfl, hv4, hm4⟩
         rw [← HR.out, ← HWS.out] at hv4
         obtain ⟨A4, c4, hv4', hr4, hf4, -⟩ := OwnS.rd hv4 Wt.cs_len
         rw [← HM.out] at hv4'
         subst hv4'
         have HM4 := Lib.hid hm4
         have HR4 := Lib.hid hr4
         have HF4 := Lib.hid hf4
         clear hm4 hv4 hr4 hf4)
      | fail)
    obtain ⟨z10, hz10⟩ : ∃ z, z = w4.heap.size := ⟨_, rfl⟩
    rw [← hz10]
    have hzs : B + 9 < z10 := by have := HM4.out.size; have := hp_lt hK2; omega
    refine wp_as (fun W => W.heap.size = z10 + 1 ∧ W.heap[z10]? = some (.cells #[.slice A4 M c4] 35 (0, 0)) ∧ Mod (fun _ => False) W2 W ∧ Rd (fun b => B + 9 < b ∧ b < z10) W 4 Wt.cs A4 ws)
      ⟨by subst hz10; simp, by subst hz10; exact hp_new _ _, by subst hz10; have := HM4.out; (repeat' (first | exact Mod.refl _ _ | assumption | refine Mod.alloc ?_ _ | refine Mod.drew ?_ | refine Mod.drewN ?_ _ | refine Mod.setCell ?_ (by first | exact Or.inl rfl | (right; simp; done) | (right; simp; omega) | (left; simp; done)) _)), ((HR4.out.below ((Below.refl _ _).alloc (Nat.le_refl _) _) fun b hb => (HF4.out b hb).2).mono fun b hb => by have := HF4.out b hb; have := hp_lt hK2; subst hz10; omega)⟩ ?_
    rintro W5 ⟨hsz5, hv5, hm5, hr5⟩
    have HZ10 := Lib.hid hz10
    clear hz10
    have HR5 := Lib.hid hr5
    clear hr5
    have HV5 := Lib.hid hv5
    have HK5 := Lib.hid (hp_mod hK2 hm5 id)
    have M5 := hm2'.trans' hm5
    have M05 := M2.trans' hm5
    have HF5 := Lib.hid (And.intro (hp_mod HF.out.2.2.1 M5 id) (And.intro (hp_mod HF.out.2.2.2.1 M5 id) (hp_mod HF.out.2.2.2.2.1 M5 id)))
    have IT := Lib.hid (walk1_iterG (B + 1 + 1 + 1 + 1 + 1 + 1) (B + 1 + 1 + 1 + 1 + 1) sh lv 9 _ xs (fun b => b < W5.heap.size ∧ b ≠ B + 1 + 1 + 1 + 1) (fun b => b = B + 1 + 1 + 1 + 1) (askS (B + 1 + 1 + 1 + 1)) W5
      (elIt_ok (askS_stab _) (fun b hb h => h.2 hb)) (hp_cell (hp_mod HF.out.2.2.2.2.2.2 M5 id) 0) (hp_cell (hp_mod HF.out.2.2.2.2.2.1 M5 id) 0) (hp_cell (hp_mod HF.out.2.2.2.2.2.1 M5 id) 1) ⟨by omega, by omega⟩ ⟨by omega, by omega⟩ (fun b hb => hb.1)
      (enters_of Try.func9 (by kernel_rfl) rfl)
      (clos_iter (B + 1) (B + 1 + 1 + 1 + 1) A c xs _ W5 (by have := HN.out; simp [maxLen]; omega) (by rw [← HN.out]; exact hp_cell (hp_mod HF.out.2.1 M5 id) 0) ⟨by omega, by omega⟩ (fun b hb => hb.1) (fun h => h.2 rfl)
        ((HA0.out.mod M05 (fun b hb => ⟨hb, id⟩)).mono fun b hb => by have := HB.out; exact ⟨by omega, by omega⟩)))
    rw [← HWS.out] at IT
    clear hv5 hK2 hm5 o0 o1 l0 hl2
    refine wp_loop (fun a W => ∃ (k : Int) (ds : List Nat) (u12 u13 u34 u35 u36 u37 u38 u39 u40 u41 u42 u43 u44 u45 u46 u47 u48 u49 u50 u51 u52 u53 u54 u55 u56 u57 u58 u59 u60 u61 u62 u63 u64 u65 u66 u67 u68 u69 u70 u71 u72 u73 u74 u75 u76 u77 u78 u79 u80 u81 u82 u83 u84 u85 u86 : Value), a = { tmps := #[.agg #[.bool sh, .int .i64 lv], .slice A N c, .int .i64 lf, .pointer (some ⟨B, 0, none⟩), .pointer (some ⟨B + 1, 0, none⟩), .pointer (some ⟨B + 1 + 1, 0, none⟩), .pointer (some ⟨B + 1 + 1 + 1, 0, none⟩), .pointer (some ⟨B + 1 + 1 + 1 + 1, 0, none⟩), .func (.func 15) #[] #[.pointer (some ⟨B + 1 + 1 + 1 + 1 + 1 + 1, 0, none⟩), .pointer (some ⟨B + 1 + 1 + 1 + 1 + 1, 0, none⟩)], .func (.func 15) #[] #[.pointer (some ⟨B + 1 + 1 + 1 + 1 + 1 + 1 + 1 + 1, 0, none⟩), .pointer (some ⟨B + 1 + 1 + 1 + 1 + 1 + 1 + 1, 0, none⟩)], .pointer (some ⟨z10, 0, none⟩), .int .i64 k, u12, u13, .slice A N c, .bool true, .bool false, undef, .agg #[.bool sh, .int .i64 lv], .func (.func 9) #[] #[.pointer (some ⟨B + 1, 0, none⟩), .pointer (some ⟨B + 1 + 1 + 1 + 1, 0, none⟩)], .func (.func 15) #[] #[.pointer (some ⟨B + 1 + 1 + 1 + 1 + 1 + 1, 0, none⟩), .pointer (some ⟨B + 1 + 1 + 1 + 1 + 1, 0, none⟩)], .agg #[.bool sh, .int .i64 lv], .func (.func 15) #[] #[.pointer (some ⟨B + 1 + 1 + 1 + 1 + 1 + 1 + 1 + 1, 0, none⟩), .pointer (some ⟨B + 1 + 1 + 1 + 1 + 1 + 1 + 1, 0, none⟩)], .func (.func 15) #[] #[.pointer (some ⟨B + 1 + 1 + 1 + 1 + 1 + 1, 0, none⟩), .pointer (some ⟨B + 1 + 1 + 1 + 1 + 1, 0, none⟩)], .bool false, .bool false, .func (.func 15) #[] #[.pointer (some ⟨B + 1 + 1 + 1 + 1 + 1 + 1 + 1 + 1, 0, none⟩), .pointer (some ⟨B + 1 + 1 + 1 + 1 + 1 + 1 + 1, 0, none⟩)], .bool false, .bool false, .func (.func 15) #[] #[.pointer (some ⟨B + 1 + 1 + 1 + 1 + 1 + 1 + 1 + 1, 0, none⟩), .pointer (some ⟨B + 1 + 1 + 1 + 1 + 1 + 1 + 1, 0, none⟩)], undef, .agg #[.bool sh, .int .i64 lv], .slice A N c, .slice A4 M c4, u34, u35, u36, u37, u38, u39, u40, u41, u42, u43, u44, u45, u46, u47, u48, u49, u50, u51, u52, u53, u54, u55, u56, u57, u58, u59, u60, u61, u62, u63, u64, u65, u66, u67, u68, u69, u70, u71, u72, u73, u74, u75, u76, u77, u78, u79, u80, u81, u82, u83, u84, u85, u86], defers := ds.map fun D => { target := .collected D, args := #[] } } ∧ 0 ≤ k ∧ k ≤ 2 ∧ Mod (fun b => b = B + 1 + 1 + 1 + 1) W5 W ∧ (∃ q : Int, W.heap[B + 1 + 1 + 1 + 1]? = some (.cells #[.int .i64 q] 3 (0, 0))) ∧ ds.Nodup ∧ ∀ D ∈ ds, B + 9 ≤ D ∧ W.heap[D]? = some (.deferred (some []))) (fun a _ => 2 - (intOf (a.tmps.getD 11 undef)).toNat) ?_ ?_
    · exact ⟨0, [B + 9], _, _, _, _, _, _, _, _, _, _, _, _, _, _, _, _, _, _, _, _, _, _, _, _, _, _, _, _, _, _, _, _, _, _, _, _, _, _, _, _, _, _, _, _, _, _, _, _, _, _, _, _, _, _, _, rfl, by omega, by omega, Mod.refl _ _, ⟨0, HF5.out.2.2⟩, by simp, fun D hD => by simp at hD; subst hD; exact ⟨Nat.le_refl _, HK5.out⟩⟩
    rintro a wr ⟨k, ds, u12, u13, u34, u35, u36, u37, u38, u39, u40, u41, u42, u43, u44, u45, u46, u47, u48, u49, u50, u51, u52, u53, u54, u55, u56, u57, u58, u59, u60, u61, u62, u63, u64, u65, u66, u67, u68, u69, u70, u71, u72, u73, u74, u75, u76, u77, u78, u79, u80, u81, u82, u83, u84, u85, u86, rfl, hk0, hk, hm, ⟨q4, hq4⟩, hnd, hds⟩
    have HMl := Lib.hid hm
    have HND := Lib.hid hnd
    have HDS := Lib.hid hds
    clear hm hnd hds
    by_cases hk2 : k < 2
    · have HQ4 := Lib.hid hq4
      have x4c := hp_cell hq4 0
      have x4f := hp_free hq4 0
      have x4l := hp_lt hq4
      clear hq4
      have hwl := HMl.out.size
      go_wp2
      obtain ⟨zn, hzn⟩ : ∃ z, z = wr.heap.size := ⟨_, rfl⟩
      rw [← hzn]
      refine wp_as (fun W => W.heap.size = zn + 1 ∧ W.heap[zn]? = some (.cells #[.int .i64 0] 3 (0, 0)) ∧ W.heap[B + 1 + 1 + 1 + 1]? = some (.cells #[.int .i64 0] 3 (0, 0)) ∧ Mod (fun b => b = B + 1 + 1 + 1 + 1) wr W)
        ⟨by subst hzn; simp [World.setCell], by subst hzn; exact hp_at _ _ (by simp [World.setCell]), hp_alloc (hp_eq (hp_set HQ4.out 0 _) (by simp)) _, (show Mod (fun b => b = B + 1 + 1 + 1 + 1) wr _ from (Mod.setCell (p := ⟨B + 1 + 1 + 1 + 1, 0, none⟩) (Mod.refl (fun b => b = B + 1 + 1 + 1 + 1) wr) (.inl rfl) _).alloc _)⟩ ?_
      rintro X0 ⟨hx0, hxn, hxa, hxm⟩
      have HZN := Lib.hid hzn
      have hznz : zn ≠ B + 1 + 1 + 1 + 1 := by omega
      have hz5 : z10 < zn := by omega
      clear hzn x4c x4f x4l HQ4
      have MX := HMl.out.trans hxm (fun b hb => .inl hb)
      have HMX := Lib.hid MX
      have HXM := Lib.hid hxm
      refine (wpIn_wide (n := 0)).1 ?_
      refine wp_rangeG (gf := 15) (lb := #[.pointer (some ⟨B + 1 + 1 + 1 + 1 + 1 + 1, 0, none⟩), .pointer (some ⟨B + 1 + 1 + 1 + 1 + 1, 0, none⟩)]) (i := wtIt ws (fun b => b < W5.heap.size ∧ b ≠ B + 1 + 1 + 1 + 1) (fun b => b = B + 1 + 1 + 1 + 1) (askS (B + 1 + 1 + 1 + 1))) rfl
        (enters_of Try.func15 (by kernel_rfl) rfl) (wtIt_ok (askS_stab _) (fun b hb h => h.2 hb))
        (IT.out.later (MX.agree fun b hb => ⟨hb.1, hb.2⟩)) (fun b hb => by rcases hb with ⟨h, -⟩ | h; (have h : b < W5.heap.size := h; omega); (have h : b = B + 1 + 1 + 1 + 1 := h; omega)) rfl
        (wwI zn) (wwX zn lf) (wwA zn ws)
        (by rintro k C X Y ⟨h1, rfl⟩ hA; exact ⟨hp_agree h1 hA rfl, rfl⟩)
        (by rintro c k C X Y ⟨h0, hk, h1, rfl⟩ hA; exact ⟨h0, hk, hp_agree h1 hA rfl, rfl⟩)
        (by rintro T enc a' k C X Y ⟨bE, x, hx, ha, hlt, h1, h2, rfl⟩ hA; exact ⟨bE, x, hx, ha, hlt, hp_agree h1 hA (.inl rfl), hp_agree h2 hA (.inr rfl), rfl⟩)
        (fun b => b = zn) (fun b hb => by subst hb; exact ⟨by omega, fun h => by (have h : b < W5.heap.size := h.1); omega, hznz⟩) ⟨hxn, rfl⟩ hxa ?assign ?body ?done ?stop
      case assign =>
        rintro l' j hj enc R C W' ⟨h1, rfl⟩ - ⟨x, hx, rfl⟩ - hm' hb'
        have hzl := hp_lt h1
        have H1 := Lib.hid h1
        simp only [Wt.v]
        clear h1
        gi_wp2
        refine ⟨fun b => b = zn ∨ b = W'.heap.size, ⟨W'.heap.size, x, hx, rfl, hzl, hp_alloc H1.out _, hp_new _ _, rfl⟩, by (repeat' (first | exact Mod.refl _ _ | assumption | refine Mod.alloc ?_ _ | refine Mod.drew ?_ | refine Mod.drewN ?_ _ | refine Mod.setCell ?_ (by first | exact Or.inl rfl | (right; simp; done) | (right; simp; omega) | (left; simp; done)) _)), ?_⟩
        rintro b (rfl | rfl)
        · exact ⟨by simp; omega, .inl rfl⟩
        · exact ⟨by simp, .inr (Nat.le_refl _)⟩
      case body =>
        rintro l' j hj enc R C a' W' ⟨bE, x, hx, rfl, hlt, h1, h2, rfl⟩ hS - - hm' hb' - hlC -
        have hjl : j < ws.length := hj
        have hMw := HM.out
        have hjM : j < M := by omega
        have MW5 : Mod (fun b => b = B + 1 + 1 + 1 + 1 ∨ b = zn) W5 W' := (HMX.out.mono (fun _ _ h => .inl h)).trans hm' (fun b hb => .inl (hb.elim .inr .inl))
        have s0 := hp_cell (hp_mod HV5.out MW5 (by omega)) 0
        have v0 := hp_cell (hp_mod HF5.out.1 MW5 (by omega)) 0
        obtain ⟨b, off, rfl, hbl, hc⟩ := HR5.out.mod MW5 (fun b hb => ⟨by omega, by omega⟩) (by omega)
        have hxw : ws[j] = x := by rw [List.getElem?_eq_getElem hjl] at hx; simpa using hx
        have g0 : W'.cell? ⟨b, off + j * 4, none⟩ = some (.int .u16 x.a) := by rw [← hxw]; exact hc j hjl 0 _ rfl
        have g1 : W'.cell? ⟨b, off + j * 4 + 1, none⟩ = some (.int .u16 x.b) := by rw [← hxw]; exact hc j hjl 1 _ rfl
        have g2 : W'.cell? ⟨b, off + j * 4 + 2, none⟩ = some (.int .u16 x.c) := by rw [← hxw]; exact hc j hjl 2 _ rfl
        have g3 : W'.cell? ⟨b, off + j * 4 + 3, none⟩ = some (.int .u16 x.d) := by rw [← hxw]; exact hc j hjl 3 _ rfl
        have n0 := hp_cell h1 0
        have nf := hp_free h1 0
        have e0 := hp_cell h2 0
        have e1 := hp_cell h2 1
        have e2 := hp_cell h2 2
        have e3 := hp_cell h2 3
        have q0 : W'.cell? ⟨B + 1 + 1 + 1 + 1, 0, none⟩ = some (.int .i64 ((j : Int) + 1)) := by simpa using hp_cell hS 0
        have hne := fun W => wt_neq x x W
        simp only [Wt.v, decide_true, Bool.not_true] at hne
        have hznl := hp_lt h1
        have H1 := Lib.hid h1
        clear hc hxw hx h1 h2 hS hm' hb' hj hMw MW5
        have hg1 : decide ((M : Int) ≤ (j : Int)) = false := by simp; omega
        have hg2 : decide (M ≤ j) = false := by simp; omega
        have hw1 : IntKind.i64.wrap ((j : Int) + 1) = (j : Int) + 1 := IntWalk.i64_in _ (by omega)
        by_cases hlv : (j : Int) + 1 = lf
        · gi_wp2
          (refine region_quiet_round rfl (by kernel_rfl) (by kernel_rfl) (by kernel_rfl) ?_; (repeat (gi_big_quiet_step (fail))); refine wpQuietIn_nil ?_; intro _ hw'; obtain ⟨nq, hw''⟩ := hw'; subst hw'')
          all_goals gi_wp2
          all_goals exact ⟨fun b => b = zn, ⟨rfl, by omega, hp_eq (hp_set H1.out 0 _) (by simp; try omega), rfl⟩, by (repeat' (first | exact Mod.refl _ _ | assumption | refine Mod.alloc ?_ _ | refine Mod.drew ?_ | refine Mod.drewN ?_ _ | refine Mod.setCell ?_ (by first | exact Or.inl rfl | (right; simp; done) | (right; simp; omega) | (left; simp; done)) _)), fun b hb => by subst hb; exact ⟨by simpa [World.setCell] using hznl, .inl (.inl rfl)⟩⟩
        · gi_wp2
          (refine region_quiet_round rfl (by kernel_rfl) (by kernel_rfl) (by kernel_rfl) ?_; (repeat (gi_big_quiet_step (fail))); refine wpQuietIn_nil ?_; intro _ hw'; obtain ⟨nq, hw''⟩ := hw'; subst hw'')
          all_goals gi_wp2
          all_goals exact ⟨fun b => b = zn, ⟨hp_eq (hp_set H1.out 0 _) (by simp), rfl⟩, by (repeat' (first | exact Mod.refl _ _ | assumption | refine Mod.alloc ?_ _ | refine Mod.drew ?_ | refine Mod.drewN ?_ _ | refine Mod.setCell ?_ (by first | exact Or.inl rfl | (right; simp; done) | (right; simp; omega) | (left; simp; done)) _)), fun b hb => by subst hb; exact ⟨by simpa [World.setCell] using hznl, .inl (.inl rfl)⟩⟩
      case done =>
        rintro W' C' ⟨h1, rfl⟩ hS hm' hb' hK hn'
        rw [hx0] at hK ⊢
        have h1 : W'.heap[zn]? = some (.cells #[.int .i64 (ws.length : Int)] 3 (0, 0)) := h1
        have hS : askS (B + 1 + 1 + 1 + 1) ws.length W' := hS
        rw [← HM.out] at h1 hS
        obtain ⟨j, hjM⟩ : ∃ j, j = M := ⟨_, rfl⟩
        rw [← hjM] at h1 hS
        have HJ := Lib.hid (show j = M ∨ (j : Int) = lf from .inl hjM)
        clear hjM
        have MW5 : Mod (fun b => b = B + 1 + 1 + 1 + 1 ∨ b = zn) W5 W' := (HMX.out.mono (fun _ _ h => .inl h)).trans hm' (fun b hb => .inl (hb.elim .inr .inl))
        have s0 := hp_cell (hp_mod HV5.out MW5 (by omega)) 0
        have v0 := hp_cell (hp_mod HF5.out.1 MW5 (by omega)) 0
        have n0 := hp_cell h1 0
        have q0 := hp_cell hS 0
        have HS' := Lib.hid hS
        have HMW := Lib.hid (show Mod (fun b => b = B + 1 + 1 + 1 + 1) W5 W' from HMX.out.trans (C' := fun b => b = zn ∨ b = B + 1 + 1 + 1 + 1) hm' (fun b hb => hb.elim (fun h => .inr (by omega)) .inl))
        have HDS' := Lib.hid (fun D hD => show B + 9 ≤ D ∧ W'.heap[D]? = some (.deferred (some [])) from ⟨(HDS.out D hD).1, hp_mod (hp_mod (HDS.out D hD).2 HXM.out (by have := (HDS.out D hD).1; omega)) hm' (fun h => by
          have h1 := (HDS.out D hD).1
          have h2 := hp_lt (HDS.out D hD).2
          have h3 := HZN.out
          rcases h with h | h <;> (first | (have h : D = zn := h; omega) | (have h : D = B + 1 + 1 + 1 + 1 := h; omega)))⟩)
        have HK' := Lib.hid hK
        have hX0 : ∀ D ∈ ds, D ≠ X0.heap.size := fun D hD => by have := hp_lt (HDS.out D hD).2; have := HZN.out; omega
        have HX0 := Lib.hid hX0
        clear h1 hS hm' hb' hK hn' MW5 hX0
        obtain ⟨x1, e1⟩ : ∃ x, ((j : Int) != (M : Int)) = x := ⟨_, rfl⟩
        obtain ⟨x2, e2⟩ : ∃ x, ((j : Int) != lf) = x := ⟨_, rfl⟩
        obtain ⟨x4, e4⟩ : ∃ x, decide (0 < (j : Int)) = x := ⟨_, rfl⟩
        have e3 : ((j : Int) == lf) = !x2 := by rw [← e2]; simp [bne]
        have e5 : ((j : Int) != (j : Int)) = false := by simp
        have hx12 : x1 = true → x2 = true → False := fun h1 h2 => by
          rw [← e1] at h1; rw [← e2] at h2
          simp at h1 h2
          rcases HJ.out with h | h
          · exact h1 (by omega)
          · exact h2 h
        cases x1 <;> cases x2 <;> cases x4
        all_goals first | exact (hx12 rfl rfl).elim | skip
        all_goals simp only [Bool.not_true, Bool.not_false] at e3
        all_goals
          clear hx12
          go_wp2
        all_goals have HN2 := Lib.hid (show ∀ D ∈ (zn + 1) :: ds, B + 9 ≤ D ∧ W'.heap[D]? = some (.deferred (some [])) from fun D hD => by
          rcases List.mem_cons.1 hD with rfl | hD
          · exact ⟨by omega, HK'.out⟩
          · exact HDS'.out D hD)
        all_goals have HN3 := Lib.hid (show ((zn + 1) :: ds).Nodup from List.nodup_cons.2 ⟨fun h => HX0.out _ h hx0.symm, HND.out⟩)
        all_goals
          exact ⟨⟨k + 1, (zn + 1) :: ds, _, _, _, _, _, _, _, _, _, _, _, _, _, _, _, _, _, _, _, _, _, _, _, _, _, _, _, _, _, _, _, _, _, _, _, _, _, _, _, _, _, _, _, _, _, _, _, _, _, _, _, _, _, _, _, rfl, by omega, by omega, HMW.out, ⟨_, HS'.out⟩, HN3.out, HN2.out⟩, by simp [intOf]; omega⟩
      case stop =>
        rintro W' C' c' j hj0 hj ⟨rfl, hjl, h1, rfl⟩ hS hm' hb' hK hn'
        rw [hx0] at hK ⊢
        have hj : j ≤ ws.length := hj
        have HJ := Lib.hid (show j = M ∨ (j : Int) = lf from .inr hjl)
        clear hjl
        refine wpIn_wide.2 ?_
        have MW5 : Mod (fun b => b = B + 1 + 1 + 1 + 1 ∨ b = zn) W5 W' := (HMX.out.mono (fun _ _ h => .inl h)).trans hm' (fun b hb => .inl (hb.elim .inr .inl))
        have s0 := hp_cell (hp_mod HV5.out MW5 (by omega)) 0
        have v0 := hp_cell (hp_mod HF5.out.1 MW5 (by omega)) 0
        have n0 := hp_cell h1 0
        have q0 := hp_cell hS 0
        have HS' := Lib.hid hS
        have HMW := Lib.hid (show Mod (fun b => b = B + 1 + 1 + 1 + 1) W5 W' from HMX.out.trans (C' := fun b => b = zn ∨ b = B + 1 + 1 + 1 + 1) hm' (fun b hb => hb.elim (fun h => .inr (by omega)) .inl))
        have HDS' := Lib.hid (fun D hD => show B + 9 ≤ D ∧ W'.heap[D]? = some (.deferred (some [])) from ⟨(HDS.out D hD).1, hp_mod (hp_mod (HDS.out D hD).2 HXM.out (by have := (HDS.out D hD).1; omega)) hm' (fun h => by
          have h1 := (HDS.out D hD).1
          have h2 := hp_lt (HDS.out D hD).2
          have h3 := HZN.out
          rcases h with h | h <;> (first | (have h : D = zn := h; omega) | (have h : D = B + 1 + 1 + 1 + 1 := h; omega)))⟩)
        have HK' := Lib.hid hK
        have hX0 : ∀ D ∈ ds, D ≠ X0.heap.size := fun D hD => by have := hp_lt (HDS.out D hD).2; have := HZN.out; omega
        have HX0 := Lib.hid hX0
        clear h1 hS hm' hb' hK hn' MW5 hX0
        obtain ⟨x1, e1⟩ : ∃ x, ((j : Int) != (M : Int)) = x := ⟨_, rfl⟩
        obtain ⟨x2, e2⟩ : ∃ x, ((j : Int) != lf) = x := ⟨_, rfl⟩
        obtain ⟨x4, e4⟩ : ∃ x, decide (0 < (j : Int)) = x := ⟨_, rfl⟩
        have e3 : ((j : Int) == lf) = !x2 := by rw [← e2]; simp [bne]
        have e5 : ((j : Int) != (j : Int)) = false := by simp
        have hx12 : x1 = true → x2 = true → False := fun h1 h2 => by
          rw [← e1] at h1; rw [← e2] at h2
          simp at h1 h2
          rcases HJ.out with h | h
          · exact h1 (by omega)
          · exact h2 h
        cases x1 <;> cases x2 <;> cases x4
        all_goals first | exact (hx12 rfl rfl).elim | skip
        all_goals simp only [Bool.not_true, Bool.not_false] at e3
        all_goals
          clear hx12
          go_wp2
        all_goals have HN2 := Lib.hid (show ∀ D ∈ (zn + 1) :: ds, B + 9 ≤ D ∧ W'.heap[D]? = some (.deferred (some [])) from fun D hD => by
          rcases List.mem_cons.1 hD with rfl | hD
          · exact ⟨by omega, HK'.out⟩
          · exact HDS'.out D hD)
        all_goals have HN3 := Lib.hid (show ((zn + 1) :: ds).Nodup from List.nodup_cons.2 ⟨fun h => HX0.out _ h hx0.symm, HND.out⟩)
        all_goals
          exact ⟨⟨k + 1, (zn + 1) :: ds, _, _, _, _, _, _, _, _, _, _, _, _, _, _, _, _, _, _, _, _, _, _, _, _, _, _, _, _, _, _, _, _, _, _, _, _, _, _, _, _, _, _, _, _, _, _, _, _, _, _, _, _, _, _, _, rfl, by omega, by omega, HMW.out, ⟨_, HS'.out⟩, HN3.out, HN2.out⟩, by simp [intOf]; omega⟩
    · obtain rfl : k = 2 := by omega
      have M5r := HMl.out
      have x3 := hp_mod HF5.out.2.1 HMl.out (by omega)
      have HX3 := Lib.hid x3
      clear x3
      go_wp2_with (first
        | (go_at_call 7
           refine (known_any _).mono ?_
           rintro e w6 ⟨rfl, hm6⟩
           have x3 := hp_mod HX3.out hm6 id
           have x3c := hp_cell x3 0
           have x3f := hp_free x3 0
           have HX3' := Lib.hid x3
           have HM6 := Lib.hid hm6
           clear x3 hm6)
        | fail)
      have MF : Mod (fun b => b = B + 1 + 1 + 1 + 1 ∨ b = B + 1 + 1 + 1) W5 _ := ((M5r.mono (C' := fun b => b = B + 1 + 1 + 1 + 1 ∨ b = B + 1 + 1 + 1) (fun _ _ h => .inl h)).trans' (HM6.out.mono (fun _ _ h => h.elim))).setCell (p := ⟨B + 1 + 1 + 1, 0, none⟩) (.inl (.inr rfl)) (.bool true)
      refine leaves_many (by simp) _ _ HND.out (fun D hD => ?_) (fun W hW => ?_)
      · obtain ⟨h1, h2⟩ := HDS.out D hD
        exact hp_mod (hp_mod h2 HM6.out id) ((Mod.refl (fun b => b = B + 1 + 1 + 1) _).setCell (p := ⟨B + 1 + 1 + 1, 0, none⟩) (.inl rfl) _) (by omega)
      · have hc := hp_cell (hp_mod (hp_eq (hp_set HX3'.out 0 (.bool true)) rfl) hW (fun h => by have := (HDS.out _ h).1; omega)) 0
        refine ⟨.bool true, ?_, rfl, ?_⟩
        · simp [results, asAddr, go_sem] at hc ⊢
          rw [hc]
        · have h2 := (M05.trans MF (fun b hb => by have := HB.out; rcases hb with rfl | rfl <;> (right; omega)) : Mod (fun _ => False) w _)
          exact h2.trans hW (fun b hb => .inr (by have := (HDS.out _ hb).1; have := HB.out; omega))
  · rw [Bool.not_eq_true] at hs
    rw [hs] at HS
    clear hl hA hs
    refine callsIn_wide.1 (callsIn_of_wp_marks (n := 0) (F := Fence.wide) Try.func3 rfl trivial ?_ rfl)
    simp only [Try.ntmps3, List.size_toArray, List.length_cons, List.length_nil, Nat.reduceAdd, Nat.reduceSub, Array.replicate_succ, Array.replicate_zero, List.push_toArray, List.append_toArray, List.nil_append, List.cons_append]
    refine wpIn_wide.2 ?_
    go_wp2_with (first
      | (go_at_call 6; refine (HS.out _ (by (repeat' (first | exact Mod.refl _ _ | assumption | refine Mod.alloc ?_ _ | refine Mod.drew ?_ | refine Mod.drewN ?_ _ | refine Mod.setCell ?_ (by first | exact Or.inl rfl | (right; simp; done) | (right; simp; omega) | (left; simp; done)) _)))).mono ?_; rintro e w1 ⟨rfl, rfl⟩)
      | (go_at_call 7
         refine (known_any _).mono ?_
         rintro e w6 ⟨rfl, hm6⟩
         have x3 := hp_mod (hp_new (((w.alloc (.cells #[.bool sh, .int .i64 lv] 23 (0, 0))).alloc (.cells #[.slice A xs.length c] 24 (0, 0))).alloc (.cells #[.int .i64 lf] 3 (0, 0))) (.cells #[.bool false] 4 (0, 0))) hm6 id
         simp only [World.size_alloc] at x3
         have x3c := hp_cell x3 0
         have x3f := hp_free x3 0
         have HM6 := Lib.hid hm6
         have HX3 := Lib.hid x3
         clear x3 hm6)
      | fail)
    have hc := hp_cell (hp_eq (hp_set HX3.out 0 (.bool true)) rfl) 0
    refine ⟨.bool true, ?_, rfl, ?_⟩
    · simp [results, asAddr, go_sem] at hc ⊢
      rw [hc]
    · refine Mod.setCell ?_ (by first | (right; simp; done) | (right; simp; omega)) _
      refine Mod.trans' ?_ HM6.out
      (repeat' (first | exact Mod.refl _ _ | assumption | refine Mod.alloc ?_ _ | refine Mod.drew ?_ | refine Mod.drewN ?_ _ | refine Mod.setCell ?_ (by first | exact Or.inl rfl | (right; simp; done) | (right; simp; omega) | (left; simp; done)) _))
end Go.Proofs.Ytiojlpjpihmgdaa
