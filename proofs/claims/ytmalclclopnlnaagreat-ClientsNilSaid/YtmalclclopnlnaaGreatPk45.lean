/-
  Texts of this claim, one behind the other: CliN, LawN.
-/
import Derived.Test.YtmalclclopnlnaaGreatPk22
import Derived.Test.YtmalclclopnlnaaGreatPk31
import Derived.Test.YtmalclclopnlnaaGreatPk36
import Derived.Test.YtmalclclopnlnaaGreatPk40
import Derived.Test.YtmalclclopnlnaaGreatPk42
import Derived.Maps.OwnSet
import Derived.LoopN
/-
  The package clients: tables that are not there, and zero ones.
-/
namespace Go.Proofs.YtmalclclopnlnaaGreat
open Go.RowKit Go.Shelf
attribute [local go_sem] Oper.semAt_some

def Nought (v : Value) (w : World) : Prop := v = .pointer none ∨ ∃ p, v = .pointer (some ⟨p, 0, none⟩) ∧ w.cell? ⟨p, 0, none⟩ = some (.map none)
theorem Nought.mod {v : Value} {w w' : World} (h : Nought v w) (hm : Mod (fun _ => False) w w') : Nought v w' := h.imp id fun ⟨p, h1, h2⟩ => ⟨p, h1, cell_modC h2 hm id⟩
theorem tlatest_no (v : Value) (c : Nat) (w : World) (h : Nought v w) : Calls Tryz.prog 11 #[v, .int .u64 (c : Int)] w fun e w' => e = .returned (.tuple #[.int .u64 0, .bool false]) ∧ Mod (fun _ => False) w w' := by
  rcases h with rfl | ⟨p, rfl, x0⟩
  · go_enter Tryz.func11, Tryz.ntmps11
    go_wp2
    refine bodyPost_ret (v := .tuple #[.int .u64 0, .bool false]) (by simp [results, Tryz.results11, go_sem]) rfl ⟨rfl, by (repeat' (first | exact Mod.refl _ _ | assumption | refine Mod.alloc ?_ _ | refine Mod.drew ?_ | refine Mod.drewN ?_ _ | refine Mod.setCell ?_ (by first | exact Or.inl rfl | (right; simp; done) | (right; simp; omega) | (left; simp; done)) _))⟩
  · have hlk := run_mnil (P := Tryz.prog) (w := w) kvU_t Tryz.underlying45 (z := .agg #[.int .u64 0, .slice none 0 0]) (by kernel_rfl) (c : Int) true
    unfold kvU at hlk
    go_enter Tryz.func11, Tryz.ntmps11
    go_wp2
    refine bodyPost_ret (v := .tuple #[.int .u64 0, .bool false]) (by simp [results, Tryz.results11, go_sem]) rfl ⟨rfl, by (repeat' (first | exact Mod.refl _ _ | assumption | refine Mod.alloc ?_ _ | refine Mod.drew ?_ | refine Mod.drewN ?_ _ | refine Mod.setCell ?_ (by first | exact Or.inl rfl | (right; simp; done) | (right; simp; omega) | (left; simp; done)) _))⟩
theorem tlen_no (v : Value) (w : World) (h : Nought v w) : Calls Tryz.prog 17 #[v] w fun e w' => e = .returned (.int .i64 0) ∧ w = w' := by
  rcases h with rfl | ⟨p, rfl, x0⟩
  · go_enter Tryz.func17, Tryz.ntmps17
    go_wp2
    go_ret
    exact ⟨rfl, rfl⟩
  · have hln := Maps.len_nil (P := Tryz.prog) (w := w) Tryz.underlying45 3
    go_enter Tryz.func17, Tryz.ntmps17
    go_wp2
    go_ret
    exact ⟨rfl, rfl⟩
theorem tbytes_no (v : Value) (w : World) (h : Nought v w) : Calls Tryz.prog 18 #[v] w fun e w' => e = .returned (.slice none 0 0) ∧ Mod (fun _ => False) w w' := by
  have HTh := Lib.hid (fun X (hX : Mod (fun _ => False) w X) => tthere_no v X (h.mod hX))
  have hv : v = .pointer none ∨ ∃ p, v = .pointer (some ⟨p, 0, none⟩) := h.imp id fun ⟨p, h, _⟩ => ⟨p, h⟩
  have hb : (w.alloc (.cells #[v] 25)).cell? ⟨w.heap.size, 0, none⟩ = some v := by rw [hp_cell (hp_new _ _)]; rfl
  clear h
  rcases hv with rfl | ⟨p, rfl⟩
  all_goals
    refine callsIn_wide.1 (callsIn_of_wp_marks (n := 0) (F := Fence.wide) Tryz.func18 rfl trivial ?_ rfl)
    simp only [Tryz.ntmps18, List.size_toArray, List.length_cons, List.length_nil, Nat.reduceAdd, Nat.reduceSub, Array.replicate_succ, Array.replicate_zero, List.push_toArray, List.append_toArray, List.nil_append, List.cons_append]
    refine wpIn_wide.2 ?_
    go_wp2_with (first
      | (go_at_call 24
         (with_reducible refine (HTh.out _ (by (repeat' (with_reducible (first | exact Mod.refl _ _ | assumption | refine Mod.alloc ?_ _ | refine Mod.drew ?_ | refine Mod.drewN ?_ _ | refine Mod.setCell ?_ (by first | exact Or.inl rfl | (right; simp; done) | (right; simp; omega) | (left; simp; done)) _))))).mono ?_)
         rintro e w1 ⟨rfl, rfl⟩)
      | fail)
    exact retM0 (v := .slice none 0 0) rfl (by simp [results, Tryz.results18, go_sem]) ⟨rfl, by (repeat' (first | exact Mod.refl _ _ | assumption | refine Mod.alloc ?_ _ | refine Mod.drew ?_ | refine Mod.drewN ?_ _ | refine Mod.setCell ?_ (by first | exact Or.inl rfl | (right; simp; done) | (right; simp; omega) | (left; simp; done)) _))⟩
set_option maxRecDepth 100000 in
theorem task_no (v : Value) (c n : Nat) (w : World) (h : Nought v w) : Calls Tryz.prog 15 #[v, .int .u64 (c : Int), .int .u64 (n : Int)] w (AskEnds (1, res0) w) := by
  have hb1 : (w.alloc (.cells #[.int .i64 0, .bool false, .slice none 0 0, .slice none 0 0] 37)).heap[w.heap.size]? = some (.cells #[.int .i64 0, .bool false, .slice none 0 0, .slice none 0 0] 37 (0, 0)) := hp_new _ _
  have HB1 := Lib.hid hb1
  have HLt := Lib.hid (fun X (hX : Mod (fun _ => False) w X) => tlatest_no v c X (h.mod hX))
  clear h hb1
  go_enter Tryz.func15, Tryz.ntmps15
  go_wp2_with (first
    | (go_at_call 11
       (with_reducible refine (HLt.out _ (by (repeat' (first | exact Mod.refl _ _ | assumption | refine Mod.alloc ?_ _ | refine Mod.drew ?_ | refine Mod.drewN ?_ _ | refine Mod.setCell ?_ (by first | exact Or.inl rfl | (right; simp; done) | (right; simp; omega) | (left; simp; done)) _)))).mono ?_)
       rintro e w2 ⟨rfl, hm2⟩
       have hb2 := hp_mod HB1.out hm2 id
       have y0 : w2.cell? ⟨w.heap.size, 0, none⟩ = some (.int .i64 0) := by rw [hp_cell hb2]; rfl
       have y1 : w2.cell? ⟨w.heap.size, 1, none⟩ = some (.bool false) := by rw [hp_cell hb2]; rfl
       have y2 : w2.cell? ⟨w.heap.size, 2, none⟩ = some (.slice none 0 0) := by rw [hp_cell hb2]; rfl
       have y3 : w2.cell? ⟨w.heap.size, 3, none⟩ = some (.slice none 0 0) := by rw [hp_cell hb2]; rfl
       have g0 : w2.frozen? ⟨w.heap.size, 0, none⟩ = false := hp_free hb2 _
       have g1 : w2.frozen? ⟨w.heap.size, 1, none⟩ = false := hp_free hb2 _
       have g2 : w2.frozen? ⟨w.heap.size, 2, none⟩ = false := hp_free hb2 _
       have g3 : w2.frozen? ⟨w.heap.size, 3, none⟩ = false := hp_free hb2 _
       have HB2 := Lib.hid hb2
       have M2 := Lib.hid (((Mod.refl (fun _ => False) w).alloc _).trans' hm2)
       clear hm2 hb2)
    | fail)
  have h9 := st4_at HB2.out (.int .i64 0) (.bool false) (.slice none 0 0) (.slice none 0 0)
  have hm9 := st4_mod w2 w.heap.size (.int .i64 0) (.bool false) (.slice none 0 0) (.slice none 0 0)
  change bodyPost _ _ _ _ _ (st4 w2 w.heap.size (.int .i64 0) (.bool false) (.slice none 0 0) (.slice none 0 0))
  obtain ⟨W9, hW9⟩ : ∃ W9, W9 = st4 w2 w.heap.size (.int .i64 0) (.bool false) (.slice none 0 0) (.slice none 0 0) := ⟨_, rfl⟩
  rw [← hW9] at h9 hm9 ⊢
  have M9 := M2.out.trans hm9 fun b hb => by right; omega
  have k0 := hp_cell h9 0
  have k1 := hp_cell h9 1
  have k2 := hp_cell h9 2
  have k3 := hp_cell h9 3
  clear h9 hm9 hW9
  refine bodyPost_ret (v := .tuple #[.int .i64 1, .agg #[.int .i64 0, .bool false, .slice none 0 0, .slice none 0 0]]) (by simp [results, Tryz.results15, go_sem] at k0 k1 k2 k3 ⊢; simp [k0, k1, k2, k3]) rfl ⟨⟨RC.nil 0, rfl, rfl, RC.nil_ok (by omega), nil_fit 0⟩, M9⟩
set_option maxRecDepth 100000 in
theorem tput_no (v : Value) (c n : Nat) (w : World) (h : Nought v w) : Calls Tryz.prog 12 #[v, .int .u64 (c : Int), .int .u64 (n : Int), .agg #[.int .i64 0, .bool false, .slice none 0 0, .slice none 0 0]] w fun e w' => e = .returned (.int .i64 1) ∧ Mod (fun _ => False) w w' := by
  have hby := fun X (hX : Mod (fun _ => False) w X) => (mbytes_any (RC.nil 0) X (RC.nil_ok (by omega)) (nil_fit 0)).mono (R' := fun e w' => (∃ A k c z, e = .returned (.tuple #[.slice A k c, .int .i64 z])) ∧ Mod (fun _ => False) X w') fun e w' he => ⟨by
    obtain ⟨h1, -⟩ := he
    split at h1
    · obtain ⟨A, c, h1, -⟩ := h1
      exact ⟨A, _, c, 0, h1⟩
    · exact ⟨none, 0, 0, 2, h1⟩, he.2⟩
  have hby : ∀ X, Mod (fun _ => False) w X → Calls Tryz.prog 26 #[.agg #[.int .i64 0, .bool false, .slice none 0 0, .slice none 0 0]] X fun e w' => (∃ A k c z, e = .returned (.tuple #[.slice A k c, .int .i64 z])) ∧ Mod (fun _ => False) X w' := hby
  have HBy := Lib.hid hby
  have HTh := Lib.hid (fun X (hX : Mod (fun _ => False) w X) => tthere_no v X (h.mod hX))
  have M0 := Mod.refl (fun _ => False) w
  clear h hby
  go_enter Tryz.func12, Tryz.ntmps12
  go_wp2_with (first
    | (go_at_call 26
       (with_reducible refine (HBy.out _ (by (repeat' (with_reducible (first | exact Mod.refl _ _ | assumption | refine Mod.alloc ?_ _ | refine Mod.drew ?_ | refine Mod.drewN ?_ _ | refine Mod.setCell ?_ (by first | exact Or.inl rfl | (right; simp; done) | (right; simp; omega) | (left; simp; done)) _))))).mono ?_)
       rintro e w1 ⟨⟨A, k, c1, z, rfl⟩, hm1⟩
       have M1 : Mod (fun _ => False) w w1 := Mod.trans' (by (repeat' (with_reducible (first | exact Mod.refl _ _ | assumption | refine Mod.alloc ?_ _ | refine Mod.drew ?_ | refine Mod.drewN ?_ _ | refine Mod.setCell ?_ (by first | exact Or.inl rfl | (right; simp; done) | (right; simp; omega) | (left; simp; done)) _)))) hm1
       clear hm1)
    | (go_at_call 24
       (with_reducible refine (HTh.out _ (by (repeat' (with_reducible (first | exact Mod.refl _ _ | assumption | refine Mod.alloc ?_ _ | refine Mod.drew ?_ | refine Mod.drewN ?_ _ | refine Mod.setCell ?_ (by first | exact Or.inl rfl | (right; simp; done) | (right; simp; omega) | (left; simp; done)) _))))).mono ?_)
       rintro e w2 ⟨rfl, rfl⟩)
    | fail)
  go_ret
  exact ⟨rfl, M1⟩
/-- What All of one that is not there hands out: nothing. -/
theorem tno_iter (bt : Nat) (D : Nat → Prop) (w : World) (hbt : w.cell? ⟨bt, 0, none⟩ = some (.pointer none)) (d1 : D bt) :
    IterG Tryz.prog 33 #[.pointer (some ⟨bt, 0, none⟩)] (tabIt [] D) w := by
  intro y J Jx C0 W hAg _ hC hJ hJx hY h0 hS
  have b0 := (hAg.cell (p := ⟨bt, 0, none⟩) d1).trans hbt
  have HJ := Lib.hid h0
  have HC := Lib.hid (show ∀ b, C0 b → b < W.heap.size from fun b hb => (hC b hb).1)
  clear hbt hY h0 hC
  refine callsIn_wide.1 (callsIn_of_wp (n := 0) (F := Fence.wide) Tryz.func33 rfl trivial ?_ rfl)
  simp only [Tryz.ntmps33, List.size_toArray, List.length_cons, List.length_nil, Nat.reduceAdd, Nat.reduceSub, Array.replicate_succ, Array.replicate_zero, List.push_toArray, List.append_toArray, List.nil_append, List.cons_append]
  gi_wp2
  refine bodyPost_ret (results_none rfl _ _ _) rfl ?_
  exact ⟨⟨_, rfl⟩, .inl ⟨trivial, C0, HJ.out, Mod.refl _ _, fun b hb => ⟨HC.out b hb, .inl hb⟩⟩⟩
end Go.Proofs.YtmalclclopnlnaaGreat
/-
  The laws of clients: what tables that are not there answer.
-/
namespace Go.Proofs.YtmalclclopnlnaaGreat
open Go.RowKit Go.Shelf
attribute [local go_sem] Oper.semAt_some

theorem retM2 {P : Program} {fn : Func} {R : Ending → World → Prop} {a : Act} {w : World} {v : Value} {n : Nat} {D E : Nat} (hd : a.defers = [{ target := .collected D, args := #[] }, { target := .collected E, args := #[] }]) (hk : w.heap[D]? = some (.deferred (some []))) (he : w.heap[E]? = some (.deferred (some []))) (hne : E ≠ D)
    (hr : (results fn a.tmps).run P ((w.putObj D (.deferred none)).putObj E (.deferred none)) = .ok v ((w.putObj D (.deferred none)).putObj E (.deferred none))) (hR : R (.returned v) ((w.putObj D (.deferred none)).putObj E (.deferred none))) : bodyPostM Fence.wide n P fn R .ret a w := by
  show LeavesInM _ _ _ _ _ _ a.defers _ _
  rw [hd]
  exact ⟨by simp, .inl ⟨_, _, rfl, run_takeDeferred hk, by simp, .inl ⟨_, _, rfl, run_takeDeferred ((World.putObj_heap_other hne).trans he), v, hr, hR⟩⟩⟩
def nlI (_ : Nat) (C : Nat → Prop) (_ : World) : Prop := C = fun _ => False
def nlA (_ _ : Array Value) (_ : Act) (_ : Nat) (_ : Nat → Prop) (_ : World) : Prop := False
/-- What each function answers of one that is not there, at whatever world behind. -/
structure NilBook (v : Value) (w : World) : Prop where
  ask : ∀ X, Mod (fun _ => False) w X → Calls Tryz.prog 15 #[v, .int .u64 1, .int .u64 1] X (AskEnds (1, res0) X)
  lat : ∀ X, Mod (fun _ => False) w X → Calls Tryz.prog 11 #[v, .int .u64 1] X fun e w' => e = .returned (.tuple #[.int .u64 0, .bool false]) ∧ Mod (fun _ => False) X w'
  all : ∀ X, Mod (fun _ => False) w X → Calls Tryz.prog 16 #[v] X fun e w' => e = .returned (.func (.func 33) #[] #[.pointer (some ⟨X.heap.size, 0, none⟩)]) ∧ w'.cell? ⟨X.heap.size, 0, none⟩ = some (.pointer none) ∧ X.heap.size < w'.heap.size ∧ Mod (fun _ => False) X w'
  put : ∀ X, Mod (fun _ => False) w X → Calls Tryz.prog 12 #[v, .int .u64 1, .int .u64 1, .agg #[.int .i64 0, .bool false, .slice none 0 0, .slice none 0 0]] X fun e w' => e = .returned (.int .i64 1) ∧ Mod (fun _ => False) X w'
  len : ∀ X, Mod (fun _ => False) w X → Calls Tryz.prog 17 #[v] X fun e w' => e = .returned (.int .i64 0) ∧ X = w'
  bytes : ∀ X, Mod (fun _ => False) w X → Calls Tryz.prog 18 #[v] X fun e w' => e = .returned (.slice none 0 0) ∧ Mod (fun _ => False) X w'
  copy : ∀ X, Mod (fun _ => False) w X → Calls Tryz.prog 10 #[v] X fun e w' => e = .returned (.pointer none) ∧ X = w'
  same : ∀ X, Mod (fun _ => False) w X → Calls Tryz.prog 13 #[v, .pointer none] X fun e w' => e = .returned (.bool true) ∧ Mod (fun _ => False) X w'
  unlike : ∀ p m X, Mod (fun _ => False) w X → X.cell? ⟨p, 0, none⟩ = some (.map (some m)) → Calls Tryz.prog 13 #[v, .pointer (some ⟨p, 0, none⟩)] X fun e w' => e = .returned (.bool false) ∧ Mod (fun _ => False) X w'
theorem nilBook (v : Value) (w : World) (h : Nought v w) : NilBook v w :=
  ⟨fun X hX => task_no v 1 1 X (h.mod hX), fun X hX => tlatest_no v 1 X (h.mod hX), fun X hX => ttall_no v X (h.mod hX), fun X hX => tput_no v 1 1 X (h.mod hX), fun X hX => tlen_no v X (h.mod hX), fun X hX => tbytes_no v X (h.mod hX), fun X hX => tcopy_no v X (h.mod hX),
    fun X hX => ttsame_no v (.pointer none) false X (fun Y hY => tthere_no v Y (h.mod (hX.trans' hY))) (fun Y _ => tthere_no _ Y (.inl rfl)),
    fun p m X hX hc => ttsame_no v (.pointer (some ⟨p, 0, none⟩)) true X (fun Y hY => tthere_no v Y (h.mod (hX.trans' hY))) (fun Y hY => tthere_yes p m Y (cell_modC hc hY id))⟩
set_option maxRecDepth 100000 in
set_option maxHeartbeats 8000000 in
theorem nil25_any (w : World) : Calls Tryz.prog 5 #[] w fun e w' => e = .returned (.bool true) ∧ Mod (fun _ => False) w w' := by
  have HKn := Lib.hid (fun X => known25_any X)
  have hnf := fun W' x => run_eql_func_nil (P := Tryz.prog) (w := W') Tryz.underlying53 (.func 33) #[] x
  obtain ⟨B, hB⟩ : ∃ B, B = w.heap.size := ⟨_, rfl⟩
  refine callsIn_wide.1 (callsIn_of_wp_marks (n := 0) (F := Fence.wide) Tryz.func5 rfl trivial ?_ rfl)
  simp only [Tryz.ntmps5, List.size_toArray, List.length_cons, List.length_nil, Nat.reduceAdd, Nat.reduceSub, Array.replicate_succ, Array.replicate_zero, List.push_toArray, List.append_toArray, List.nil_append, List.cons_append]
  refine wpIn_wide.2 ?_
  go_upto_block 0 with (fail)
  obtain ⟨W1, hW1⟩ : ∃ W1, W1 = ((w.alloc (.cells #[.bool false] 4)).alloc (.cells #[.map none] 47)).alloc (.cells #[.pointer none, .pointer (some ⟨w.heap.size + 1, 0, none⟩)] 25) := ⟨_, rfl⟩
  rw [← hW1]
  have hm1 : Mod (fun _ => False) w W1 := by rw [hW1]; (repeat' (first | exact Mod.refl _ _ | assumption | refine Mod.alloc ?_ _ | refine Mod.drew ?_ | refine Mod.drewN ?_ _ | refine Mod.setCell ?_ (by first | exact Or.inl rfl | (right; simp; done) | (right; simp; omega) | (left; simp; done)) _))
  have b0 : W1.heap[B]? = some (.cells #[.bool false] 4 (0, 0)) := by rw [hW1, hB]; exact hp_alloc (hp_alloc (hp_new _ _) _) _
  have b1 : W1.heap[B + 1]? = some (.cells #[.map none] 47 (0, 0)) := by rw [hW1, hB]; exact hp_alloc (hp_at _ _ (by simp)) _
  have b2 : W1.heap[B + 1 + 1]? = some (.cells #[.pointer none, .pointer (some ⟨B + 1, 0, none⟩)] 25 (0, 0)) := by rw [hW1, hB]; exact hp_at _ _ (by simp)
  have hz : W1.heap.size = B + 3 := by rw [hW1, hB]; simp
  rw [← hB]
  have HC := Lib.hid (show ∀ X, Mod (fun _ => False) W1 X → X.cell? ⟨B + 1 + 1, 0, none⟩ = some (.pointer none) ∧ X.cell? ⟨B + 1 + 1, 1, none⟩ = some (.pointer (some ⟨B + 1, 0, none⟩)) from fun X hX => ⟨by rw [hp_cell (hp_mod b2 hX id)]; rfl, by rw [hp_cell (hp_mod b2 hX id)]; rfl⟩)
  have HR := Lib.hid (fun X (hX : Mod (fun _ => False) W1 X) => hp_mod b0 hX id)
  have HB0 := Lib.hid (nilBook (.pointer none) W1 (.inl rfl))
  have HB1 := Lib.hid (nilBook (.pointer (some ⟨B + 1, 0, none⟩)) W1 (.inr ⟨_, rfl, by rw [hp_cell b1]; rfl⟩))
  have HM1 := Lib.hid hm1
  have HB := Lib.hid hB
  have N1 := Mod.refl (fun _ => False) W1
  obtain ⟨k0, k1⟩ := HC.out W1 N1
  clear hW1 hm1 b0 b1 b2 hB
  refine wp_block ?_
  refine wp_loop_rounds 3 ?_
  rw [rounds_succ]
  go_upto_block 2 with (first
    | (go_at_call 15
       (with_reducible refine (HB0.out.ask _ (N1.trans' (by (repeat' (with_reducible (first | exact Mod.refl _ _ | assumption | refine Mod.alloc ?_ _ | refine Mod.drew ?_ | refine Mod.drewN ?_ _ | refine Mod.setCell ?_ (by first | exact Or.inl rfl | (right; simp; done) | (right; simp; omega) | (left; simp; done)) _)))))).mono ?_)
       rintro e wa0 ⟨⟨r, he, hr, hok, -⟩, hm⟩
       obtain ⟨kc, ky, rA, rn, rcA, rB, rm, rcB, hval, hcs⟩ := r.open
       rw [hval] at he
       have he : e = .returned (.tuple #[.int .i64 1, .agg #[.int .i64 kc, .bool ky, .slice rA rn rcA, .slice rB rm rcB]]) := he
       subst he
       have Na0 : Mod (fun _ => False) W1 wa0 := Mod.trans' (by (repeat' (with_reducible (first | exact Mod.refl _ _ | assumption | refine Mod.alloc ?_ _ | refine Mod.drew ?_ | refine Mod.drewN ?_ _ | refine Mod.setCell ?_ (by first | exact Or.inl rfl | (right; simp; done) | (right; simp; omega) | (left; simp; done)) _)))) hm
       clear hm hok hr hval hcs)
    | (go_at_call 11
       (with_reducible refine (HB0.out.lat _ (N1.trans' (by (repeat' (with_reducible (first | exact Mod.refl _ _ | assumption | refine Mod.alloc ?_ _ | refine Mod.drew ?_ | refine Mod.drewN ?_ _ | refine Mod.setCell ?_ (by first | exact Or.inl rfl | (right; simp; done) | (right; simp; omega) | (left; simp; done)) _)))))).mono ?_)
       rintro e wb0 ⟨rfl, hm⟩
       have Nb0 : Mod (fun _ => False) W1 wb0 := Mod.trans' (by (repeat' (with_reducible (first | exact Mod.refl _ _ | assumption | refine Mod.alloc ?_ _ | refine Mod.drew ?_ | refine Mod.drewN ?_ _ | refine Mod.setCell ?_ (by first | exact Or.inl rfl | (right; simp; done) | (right; simp; omega) | (left; simp; done)) _)))) hm
       clear hm)
    | (go_at_call 16
       (with_reducible refine (HB0.out.all _ (N1.trans' (by (repeat' (with_reducible (first | exact Mod.refl _ _ | assumption | refine Mod.alloc ?_ _ | refine Mod.drew ?_ | refine Mod.drewN ?_ _ | refine Mod.setCell ?_ (by first | exact Or.inl rfl | (right; simp; done) | (right; simp; omega) | (left; simp; done)) _)))))).mono ?_)
       rintro e wd0 ⟨rfl, hbt, hbs, hm⟩
       have Nd0 : Mod (fun _ => False) W1 wd0 := Mod.trans' (by (repeat' (with_reducible (first | exact Mod.refl _ _ | assumption | refine Mod.alloc ?_ _ | refine Mod.drew ?_ | refine Mod.drewN ?_ _ | refine Mod.setCell ?_ (by first | exact Or.inl rfl | (right; simp; done) | (right; simp; omega) | (left; simp; done)) _)))) hm
       clear hm)
    | fail)
  have HK0 := Lib.hid hbs
  refine wp_block ?_
  refine (wpIn_wide (n := 0)).1 ?_
  refine wp_rangeG (gf := 33) (lb := #[.pointer (some ⟨wb0.heap.size, 0, none⟩)]) rfl (enters_of Tryz.func33 (by kernel_rfl) rfl) tabIt_ok (tno_iter _ (fun b => b = wb0.heap.size) wd0 hbt rfl)
    (fun b hb => by
      rcases hb with hb | h
      · have hb : b = wb0.heap.size := hb
        rw [hb]; exact HK0.out
      · exact h.elim) rfl nlI noXS nlA (fun _ _ _ _ h _ => h) (fun _ _ _ _ _ h _ => h) (fun _ _ _ _ _ _ _ h _ => h) (fun _ => False) (fun b h => h.elim) rfl trivial
    (fun _ k hk => absurd (show k < 0 from hk) (Nat.not_lt_zero k)) (fun _ k hk => absurd (show k < 0 from hk) (Nat.not_lt_zero k)) ?done0 (fun _ _ _ _ _ _ h => h.elim)
  rintro we0 C' hi - hm' - hK -
  have Ne0 : Mod (fun _ => False) W1 we0 := Nd0.trans' (hm'.mono fun b _ h => h.elim id id)
  have HD0 := Lib.hid (fun X (hX : Mod (fun _ => False) we0 X) => hp_mod hK hX id)
  have Re0 := Mod.refl (fun _ => False) we0
  have hsd0 := Nd0.size
  clear hi hm' hK hbs hbt
  go_upto_region 5 with (first
    | (go_at_call 12
       (with_reducible refine (HB0.out.put _ (N1.trans' (Ne0.trans' (by (repeat' (with_reducible (first | exact Mod.refl _ _ | assumption | refine Mod.alloc ?_ _ | refine Mod.drew ?_ | refine Mod.drewN ?_ _ | refine Mod.setCell ?_ (by first | exact Or.inl rfl | (right; simp; done) | (right; simp; omega) | (left; simp; done)) _))))))).mono ?_)
       rintro e wf0 ⟨rfl, hm⟩
       have Rf0 : Mod (fun _ => False) we0 wf0 := Mod.trans' (by (repeat' (with_reducible (first | exact Mod.refl _ _ | assumption | refine Mod.alloc ?_ _ | refine Mod.drew ?_ | refine Mod.drewN ?_ _ | refine Mod.setCell ?_ (by first | exact Or.inl rfl | (right; simp; done) | (right; simp; omega) | (left; simp; done)) _)))) hm
       clear hm)
    | (go_at_call 17
       (with_reducible refine (HB0.out.len _ (N1.trans' (Ne0.trans' (by (repeat' (with_reducible (first | exact Mod.refl _ _ | assumption | refine Mod.alloc ?_ _ | refine Mod.drew ?_ | refine Mod.drewN ?_ _ | refine Mod.setCell ?_ (by first | exact Or.inl rfl | (right; simp; done) | (right; simp; omega) | (left; simp; done)) _))))))).mono ?_)
       rintro e wg0 ⟨rfl, rfl⟩)
    | (go_at_call 18
       (with_reducible refine (HB0.out.bytes _ (N1.trans' (Ne0.trans' (by (repeat' (with_reducible (first | exact Mod.refl _ _ | assumption | refine Mod.alloc ?_ _ | refine Mod.drew ?_ | refine Mod.drewN ?_ _ | refine Mod.setCell ?_ (by first | exact Or.inl rfl | (right; simp; done) | (right; simp; omega) | (left; simp; done)) _))))))).mono ?_)
       rintro e wh0 ⟨rfl, hm⟩
       have Rh0 : Mod (fun _ => False) we0 wh0 := Mod.trans' (by (repeat' (with_reducible (first | exact Mod.refl _ _ | assumption | refine Mod.alloc ?_ _ | refine Mod.drew ?_ | refine Mod.drewN ?_ _ | refine Mod.setCell ?_ (by first | exact Or.inl rfl | (right; simp; done) | (right; simp; omega) | (left; simp; done)) _)))) hm
       clear hm)
    | (go_at_call 10
       (with_reducible refine (HB0.out.copy _ (N1.trans' (Ne0.trans' (by (repeat' (with_reducible (first | exact Mod.refl _ _ | assumption | refine Mod.alloc ?_ _ | refine Mod.drew ?_ | refine Mod.drewN ?_ _ | refine Mod.setCell ?_ (by first | exact Or.inl rfl | (right; simp; done) | (right; simp; omega) | (left; simp; done)) _))))))).mono ?_)
       rintro e wi0 ⟨rfl, rfl⟩)
    | (go_at_call 13
       (with_reducible refine (HB0.out.same _ (N1.trans' (Ne0.trans' (by (repeat' (with_reducible (first | exact Mod.refl _ _ | assumption | refine Mod.alloc ?_ _ | refine Mod.drew ?_ | refine Mod.drewN ?_ _ | refine Mod.setCell ?_ (by first | exact Or.inl rfl | (right; simp; done) | (right; simp; omega) | (left; simp; done)) _))))))).mono ?_)
       rintro e wj0 ⟨rfl, hm⟩
       have Rj0 : Mod (fun _ => False) we0 wj0 := Mod.trans' (by (repeat' (with_reducible (first | exact Mod.refl _ _ | assumption | refine Mod.alloc ?_ _ | refine Mod.drew ?_ | refine Mod.drewN ?_ _ | refine Mod.setCell ?_ (by first | exact Or.inl rfl | (right; simp; done) | (right; simp; omega) | (left; simp; done)) _)))) hm
       clear hm)
    | (go_at_call 19
       (with_reducible refine (tnew_any _).mono ?_)
       rintro e wk0 ⟨pk0, mk0, rfl, hT, -, -, hm⟩
       have Rk0 : Mod (fun _ => False) we0 wk0 := Mod.trans' (by (repeat' (with_reducible (first | exact Mod.refl _ _ | assumption | refine Mod.alloc ?_ _ | refine Mod.drew ?_ | refine Mod.drewN ?_ _ | refine Mod.setCell ?_ (by first | exact Or.inl rfl | (right; simp; done) | (right; simp; omega) | (left; simp; done)) _)))) hm
       have HS0 := Lib.hid (HB0.out.unlike pk0 mk0 _ (N1.trans' (Ne0.trans' Rk0)) (tab_len hT _ (Mod.refl _ _)).1)
       clear hT hm)
    | (go_at_call 13
       (with_reducible refine (HS0.out).mono ?_)
       rintro e wl0 ⟨rfl, hm⟩
       have Rl0 : Mod (fun _ => False) we0 wl0 := Mod.trans' (by (repeat' (with_reducible (first | exact Mod.refl _ _ | assumption | refine Mod.alloc ?_ _ | refine Mod.drew ?_ | refine Mod.drewN ?_ _ | refine Mod.setCell ?_ (by first | exact Or.inl rfl | (right; simp; done) | (right; simp; omega) | (left; simp; done)) _)))) hm
       have N0 : Mod (fun _ => False) W1 wl0 := N1.trans' (Ne0.trans' Rl0)
       have T0 := Mod.refl (fun _ => False) wl0
       obtain ⟨k0, k1⟩ := HC.out _ N0
       clear hm)
    | fail)
  go_wp2
  rw [rounds_succ]
  go_upto_block 2 with (first
    | (go_at_call 15
       (with_reducible refine (HB1.out.ask _ (N0.trans' (by (repeat' (with_reducible (first | exact Mod.refl _ _ | assumption | refine Mod.alloc ?_ _ | refine Mod.drew ?_ | refine Mod.drewN ?_ _ | refine Mod.setCell ?_ (by first | exact Or.inl rfl | (right; simp; done) | (right; simp; omega) | (left; simp; done)) _)))))).mono ?_)
       rintro e wa1 ⟨⟨r, he, hr, hok, -⟩, hm⟩
       obtain ⟨kc, ky, rA, rn, rcA, rB, rm, rcB, hval, hcs⟩ := r.open
       rw [hval] at he
       have he : e = .returned (.tuple #[.int .i64 1, .agg #[.int .i64 kc, .bool ky, .slice rA rn rcA, .slice rB rm rcB]]) := he
       subst he
       have Na1 : Mod (fun _ => False) wl0 wa1 := Mod.trans' (by (repeat' (with_reducible (first | exact Mod.refl _ _ | assumption | refine Mod.alloc ?_ _ | refine Mod.drew ?_ | refine Mod.drewN ?_ _ | refine Mod.setCell ?_ (by first | exact Or.inl rfl | (right; simp; done) | (right; simp; omega) | (left; simp; done)) _)))) hm
       clear hm hok hr hval hcs)
    | (go_at_call 11
       (with_reducible refine (HB1.out.lat _ (N0.trans' (by (repeat' (with_reducible (first | exact Mod.refl _ _ | assumption | refine Mod.alloc ?_ _ | refine Mod.drew ?_ | refine Mod.drewN ?_ _ | refine Mod.setCell ?_ (by first | exact Or.inl rfl | (right; simp; done) | (right; simp; omega) | (left; simp; done)) _)))))).mono ?_)
       rintro e wb1 ⟨rfl, hm⟩
       have Nb1 : Mod (fun _ => False) wl0 wb1 := Mod.trans' (by (repeat' (with_reducible (first | exact Mod.refl _ _ | assumption | refine Mod.alloc ?_ _ | refine Mod.drew ?_ | refine Mod.drewN ?_ _ | refine Mod.setCell ?_ (by first | exact Or.inl rfl | (right; simp; done) | (right; simp; omega) | (left; simp; done)) _)))) hm
       clear hm)
    | (go_at_call 16
       (with_reducible refine (HB1.out.all _ (N0.trans' (by (repeat' (with_reducible (first | exact Mod.refl _ _ | assumption | refine Mod.alloc ?_ _ | refine Mod.drew ?_ | refine Mod.drewN ?_ _ | refine Mod.setCell ?_ (by first | exact Or.inl rfl | (right; simp; done) | (right; simp; omega) | (left; simp; done)) _)))))).mono ?_)
       rintro e wd1 ⟨rfl, hbt, hbs, hm⟩
       have Nd1 : Mod (fun _ => False) wl0 wd1 := Mod.trans' (by (repeat' (with_reducible (first | exact Mod.refl _ _ | assumption | refine Mod.alloc ?_ _ | refine Mod.drew ?_ | refine Mod.drewN ?_ _ | refine Mod.setCell ?_ (by first | exact Or.inl rfl | (right; simp; done) | (right; simp; omega) | (left; simp; done)) _)))) hm
       clear hm)
    | fail)
  have HK1 := Lib.hid hbs
  refine wp_block ?_
  refine (wpIn_wide (n := 0)).1 ?_
  refine wp_rangeG (gf := 33) (lb := #[.pointer (some ⟨wb1.heap.size, 0, none⟩)]) rfl (enters_of Tryz.func33 (by kernel_rfl) rfl) tabIt_ok (tno_iter _ (fun b => b = wb1.heap.size) wd1 hbt rfl)
    (fun b hb => by
      rcases hb with hb | h
      · have hb : b = wb1.heap.size := hb
        rw [hb]; exact HK1.out
      · exact h.elim) rfl nlI noXS nlA (fun _ _ _ _ h _ => h) (fun _ _ _ _ _ h _ => h) (fun _ _ _ _ _ _ _ h _ => h) (fun _ => False) (fun b h => h.elim) rfl trivial
    (fun _ k hk => absurd (show k < 0 from hk) (Nat.not_lt_zero k)) (fun _ k hk => absurd (show k < 0 from hk) (Nat.not_lt_zero k)) ?done1 (fun _ _ _ _ _ _ h => h.elim)
  rintro we1 C' hi - hm' - hK -
  have Ne1 : Mod (fun _ => False) wl0 we1 := Nd1.trans' (hm'.mono fun b _ h => h.elim id id)
  have HD1 := Lib.hid (fun X (hX : Mod (fun _ => False) we1 X) => hp_mod hK hX id)
  have Re1 := Mod.refl (fun _ => False) we1
  have hsd1 := Nd1.size
  clear hi hm' hK hbs hbt
  go_upto_region 5 with (first
    | (go_at_call 12
       (with_reducible refine (HB1.out.put _ (N0.trans' (Ne1.trans' (by (repeat' (with_reducible (first | exact Mod.refl _ _ | assumption | refine Mod.alloc ?_ _ | refine Mod.drew ?_ | refine Mod.drewN ?_ _ | refine Mod.setCell ?_ (by first | exact Or.inl rfl | (right; simp; done) | (right; simp; omega) | (left; simp; done)) _))))))).mono ?_)
       rintro e wf1 ⟨rfl, hm⟩
       have Rf1 : Mod (fun _ => False) we1 wf1 := Mod.trans' (by (repeat' (with_reducible (first | exact Mod.refl _ _ | assumption | refine Mod.alloc ?_ _ | refine Mod.drew ?_ | refine Mod.drewN ?_ _ | refine Mod.setCell ?_ (by first | exact Or.inl rfl | (right; simp; done) | (right; simp; omega) | (left; simp; done)) _)))) hm
       clear hm)
    | (go_at_call 17
       (with_reducible refine (HB1.out.len _ (N0.trans' (Ne1.trans' (by (repeat' (with_reducible (first | exact Mod.refl _ _ | assumption | refine Mod.alloc ?_ _ | refine Mod.drew ?_ | refine Mod.drewN ?_ _ | refine Mod.setCell ?_ (by first | exact Or.inl rfl | (right; simp; done) | (right; simp; omega) | (left; simp; done)) _))))))).mono ?_)
       rintro e wg1 ⟨rfl, rfl⟩)
    | (go_at_call 18
       (with_reducible refine (HB1.out.bytes _ (N0.trans' (Ne1.trans' (by (repeat' (with_reducible (first | exact Mod.refl _ _ | assumption | refine Mod.alloc ?_ _ | refine Mod.drew ?_ | refine Mod.drewN ?_ _ | refine Mod.setCell ?_ (by first | exact Or.inl rfl | (right; simp; done) | (right; simp; omega) | (left; simp; done)) _))))))).mono ?_)
       rintro e wh1 ⟨rfl, hm⟩
       have Rh1 : Mod (fun _ => False) we1 wh1 := Mod.trans' (by (repeat' (with_reducible (first | exact Mod.refl _ _ | assumption | refine Mod.alloc ?_ _ | refine Mod.drew ?_ | refine Mod.drewN ?_ _ | refine Mod.setCell ?_ (by first | exact Or.inl rfl | (right; simp; done) | (right; simp; omega) | (left; simp; done)) _)))) hm
       clear hm)
    | (go_at_call 10
       (with_reducible refine (HB1.out.copy _ (N0.trans' (Ne1.trans' (by (repeat' (with_reducible (first | exact Mod.refl _ _ | assumption | refine Mod.alloc ?_ _ | refine Mod.drew ?_ | refine Mod.drewN ?_ _ | refine Mod.setCell ?_ (by first | exact Or.inl rfl | (right; simp; done) | (right; simp; omega) | (left; simp; done)) _))))))).mono ?_)
       rintro e wi1 ⟨rfl, rfl⟩)
    | (go_at_call 13
       (with_reducible refine (HB1.out.same _ (N0.trans' (Ne1.trans' (by (repeat' (with_reducible (first | exact Mod.refl _ _ | assumption | refine Mod.alloc ?_ _ | refine Mod.drew ?_ | refine Mod.drewN ?_ _ | refine Mod.setCell ?_ (by first | exact Or.inl rfl | (right; simp; done) | (right; simp; omega) | (left; simp; done)) _))))))).mono ?_)
       rintro e wj1 ⟨rfl, hm⟩
       have Rj1 : Mod (fun _ => False) we1 wj1 := Mod.trans' (by (repeat' (with_reducible (first | exact Mod.refl _ _ | assumption | refine Mod.alloc ?_ _ | refine Mod.drew ?_ | refine Mod.drewN ?_ _ | refine Mod.setCell ?_ (by first | exact Or.inl rfl | (right; simp; done) | (right; simp; omega) | (left; simp; done)) _)))) hm
       clear hm)
    | (go_at_call 19
       (with_reducible refine (tnew_any _).mono ?_)
       rintro e wk1 ⟨pk1, mk1, rfl, hT, -, -, hm⟩
       have Rk1 : Mod (fun _ => False) we1 wk1 := Mod.trans' (by (repeat' (with_reducible (first | exact Mod.refl _ _ | assumption | refine Mod.alloc ?_ _ | refine Mod.drew ?_ | refine Mod.drewN ?_ _ | refine Mod.setCell ?_ (by first | exact Or.inl rfl | (right; simp; done) | (right; simp; omega) | (left; simp; done)) _)))) hm
       have HS1 := Lib.hid (HB1.out.unlike pk1 mk1 _ (N0.trans' (Ne1.trans' Rk1)) (tab_len hT _ (Mod.refl _ _)).1)
       clear hT hm)
    | (go_at_call 13
       (with_reducible refine (HS1.out).mono ?_)
       rintro e wl1 ⟨rfl, hm⟩
       have Rl1 : Mod (fun _ => False) we1 wl1 := Mod.trans' (by (repeat' (with_reducible (first | exact Mod.refl _ _ | assumption | refine Mod.alloc ?_ _ | refine Mod.drew ?_ | refine Mod.drewN ?_ _ | refine Mod.setCell ?_ (by first | exact Or.inl rfl | (right; simp; done) | (right; simp; omega) | (left; simp; done)) _)))) hm
       have N1 : Mod (fun _ => False) W1 wl1 := N0.trans' (Ne1.trans' Rl1)
       have T1 := Mod.refl (fun _ => False) wl1
       obtain ⟨k0, k1⟩ := HC.out _ N1
       clear hm)
    | fail)
  go_wp2
  rw [rounds_succ]
  go_wp2_with (first
    | (go_at_call 8
       (with_reducible refine (HKn.out _).mono ?_)
       rintro e wm ⟨rfl, hm⟩
       have Tm : Mod (fun _ => False) wl1 wm := Mod.trans' (by (repeat' (with_reducible (first | exact Mod.refl _ _ | assumption | refine Mod.alloc ?_ _ | refine Mod.drew ?_ | refine Mod.drewN ?_ _ | refine Mod.setCell ?_ (by first | exact Or.inl rfl | (right; simp; done) | (right; simp; omega) | (left; simp; done)) _)))) hm
       have r1 := HR.out _ (N1.trans' Tm)
       have c3 : wm.cell? ⟨B, 0, none⟩ = some (.bool false) := by rw [hp_cell r1]; rfl
       have fr := hp_free r1 0
       have rl := hp_lt r1
       have HR1 := Lib.hid r1
       clear hm r1)
    | fail)
  have hk := hp_far (HD1.out _ (Rl1.trans' Tm)) (p := ⟨B, 0, none⟩) (show wd1.heap.size ≠ B by have h0 := Nd1.size; have h1 := Nd0.size; have h2 := N0.size; omega) (.bool true)
  have he := hp_far (HD0.out _ (((Rl0.trans' Ne1).trans' Rl1).trans' Tm)) (p := ⟨B, 0, none⟩) (show wd0.heap.size ≠ B by have h1 := Nd0.size; omega) (.bool true)
  have hd01 : wd0.heap.size ≠ wd1.heap.size := by
    have h1 := hp_lt (HD0.out _ Rl0)
    have h2 := Nd1.size
    omega
  have hR := hp_eq (hp_set HR1.out 0 (.bool true)) (cs' := #[.bool true]) (by simp)
  have hR2 : (((wm.setCell ⟨B, 0, none⟩ (.bool true)).putObj wd1.heap.size (.deferred none)).putObj wd0.heap.size (.deferred none)).heap[B]? = some (.cells #[.bool true] 4 (0, 0)) := by
    rw [World.putObj_heap_other (by have h1 := Nd0.size; omega), World.putObj_heap_other (by have h0 := Nd1.size; have h1 := Nd0.size; have h2 := N0.size; omega)]; exact hR
  have hc := hp_cell hR2 0
  refine retM2 (v := .bool true) rfl hk he hd01 ?_ ⟨rfl, ?_⟩
  · simp [results, asAddr, go_sem] at hc ⊢
    rw [hc]
  · have hB := HB.out
    have hs := HM1.out.size
    have h1 := Nd0.size
    have h2 := Nd1.size
    have h3 := N0.size
    refine Mod.putObj ?_ (.inr (by omega)) _
    refine Mod.putObj ?_ (.inr (by omega)) _
    exact (HM1.out.trans' (N1.trans' Tm)).setCell (p := ⟨B, 0, none⟩) (.inr (show w.heap.size ≤ B by omega)) _
end Go.Proofs.YtmalclclopnlnaaGreat
