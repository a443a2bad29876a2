/-
  Foldings: what each status does.
-/
import Derived.Test.YtidbgfmknhlmnaaGreatDoorFoldA
import Derived.Laws.EntriesVeiled
import Derived.Maps.OwnIn
import Derived.Carry
import Derived.WideLaws
import Derived.Deep.DeepFit
namespace Go.Proofs.YtidbgfmknhlmnaaGreatDoor
open Go.RowKit Go.Shelf
attribute [local go_sem] Oper.semAt_some run_makeMap

def kvS (l : Bs) : Value := .string ⟨l.toArray⟩
theorem kvS_inj (a b : Bs) (h : kvS a = kvS b) : a = b := by
  injection h with h
  injection h with h
  have := congrArg Array.toList h
  simpa using this
theorem kvS_t : KeyT kvS Tryz.prog 9 := ⟨kvS_inj, _, Tryz.underlying9, fun a => by simp [MapKept.IsKey, kvS]⟩
abbrev ptrV (b : Nat) : Value := .pointer (some ⟨b, 0, none⟩)
/-- What each status does. -/
def stV (b1 b3 : Nat) : List (Bs × Value) :=
  [(stC, .func (.func 62) #[] #[ptrV b1, ptrV b3]), (stF, .func (.func 63) #[] #[ptrV b1]), (stS, .func (.func 64) #[] #[ptrV b1, ptrV b3]), (stT, .func (.func 65) #[] #[ptrV b3])]
structure StAt (w : World) (d fb b1 b3 : Nat) : Prop where
  p1 : w.cell? ⟨b1, 0, none⟩ = some (ptrV fb)
  p3 : w.cell? ⟨b3, 0, none⟩ = some (.func (.func 61) #[] #[])
  mp : w.heap[d]? = some (mapO kvS (stV b1 b3))
set_option maxRecDepth 100000 in
set_option maxHeartbeats 1000000 in
theorem fstat_any (fb : Nat) (w : World) : Calls Tryz.prog 45 #[ptrV fb] w fun e w' => ∃ d b1 b3, e = .returned (.map (some d)) ∧ StAt w' d fb b1 b3 ∧ Mod (fun _ => False) w w' ∧ w.heap.size ≤ b1 ∧ w.heap.size ≤ b3 ∧ w.heap.size ≤ d := by
  have h0 : ∀ X : World, X.heap.size = w.heap.size + 1 + 1 → (X.alloc (.map #[] 0)).heap[w.heap.size + 1 + 1]? = some (mapO kvS []) := fun X e => e ▸ hp_new _ _
  have H0 := Lib.hid h0
  clear h0
  go_enter Tryz.func45, Tryz.ntmps45
  go_wp2_with (first
    | (refine wpList_mput (kv := kvS) rfl _ (.const (.string ⟨#[67]⟩)) _ 101 (.inr rfl) _ _ kvS_t Tryz.underlying101 rfl (H0.out _ (by simp)) stC rfl _ rfl ?_; intro w1 hb1 hm1)
    | (refine wpList_mput (kv := kvS) rfl _ (.const (.string ⟨#[70]⟩)) _ 101 (.inr rfl) _ _ kvS_t Tryz.underlying101 rfl hb1 stF rfl _ rfl ?_; intro w2 hb2 hm2)
    | (refine wpList_mput (kv := kvS) rfl _ (.const (.string ⟨#[83]⟩)) _ 101 (.inr rfl) _ _ kvS_t Tryz.underlying101 rfl hb2 stS rfl _ rfl ?_; intro w3 hb3 hm3)
    | (refine wpList_mput (kv := kvS) rfl _ (.const (.string ⟨#[84]⟩)) _ 101 (.inr rfl) _ _ kvS_t Tryz.underlying101 rfl hb3 stT rfl _ rfl ?_; intro w4 hb4 hm4)
    | fail)
  have M := ((hm1.trans' hm2).trans' hm3).trans' hm4
  have M0 : Mod (fun _ => False) w w4 := Mod.trans (C' := fun y => y = w.heap.size + 1 + 1) (by (repeat' (first | exact Mod.refl _ _ | assumption | refine Mod.alloc ?_ _ | refine Mod.drew ?_ | refine Mod.drewN ?_ _ | refine Mod.setCell ?_ (by first | exact Or.inl rfl | (right; simp; done) | (right; simp; omega) | (left; simp; done)) _))) M (fun b hb => .inr (by omega))
  have c1 : w4.cell? ⟨w.heap.size, 0, none⟩ = some (ptrV fb) := (M.cell (p := ⟨w.heap.size, 0, none⟩) (by simp; omega) (by show ¬ w.heap.size = _; omega)).trans (hp_cell (hp_alloc (hp_alloc (hp_new _ _) _) _) 0)
  have c3 : w4.cell? ⟨w.heap.size + 1, 0, none⟩ = some (.func (.func 61) #[] #[]) := (M.cell (p := ⟨w.heap.size + 1, 0, none⟩) (by simp) (by show ¬ w.heap.size + 1 = _; omega)).trans (hp_cell (hp_alloc (hp_at _ _ (by simp)) _) 0)
  go_ret
  exact ⟨w.heap.size + 1 + 1, w.heap.size, w.heap.size + 1, rfl, ⟨c1, c3, hb4⟩, M0, by omega, by omega, by omega⟩
theorem cell_lt {w : World} {p : Addr} {v : Value} (h : w.cell? p = some v) : p.block < w.heap.size := by
  unfold World.cell? at h
  rcases Nat.lt_or_ge p.block w.heap.size with h1 | h1
  · exact h1
  · rw [Array.getElem?_eq_none h1] at h; simp at h
theorem cell_ne_map {κ : Type} {kv : κ → Value} {w : World} {p : Addr} {v : Value} {m : Nat} {L : List (κ × Value)} (h : w.cell? p = some v) (hm : w.heap[m]? = some (mapO kv L)) : p.block ≠ m := by
  intro e
  unfold World.cell? at h
  rw [e, hm] at h
  simp [mapO] at h
/-- The foldings, in memory. -/
structure FoldM (w : World) (fb m1 m2 : Nat) (LF LS : List (Int × Value)) : Prop where
  c1 : w.cell? ⟨fb, 0, none⟩ = some (.map (some m1))
  c2 : w.cell? ⟨fb, 1, none⟩ = some (.map (some m2))
  h1 : w.heap[m1]? = some (mapO kvK LF)
  h2 : w.heap[m2]? = some (mapO kvK LS)
  ne : m1 ≠ m2
theorem FoldM.mod {w w' : World} {fb m1 m2 : Nat} {LF LS : List (Int × Value)} {C : Nat → Prop} (h : FoldM w fb m1 m2 LF LS) (hm : Mod C w w') (n0 : ¬ C fb) (n1 : ¬ C m1) (n2 : ¬ C m2) : FoldM w' fb m1 m2 LF LS :=
  ⟨(hm.cell (cell_lt h.c1) n0).trans h.c1, (hm.cell (cell_lt h.c2) n0).trans h.c2, hp_mod h.h1 hm n1, hp_mod h.h2 hm n2, h.ne⟩
theorem FoldM.keep {w w' : World} {fb m1 m2 : Nat} {LF LS : List (Int × Value)} (h : FoldM w fb m1 m2 LF LS) (hm : Mod (fun _ => False) w w') : FoldM w' fb m1 m2 LF LS := h.mod hm id id id
theorem FoldM.put1 {w w' : World} {fb m1 m2 : Nat} {LF LS LF' : List (Int × Value)} (h : FoldM w fb m1 m2 LF LS) (hm : Mod (fun y => y = m1) w w') (h1 : w'.heap[m1]? = some (mapO kvK LF')) : FoldM w' fb m1 m2 LF' LS :=
  have n0 : ¬ fb = m1 := cell_ne_map h.c1 h.h1
  ⟨(hm.cell (cell_lt h.c1) n0).trans h.c1, (hm.cell (cell_lt h.c2) n0).trans h.c2, h1, hp_mod h.h2 hm (fun e => h.ne e.symm), h.ne⟩
theorem FoldM.put2 {w w' : World} {fb m1 m2 : Nat} {LF LS LS' : List (Int × Value)} (h : FoldM w fb m1 m2 LF LS) (hm : Mod (fun y => y = m2) w w') (h2 : w'.heap[m2]? = some (mapO kvK LS')) : FoldM w' fb m1 m2 LF LS' :=
  have n0 : ¬ fb = m2 := cell_ne_map h.c1 h.h2
  ⟨(hm.cell (cell_lt h.c1) n0).trans h.c1, (hm.cell (cell_lt h.c2) n0).trans h.c2, hp_mod h.h1 hm h.ne, h2, h.ne⟩
theorem cell_mod {w w' : World} {p : Addr} {v : Value} {C : Nat → Prop} (h : w.cell? p = some v) (hm : Mod C w w') (n : ¬ C p.block) : w'.cell? p = some v := (hm.cell (cell_lt h) n).trans h
theorem fone_any (A : Option Addr) (n c : Nat) (w : World) : Calls Tryz.prog 61 #[.slice A n c] w fun e w' => e = .returned (.bool (decide (n = 1))) ∧ w' = w := by
  by_cases hn : n = 1
  · subst hn
    go_enter Tryz.func61, Tryz.ntmps61
    go_wp2
    go_ret
    exact ⟨rfl, rfl⟩
  · have HN := Lib.hid (show decide (n = 1) = false by simp [hn])
    have HI : ((n : Int) == 1) = false := by simp; omega
    go_enter Tryz.func61, Tryz.ntmps61
    go_wp2
    go_ret
    exact ⟨by rw [HN.out, ← HI]; rfl, rfl⟩
set_option maxRecDepth 100000 in
set_option maxHeartbeats 1000000 in
theorem fst4_any (fb m1 m2 b1 b3 c n : Nat) (D : Nat → Prop) (A : Option Addr) (R : Int) (xs : List Int) (LF LS : List (Int × Value)) (w : World) (h1 : w.cell? ⟨b1, 0, none⟩ = some (ptrV fb)) (h3 : w.cell? ⟨b3, 0, none⟩ = some (.func (.func 61) #[] #[])) (hM : FoldM w fb m1 m2 LF LS)
    (hA : Rd D w 1 csI A xs) (hn : n = xs.length) (hn0 : xs ≠ []) :
    Calls Tryz.prog 64 #[.int .i32 R, .slice A n c, ptrV b1, ptrV b3] w fun e w' => e = .returned (.bool (decide (n = 1))) ∧ FoldM w' fb m1 m2 LF (mPut R (.int .i32 (at_ xs 0)) LS) ∧ Mod (fun y => y = m2) w w' := by
  have hpos := List.length_pos_iff.2 hn0
  obtain ⟨b, off, rfl, -, q1⟩ := rdI hA hpos
  rw [← at_lt hpos] at q1
  obtain ⟨x, hx⟩ : ∃ x, x = at_ xs 0 := ⟨_, rfl⟩
  rw [← hx, Nat.add_zero] at q1
  rw [← hx]
  have hn1 : 0 < n := by omega
  have HM := Lib.hid hM
  have hm2 := hM.h2
  have hc2 := hM.c2
  have H1 := Lib.hid (fun X => fone_any (some ⟨b, off, none⟩) n c X)
  have HN := Lib.hid (show ¬ b3 = m2 from cell_ne_map h3 hm2)
  have H3 := Lib.hid h3
  clear hM hA hn hn0 hpos hx h3
  go_enter Tryz.func64, Tryz.ntmps64
  go_wp2
  go_still_tail 8, (by kernel_rfl)
  refine wpList_mput (kv := kvK) rfl _ _ _ 61 (.inl rfl) _ _ kvK_t Tryz.underlying61 rfl (hp_drew hm2) R rfl _ rfl ?_
  intro w1 hb1 hm1
  have M : Mod (fun y => y = m2) w w1 := ⟨hm1.os, hm1.tape, hm1.output, hm1.size, hm1.block⟩
  have h3 := cell_mod H3.out M HN.out
  refine wpList_nil ?_
  go_wp2_with (first | (go_at_call 61; (with_reducible refine (H1.out _).mono ?_); rintro e w2 ⟨rfl, rfl⟩) | fail)
  go_ret
  exact ⟨rfl, HM.out.put2 M hb1, M⟩
theorem fst3_any (fb m1 m2 b1 c n : Nat) (A : Option Addr) (R : Int) (LF LS : List (Int × Value)) (w : World) (h1 : w.cell? ⟨b1, 0, none⟩ = some (ptrV fb)) (hM : FoldM w fb m1 m2 LF LS) :
    Calls Tryz.prog 63 #[.int .i32 R, .slice A n c, ptrV b1] w fun e w' => e = .returned (.bool (decide (n = 2) || decide (n = 3))) ∧ FoldM w' fb m1 m2 (mPut R (.slice A n c) LF) LS ∧ Mod (fun y => y = m1) w w' := by
  have HM := Lib.hid hM
  have hm1 := hM.h1
  have hc1 := hM.c1
  clear hM
  obtain ⟨x, hx⟩ : ∃ x, ((n : Int) == 2) = x := ⟨_, rfl⟩
  obtain ⟨y, hy⟩ : ∃ y, ((n : Int) == 3) = y := ⟨_, rfl⟩
  have hr : (decide (n = 2) || decide (n = 3)) = (x || y) := by
    rw [← hx, ← hy, Bool.eq_iff_iff]
    simp only [Bool.or_eq_true, decide_eq_true_eq, beq_iff_eq]; omega
  rw [hr]
  clear hr
  cases x <;> cases y
  all_goals
    go_enter Tryz.func63, Tryz.ntmps63
    go_wp2_with (first
      | (at_mapUpdate; refine wpList_mput (kv := kvK) rfl _ _ _ 60 (.inl rfl) _ _ kvK_t Tryz.underlying60 rfl hm1 R rfl _ rfl ?_; intro w1 hb1 hm1)
      | fail)
    go_ret
    exact ⟨rfl, HM.out.put1 hm1 hb1, hm1⟩
theorem fst5_any (b3 c n : Nat) (A : Option Addr) (R : Int) (w : World) (h3 : w.cell? ⟨b3, 0, none⟩ = some (.func (.func 61) #[] #[])) :
    Calls Tryz.prog 65 #[.int .i32 R, .slice A n c, ptrV b3] w fun e w' => e = .returned (.bool (decide (n = 1))) ∧ w' = w := by
  have H1 := Lib.hid (fun X => fone_any A n c X)
  go_enter Tryz.func65, Tryz.ntmps65
  go_wp2_with (first | (go_at_call 61; (with_reducible refine (H1.out _).mono ?_); rintro e w2 ⟨rfl, rfl⟩) | fail)
  go_ret
  exact ⟨rfl, rfl⟩
set_option maxRecDepth 100000 in
set_option maxHeartbeats 1000000 in
theorem fst2_any (fb m1 m2 b1 b3 c n : Nat) (D : Nat → Prop) (A : Option Addr) (R : Int) (xs : List Int) (LF LS : List (Int × Value)) (w : World) (h1 : w.cell? ⟨b1, 0, none⟩ = some (ptrV fb)) (h3 : w.cell? ⟨b3, 0, none⟩ = some (.func (.func 61) #[] #[])) (hM : FoldM w fb m1 m2 LF LS)
    (hA : Rd D w 1 csI A xs) (hn : n = xs.length) (hn0 : xs ≠ []) :
    Calls Tryz.prog 62 #[.int .i32 R, .slice A n c, ptrV b1, ptrV b3] w fun e w' => e = .returned (.bool (decide (n = 1))) ∧ FoldM w' fb m1 m2 (mPut R (.slice A n c) LF) (mPut R (.int .i32 (at_ xs 0)) LS) ∧ Mod (fun y => y = m1 ∨ y = m2) w w' := by
  have hpos := List.length_pos_iff.2 hn0
  obtain ⟨b, off, rfl, -, q1⟩ := rdI hA hpos
  rw [← at_lt hpos] at q1
  obtain ⟨x, hx⟩ : ∃ x, x = at_ xs 0 := ⟨_, rfl⟩
  rw [← hx, Nat.add_zero] at q1
  rw [← hx]
  have hn1 : 0 < n := by omega
  have HM := Lib.hid hM
  have hc1 := hM.c1
  have hh1 := hM.h1
  have H1 := Lib.hid (fun X => fone_any (some ⟨b, off, none⟩) n c X)
  have HN := Lib.hid (show ¬ b3 = m2 from cell_ne_map h3 hM.h2)
  have HN1 := Lib.hid (show ¬ b3 = m1 from cell_ne_map h3 hM.h1)
  have HB := Lib.hid (show ¬ b1 = m1 from cell_ne_map h1 hM.h1)
  have HX := Lib.hid (show ¬ b = m1 from cell_ne_map q1 hM.h1)
  have H3 := Lib.hid h3
  have HB1 := Lib.hid h1
  have HQ1 := Lib.hid q1
  clear hM hA hn hn0 hpos hx h3 q1
  go_enter Tryz.func62, Tryz.ntmps62
  go_wp2_with (first
    | (at_mapUpdate; refine wpList_mput (kv := kvK) rfl _ _ _ 60 (.inl rfl) _ _ kvK_t Tryz.underlying60 rfl hh1 R rfl _ rfl ?_; intro w0 hb0 hm0; clear hc1 h1)
    | fail)
  have HF := Lib.hid (HM.out.put1 hm0 hb0)
  have hm2 := HF.out.h2
  have hc2 := HF.out.c2
  have h1 := cell_mod HB1.out hm0 HB.out
  have h3 := cell_mod H3.out hm0 HN1.out
  have q1 := cell_mod HQ1.out hm0 HX.out
  go_still_tail 8, (by kernel_rfl)
  refine wpList_mput (kv := kvK) rfl _ _ _ 61 (.inl rfl) _ _ kvK_t Tryz.underlying61 rfl (hp_drew hm2) R rfl _ rfl ?_
  intro w1 hb1 hm1
  have M : Mod (fun y => y = m2) w0 w1 := ⟨hm1.os, hm1.tape, hm1.output, hm1.size, hm1.block⟩
  have h3 := cell_mod h3 M HN.out
  have MM : Mod (fun y => y = m1 ∨ y = m2) w w1 := (hm0.mono fun _ _ h => .inl h).trans M fun _ h => .inl (.inr h)
  refine wpList_nil ?_
  go_wp2_with (first | (go_at_call 61; (with_reducible refine (H1.out _).mono ?_); rintro e w2 ⟨rfl, rfl⟩) | fail)
  go_ret
  exact ⟨rfl, HF.out.put2 M hb1, MM⟩
end Go.Proofs.YtidbgfmknhlmnaaGreatDoor
