/-
  Texts of this claim, one behind the other: CliC, CliD.
-/
import Derived.Test.YtmalclclopnlnaaGreatPk17
import Derived.Test.YtmalclclopnlnaaGreatPk21
/-
  The package clients: how a request is; a client's answer put.
-/
namespace Go.Proofs.YtmalclclopnlnaaGreat
open Go.RowKit Go.Shelf
attribute [local go_sem] Oper.semAt_some

theorem res0_eq : (RC.nil 0).res = res0 := rfl
/-- What Ask answers. -/
def AskEnds (a : Nat × Res) (w : World) (e : Ending) (w' : World) : Prop :=
  (∃ r : RC, e = .returned (.tuple #[.int .i64 (a.1 : Int), r.val]) ∧ r.res = a.2 ∧ r.Ok (fun b => w.heap.size ≤ b ∧ b < w'.heap.size) w' ∧ r.Fit) ∧ Mod (fun _ => False) w w'
theorem fld_b (x : Int) (A : Option Addr) (k c : Nat) (X : World) : (Instr.field 74 (.agg #[.int .u64 x, .slice A k c]) 1).run Tryz.prog X = .ok (.slice A k c) X := by kernel_rfl
theorem fld_n (x : Int) (A : Option Addr) (k c : Nat) (X : World) : (Instr.field 74 (.agg #[.int .u64 x, .slice A k c]) 0).run Tryz.prog X = .ok (.int .u64 x) X := by kernel_rfl
theorem nil_fit (c : Int) : (RC.nil c).Fit := ⟨by simp [RC.nil], fun e he => (by cases he)⟩
set_option maxRecDepth 100000 in
set_option maxHeartbeats 4000000 in
theorem task_any (F : Nat → Prop) (p m T : Nat) (L : List Told) (ms : List TC) (c n : Nat) (w : World) (h : TabAt F p m T w L ms) :
    Calls Tryz.prog 15 #[.pointer (some ⟨p, 0, none⟩), .int .u64 (c : Int), .int .u64 (n : Int)] w (AskEnds (askT c n L) w) := by
  have hLt := fun X (hX : Mod (fun _ => False) w X) => tlatest_any F p m T L ms c X (h.mod hX id id fun _ _ => id)
  have hb1 : (w.alloc (.cells #[.int .i64 0, .bool false, .slice none 0 0, .slice none 0 0] 37)).heap[w.heap.size]? = some (.cells #[.int .i64 0, .bool false, .slice none 0 0, .slice none 0 0] 37 (0, 0)) := hp_new _ _
  have HB1 := Lib.hid hb1
  have HH := Lib.hid h
  unfold askT
  rcases h.get c with ⟨h1, h2⟩ | ⟨t, ht, htc, h1, h2⟩
  · rw [h2] at hLt ⊢
    have HLt := Lib.hid hLt
    clear hLt hb1 h h1 h2
    go_enter Tryz.func15, Tryz.ntmps15
    go_wp2_with (first
      | (go_at_call 11
         (with_reducible refine (HLt.out _ (by (repeat' (first | exact Mod.refl _ _ | assumption | refine Mod.alloc ?_ _ | refine Mod.drew ?_ | refine Mod.drewN ?_ _ | refine Mod.setCell ?_ (by first | exact Or.inl rfl | (right; simp; done) | (right; simp; omega) | (left; simp; done)) _)))).mono ?_)
         rintro e w2 ⟨rfl, hm2⟩
         have hb2 := hp_mod HB1.out hm2 id
         have y0 : w2.cell? ⟨w.heap.size, 0, none⟩ = some (.int .i64 0) := by rw [hp_cell hb2]; rfl
         have y1 : w2.cell? ⟨w.heap.size, 1, none⟩ = some (.bool false) := by rw [hp_cell hb2]; rfl
         have y2 : w2.cell? ⟨w.heap.size, 2, none⟩ = some (.slice none 0 0) := by rw [hp_cell hb2]; rfl
         have y3 : w2.cell? ⟨w.heap.size, 3, none⟩ = some (.slice none 0 0) := by rw [hp_cell hb2]; rfl
         have g0 : w2.frozen? ⟨w.heap.size, 0, none⟩ = false := hp_free hb2 _
         have g1 : w2.frozen? ⟨w.heap.size, 1, none⟩ = false := hp_free hb2 _
         have g2 : w2.frozen? ⟨w.heap.size, 2, none⟩ = false := hp_free hb2 _
         have g3 : w2.frozen? ⟨w.heap.size, 3, none⟩ = false := hp_free hb2 _
         have HB2 := Lib.hid hb2
         have M2 := Lib.hid (((Mod.refl (fun _ => False) w).alloc _).trans' hm2)
         clear hm2 hb2)
      | fail)
    have h9 := st4_at HB2.out (.int .i64 0) (.bool false) (.slice none 0 0) (.slice none 0 0)
    have hm9 := st4_mod w2 w.heap.size (.int .i64 0) (.bool false) (.slice none 0 0) (.slice none 0 0)
    change bodyPost _ _ _ _ _ (st4 w2 w.heap.size (.int .i64 0) (.bool false) (.slice none 0 0) (.slice none 0 0))
    obtain ⟨W9, hW9⟩ : ∃ W9, W9 = st4 w2 w.heap.size (.int .i64 0) (.bool false) (.slice none 0 0) (.slice none 0 0) := ⟨_, rfl⟩
    rw [← hW9] at h9 hm9 ⊢
    have M9 := M2.out.trans hm9 fun b hb => by right; omega
    have k0 := hp_cell h9 0
    have k1 := hp_cell h9 1
    have k2 := hp_cell h9 2
    have k3 := hp_cell h9 3
    clear h9 hm9 hW9
    refine bodyPost_ret (v := .tuple #[.int .i64 1, .agg #[.int .i64 0, .bool false, .slice none 0 0, .slice none 0 0]]) (by simp [results, Tryz.results15, go_sem] at k0 k1 k2 k3 ⊢; simp [k0, k1, k2, k3]) rfl ⟨⟨RC.nil 0, rfl, rfl, RC.nil_ok (by omega), nil_fit 0⟩, M9⟩
  · have hmr : mayR t.r = true := (h.tab.2.2 t.told (atT_some h2).1).1
    rw [h2] at hLt ⊢
    show Calls _ _ _ w (AskEnds (if t.n < n then (1, res0) else if n < t.n then (3, res0) else (2, t.r)) w)
    have hLt : ∀ X, Mod (fun _ => False) w X → Calls Tryz.prog 11 #[.pointer (some ⟨p, 0, none⟩), .int .u64 (c : Int)] X fun e w' => e = .returned (.tuple #[.int .u64 (t.n : Int), .bool true]) ∧ Mod (fun _ => False) X w' := hLt
    have HLt := Lib.hid hLt
    by_cases hn1 : t.n < n
    · rw [if_pos hn1]
      have i1 : decide (t.n < n) = true := decide_eq_true hn1
      clear hLt hb1 h h1 h2 ht hn1 hmr
      go_enter Tryz.func15, Tryz.ntmps15
      go_wp2_with (first
        | (go_at_call 11
           (with_reducible refine (HLt.out _ (by (repeat' (first | exact Mod.refl _ _ | assumption | refine Mod.alloc ?_ _ | refine Mod.drew ?_ | refine Mod.drewN ?_ _ | refine Mod.setCell ?_ (by first | exact Or.inl rfl | (right; simp; done) | (right; simp; omega) | (left; simp; done)) _)))).mono ?_)
           rintro e w2 ⟨rfl, hm2⟩
           have hb2 := hp_mod HB1.out hm2 id
           have y0 : w2.cell? ⟨w.heap.size, 0, none⟩ = some (.int .i64 0) := by rw [hp_cell hb2]; rfl
           have y1 : w2.cell? ⟨w.heap.size, 1, none⟩ = some (.bool false) := by rw [hp_cell hb2]; rfl
           have y2 : w2.cell? ⟨w.heap.size, 2, none⟩ = some (.slice none 0 0) := by rw [hp_cell hb2]; rfl
           have y3 : w2.cell? ⟨w.heap.size, 3, none⟩ = some (.slice none 0 0) := by rw [hp_cell hb2]; rfl
           have g0 : w2.frozen? ⟨w.heap.size, 0, none⟩ = false := hp_free hb2 _
           have g1 : w2.frozen? ⟨w.heap.size, 1, none⟩ = false := hp_free hb2 _
           have g2 : w2.frozen? ⟨w.heap.size, 2, none⟩ = false := hp_free hb2 _
           have g3 : w2.frozen? ⟨w.heap.size, 3, none⟩ = false := hp_free hb2 _
           have HB2 := Lib.hid hb2
           have M2 := Lib.hid (((Mod.refl (fun _ => False) w).alloc _).trans' hm2)
           clear hm2 hb2)
        | fail)
      have h9 := st4_at HB2.out (.int .i64 0) (.bool false) (.slice none 0 0) (.slice none 0 0)
      have hm9 := st4_mod w2 w.heap.size (.int .i64 0) (.bool false) (.slice none 0 0) (.slice none 0 0)
      change bodyPost _ _ _ _ _ (st4 w2 w.heap.size (.int .i64 0) (.bool false) (.slice none 0 0) (.slice none 0 0))
      obtain ⟨W9, hW9⟩ : ∃ W9, W9 = st4 w2 w.heap.size (.int .i64 0) (.bool false) (.slice none 0 0) (.slice none 0 0) := ⟨_, rfl⟩
      rw [← hW9] at h9 hm9 ⊢
      have M9 := M2.out.trans hm9 fun b hb => by right; omega
      have k0 := hp_cell h9 0
      have k1 := hp_cell h9 1
      have k2 := hp_cell h9 2
      have k3 := hp_cell h9 3
      clear h9 hm9 hW9
      refine bodyPost_ret (v := .tuple #[.int .i64 1, .agg #[.int .i64 0, .bool false, .slice none 0 0, .slice none 0 0]]) (by simp [results, Tryz.results15, go_sem] at k0 k1 k2 k3 ⊢; simp [k0, k1, k2, k3]) rfl ⟨⟨RC.nil 0, rfl, rfl, RC.nil_ok (by omega), nil_fit 0⟩, M9⟩
    rw [if_neg hn1]
    have i1 : decide (t.n < n) = false := decide_eq_false hn1
    by_cases hn2 : n < t.n
    · rw [if_pos hn2]
      have i2 : decide (n < t.n) = true := decide_eq_true hn2
      clear hLt hb1 h h1 h2 ht hn1 hn2 hmr
      go_enter Tryz.func15, Tryz.ntmps15
      go_wp2_with (first
        | (go_at_call 11
           (with_reducible refine (HLt.out _ (by (repeat' (first | exact Mod.refl _ _ | assumption | refine Mod.alloc ?_ _ | refine Mod.drew ?_ | refine Mod.drewN ?_ _ | refine Mod.setCell ?_ (by first | exact Or.inl rfl | (right; simp; done) | (right; simp; omega) | (left; simp; done)) _)))).mono ?_)
           rintro e w2 ⟨rfl, hm2⟩
           have hb2 := hp_mod HB1.out hm2 id
           have y0 : w2.cell? ⟨w.heap.size, 0, none⟩ = some (.int .i64 0) := by rw [hp_cell hb2]; rfl
           have y1 : w2.cell? ⟨w.heap.size, 1, none⟩ = some (.bool false) := by rw [hp_cell hb2]; rfl
           have y2 : w2.cell? ⟨w.heap.size, 2, none⟩ = some (.slice none 0 0) := by rw [hp_cell hb2]; rfl
           have y3 : w2.cell? ⟨w.heap.size, 3, none⟩ = some (.slice none 0 0) := by rw [hp_cell hb2]; rfl
           have g0 : w2.frozen? ⟨w.heap.size, 0, none⟩ = false := hp_free hb2 _
           have g1 : w2.frozen? ⟨w.heap.size, 1, none⟩ = false := hp_free hb2 _
           have g2 : w2.frozen? ⟨w.heap.size, 2, none⟩ = false := hp_free hb2 _
           have g3 : w2.frozen? ⟨w.heap.size, 3, none⟩ = false := hp_free hb2 _
           have HB2 := Lib.hid hb2
           have M2 := Lib.hid (((Mod.refl (fun _ => False) w).alloc _).trans' hm2)
           clear hm2 hb2)
        | fail)
      have h9 := st4_at HB2.out (.int .i64 0) (.bool false) (.slice none 0 0) (.slice none 0 0)
      have hm9 := st4_mod w2 w.heap.size (.int .i64 0) (.bool false) (.slice none 0 0) (.slice none 0 0)
      change bodyPost _ _ _ _ _ (st4 w2 w.heap.size (.int .i64 0) (.bool false) (.slice none 0 0) (.slice none 0 0))
      obtain ⟨W9, hW9⟩ : ∃ W9, W9 = st4 w2 w.heap.size (.int .i64 0) (.bool false) (.slice none 0 0) (.slice none 0 0) := ⟨_, rfl⟩
      rw [← hW9] at h9 hm9 ⊢
      have M9 := M2.out.trans hm9 fun b hb => by right; omega
      have k0 := hp_cell h9 0
      have k1 := hp_cell h9 1
      have k2 := hp_cell h9 2
      have k3 := hp_cell h9 3
      clear h9 hm9 hW9
      refine bodyPost_ret (v := .tuple #[.int .i64 3, .agg #[.int .i64 0, .bool false, .slice none 0 0, .slice none 0 0]]) (by simp [results, Tryz.results15, go_sem] at k0 k1 k2 k3 ⊢; simp [k0, k1, k2, k3]) rfl ⟨⟨RC.nil 0, rfl, rfl, RC.nil_ok (by omega), nil_fit 0⟩, M9⟩
    rw [if_neg hn2]
    have i2 : decide (n < t.n) = false := decide_eq_false hn2
    have hlk := fun X (hX : Mod (fun _ => False) w X) => run_mget (P := Tryz.prog) (w := X) kvU_t Tryz.underlying45 (z := .agg #[.int .u64 0, .slice none 0 0]) (by kernel_rfl) (hp_mod h.map hX id) (c : Int) false
    have hx0 := fun X (hX : Mod (fun _ => False) w X) => (show X.cell? ⟨p, 0, none⟩ = some (.map (some m)) by rw [hp_cell (hp_mod h.ptr hX id)]; rfl)
    obtain ⟨k, hk⟩ : ∃ k, k = (resV t.r).length := ⟨_, rfl⟩
    have hlk : ∀ X, Mod (fun _ => False) w X → (Instr.lookup 45 (.map (some m)) (.int .u64 (c : Int)) false).run Tryz.prog X = .ok (.agg #[.int .u64 (t.n : Int), .slice t.A k t.cap]) X := fun X hX => by have := hlk X hX; rw [h1] at this; rw [hk]; exact this
    have hOf := fun X (hX : Mod (fun _ => False) w X) => mof_any F t.A t.cap (resV t.r) X ((h.rd t ht).1.mod hX fun b hb => ⟨(h.off b hb).1, id⟩) (by have := resV_len hmr; omega)
    have hOf : ∀ X, Mod (fun _ => False) w X → Calls Tryz.prog 32 #[.slice t.A k t.cap] X (ROf (some t.r) X) := fun X hX => by have := hOf X hX; rw [← hk] at this; unfold ROfEnds at this; rw [resOf_val hmr] at this; exact this
    have HOf := Lib.hid hOf
    have HLk := Lib.hid hlk
    have HX0 := Lib.hid hx0
    have hfd := fld_b (t.n : Int) t.A k t.cap
    clear hLt hb1 h h1 h2 ht hn1 hn2 hlk hx0 hOf hk hmr
    go_enter Tryz.func15, Tryz.ntmps15
    go_wp2_with (first
      | (go_at_call 11
         (with_reducible refine (HLt.out _ (by (repeat' (first | exact Mod.refl _ _ | assumption | refine Mod.alloc ?_ _ | refine Mod.drew ?_ | refine Mod.drewN ?_ _ | refine Mod.setCell ?_ (by first | exact Or.inl rfl | (right; simp; done) | (right; simp; omega) | (left; simp; done)) _)))).mono ?_)
         rintro e w2 ⟨rfl, hm2⟩
         have M2' := ((Mod.refl (fun _ => False) w).alloc (.cells #[.int .i64 0, .bool false, .slice none 0 0, .slice none 0 0] 37)).trans' hm2
         have M2 := Lib.hid M2'
         have HB2 := Lib.hid (hp_mod HB1.out hm2 id)
         have hx0 := HX0.out _ M2'
         have hlk := HLk.out _ M2'
         clear hm2 M2')
      | (go_at_call 32
         (with_reducible refine (HOf.out _ M2.out).mono ?_)
         rintro e w3 ⟨⟨r, rfl, hrr, hok, hft⟩, hm3⟩
         obtain ⟨n3, hn3⟩ : ∃ k, k = r.es.length := ⟨_, rfl⟩
         obtain ⟨m3, hm3'⟩ : ∃ k, k = r.cur.length := ⟨_, rfl⟩
         have hval : r.val = .agg #[.int .i64 r.code, .bool r.yes, .slice r.A n3 r.cA, .slice r.B m3 r.cB] := by rw [hn3, hm3']; rfl
         have HVal := Lib.hid hval
         rw [hval]
         have HB3 := Lib.hid (hp_mod HB2.out hm3 id)
         have hb3 := HB3.out
         have y0 : w3.cell? ⟨w.heap.size, 0, none⟩ = some (.int .i64 0) := by rw [hp_cell hb3]; rfl
         have y1 : w3.cell? ⟨w.heap.size, 1, none⟩ = some (.bool false) := by rw [hp_cell hb3]; rfl
         have y2 : w3.cell? ⟨w.heap.size, 2, none⟩ = some (.slice none 0 0) := by rw [hp_cell hb3]; rfl
         have y3 : w3.cell? ⟨w.heap.size, 3, none⟩ = some (.slice none 0 0) := by rw [hp_cell hb3]; rfl
         have g0 : w3.frozen? ⟨w.heap.size, 0, none⟩ = false := hp_free hb3 _
         have g1 : w3.frozen? ⟨w.heap.size, 1, none⟩ = false := hp_free hb3 _
         have g2 : w3.frozen? ⟨w.heap.size, 2, none⟩ = false := hp_free hb3 _
         have g3 : w3.frozen? ⟨w.heap.size, 3, none⟩ = false := hp_free hb3 _
         have hlt3 := hp_lt hb3
         have e1 : ¬ w3.heap.size = w.heap.size := by omega
         have e2 : ¬ w.heap.size = w3.heap.size := by omega
         have hs3 := hm3.size
         have hs2 := M2.out.size
         have hlt2 := hp_lt HB2.out
         have HOk := Lib.hid hok
         have HFt := Lib.hid hft
         have HRr := Lib.hid hrr
         have M3 := Lib.hid (M2.out.trans' hm3)
         clear hb3 hok hft hrr hm3 hval hn3 hm3')
      | fail)
    go_region
    all_goals
      go_wp2
      have h9 := hp_drew (hp_alloc (st4_at HB3.out (.int .i64 r.code) (.bool r.yes) (.slice r.A n3 r.cA) (.slice r.B m3 r.cB)) (.cells #[.int .i64 r.code, .bool r.yes, .slice r.A n3 r.cA, .slice r.B m3 r.cB] 37))
      have hm9 := ((st4_mod w3 w.heap.size (.int .i64 r.code) (.bool r.yes) (.slice r.A n3 r.cA) (.slice r.B m3 r.cB)).alloc (.cells #[.int .i64 r.code, .bool r.yes, .slice r.A n3 r.cA, .slice r.B m3 r.cB] 37)).drew
      change bodyPost _ _ _ _ _ (((st4 w3 w.heap.size (.int .i64 r.code) (.bool r.yes) (.slice r.A n3 r.cA) (.slice r.B m3 r.cB)).alloc (.cells #[.int .i64 r.code, .bool r.yes, .slice r.A n3 r.cA, .slice r.B m3 r.cB] 37)).drew)
      obtain ⟨W9, hW9⟩ : ∃ W9, W9 = ((st4 w3 w.heap.size (.int .i64 r.code) (.bool r.yes) (.slice r.A n3 r.cA) (.slice r.B m3 r.cB)).alloc (.cells #[.int .i64 r.code, .bool r.yes, .slice r.A n3 r.cA, .slice r.B m3 r.cB] 37)).drew := ⟨_, rfl⟩
      rw [← hW9] at h9 hm9 ⊢
      have M9 := M3.out.trans hm9 fun b hb => by right; omega
      have hs9 := hm9.size
      have hok9 := (HOk.out.mod hm9 (fun b hb => ⟨hb.2, by omega⟩)).mono (D' := fun b => w.heap.size ≤ b ∧ b < W9.heap.size) fun b hb => ⟨by omega, by omega⟩
      have k0 := hp_cell h9 0
      have k1 := hp_cell h9 1
      have k2 := hp_cell h9 2
      have k3 := hp_cell h9 3
      clear h9 hm9 hW9
      refine bodyPost_ret (v := .tuple #[.int .i64 2, .agg #[.int .i64 r.code, .bool r.yes, .slice r.A n3 r.cA, .slice r.B m3 r.cB]]) (by simp [results, Tryz.results15, go_sem] at k0 k1 k2 k3 ⊢; simp [k0, k1, k2, k3]) rfl ⟨⟨r, by rw [HVal.out]; rfl, HRr.out, hok9, HFt.out⟩, M9⟩
end Go.Proofs.YtmalclclopnlnaaGreat
/-
  The package clients: a client's answer put.
-/
namespace Go.Proofs.YtmalclclopnlnaaGreat
open Go.RowKit Go.Shelf
attribute [local go_sem] Oper.semAt_some

/-- What Put leaves: m is the map's block. -/
def PutEnds (F : Nat → Prop) (p m T : Nat) (L : List Told) (x : Told) (w : World) (e : Ending) (w' : World) : Prop :=
  e = .returned (.int .i64 (wantE x L : Int)) ∧ (∃ ms F', TabAt F' p m T w' (actT L x) ms ∧ ∀ b, F' b → F b ∨ w.heap.size ≤ b) ∧ Mod (fun b => b = m) w w'
theorem PutEnds.no {F : Nat → Prop} {p m T : Nat} {L : List Told} {ms : List TC} {x : Told} {w w' : World} {e : Ending} (h : TabAt F p m T w L ms) (hm : Mod (fun _ => False) w w') (hw : wantE x L ≠ 0) (he : e = .returned (.int .i64 (wantE x L : Int))) : PutEnds F p m T L x w e w' := by
  refine ⟨he, ⟨ms, F, ?_, fun b hb => .inl hb⟩, hm.mono fun _ _ h => h.elim⟩
  unfold actT
  rw [if_neg hw]
  exact h.mod hm id id fun _ _ => id
theorem tab_len {F : Nat → Prop} {p m T : Nat} {L : List Told} {ms : List TC} {w : World} (h : TabAt F p m T w L ms) (X : World) (hX : Mod (fun _ => False) w X) : X.cell? ⟨p, 0, none⟩ = some (.map (some m)) ∧ (Builtin.len_ #[45] 3 #[.map (some m)]).run Tryz.prog X = .ok (.int .i64 (L.length : Int)) X := by
  have h := h.mod hX id id fun _ _ => id
  have hsz : (mEnts kvU 0 (ms.map TC.kv)).toArray.size = L.length := by rw [List.size_toArray, mEnts_len, List.length_map, h.len]
  have hln := run_len_map (P := Tryz.prog) (w := X) 45 3 m _ _ (by kernel_rfl) h.map
  rw [hsz] at hln
  exact ⟨by rw [hp_cell h.ptr]; rfl, hln⟩
theorem RC.open (r : RC) : ∃ k y A n cA B m cB, r.val = .agg #[.int .i64 k, .bool y, .slice A n cA, .slice B m cB] ∧ r.cs = [.int .i64 k, .bool y, .slice A n cA, .slice B m cB] := ⟨_, _, _, _, _, _, _, _, rfl, rfl⟩
set_option maxRecDepth 100000 in
set_option maxHeartbeats 4000000 in
theorem tput_any (F : Nat → Prop) (p m T : Nat) (L : List Told) (ms : List TC) (c n : Nat) (r : RC) (w : World) (h : TabAt F p m T w L ms) (hr : r.Ok (fun b => b < w.heap.size) w) (hfit : r.Fit) (hc : c < 18446744073709551616) (hn : n < 18446744073709551616) :
    Calls Tryz.prog 12 #[.pointer (some ⟨p, 0, none⟩), .int .u64 (c : Int), .int .u64 (n : Int), r.val] w (PutEnds F p m T L ⟨c, n, r.res⟩ w) := by
  have hLt := fun X (hX : Mod (fun _ => False) w X) => tlatest_any F p m T L ms c X (h.mod hX id id fun _ _ => id)
  have hBy := fun X (hX : Mod (fun _ => False) w X) => mbytes_any r X ((hr.mod hX fun b hb => ⟨hb, id⟩).mono fun b hb => Nat.lt_of_lt_of_le hb hX.size) hfit
  obtain ⟨k, y, A, n', cA, B, m', cB, hval, hcs⟩ := r.open
  rw [hval] at hBy ⊢
  obtain ⟨x, hx⟩ : ∃ x, x = r.res := ⟨_, rfl⟩
  rw [← hx] at hBy ⊢
  have HBy := Lib.hid hBy
  have HLen := Lib.hid (fun X hX => tab_len h X hX)
  have HMap := Lib.hid h.map
  have HH := Lib.hid h
  have HCN := Lib.hid (show c < 18446744073709551616 ∧ n < 18446744073709551616 from ⟨hc, hn⟩)
  have hget := h.get c
  clear hBy h hr hfit hval hcs hx hc hn
  by_cases hmy : mayR x = true
  case neg =>
    have hw : wantE ⟨c, n, x⟩ L = 2 := by unfold wantE; rw [if_neg hmy]
    have HW := Lib.hid hw
    have HMy := Lib.hid hmy
    clear hw hmy hLt hget
    go_enter Tryz.func12, Tryz.ntmps12
    go_wp2_with (first
      | (go_at_call 26
         (with_reducible refine (HBy.out _ (by (repeat' (first | exact Mod.refl _ _ | assumption | refine Mod.alloc ?_ _ | refine Mod.drew ?_ | refine Mod.drewN ?_ _ | refine Mod.setCell ?_ (by first | exact Or.inl rfl | (right; simp; done) | (right; simp; omega) | (left; simp; done)) _)))).mono ?_)
         rintro e w1 ⟨he1, hm1⟩
         rw [if_neg HMy.out] at he1; subst he1
         have M1' := ((Mod.refl (fun _ => False) w).alloc (.cells #[.int .i64 k, .bool y, .slice A n' cA, .slice B m' cB] 37)).trans' hm1
         have HTh := Lib.hid (tthere_yes p m w1 (HLen.out _ M1').1)
         have x0 := (HLen.out _ M1').1
         have M1 := Lib.hid M1'
         clear hm1 M1')
      | (go_at_call 24
         (with_reducible refine HTh.out.mono ?_)
         rintro e w2 ⟨rfl, rfl⟩)
      | fail)
    go_ret
    exact PutEnds.no HH.out M1.out (by rw [HW.out]; decide) (by rw [HW.out]; rfl)
  case pos =>
    have hw : wantE ⟨c, n, x⟩ L = putE c n L := by unfold wantE; rw [if_pos hmy]
    have HMy := Lib.hid hmy
    have hrl := resV_len hmy
    have HRl := Lib.hid hrl
    obtain ⟨kb, hkb⟩ : ∃ k, k = (resV x).length := ⟨_, rfl⟩
    have HKb := Lib.hid hkb
    obtain ⟨nl, hnl⟩ : ∃ k, k = L.length := ⟨_, rfl⟩
    rw [← hnl] at HLen
    have HW := Lib.hid hw
    have hfin : ∀ A5 c5 w1 w3 w4, Mod (fun _ => False) (w.alloc (.cells #[.int .i64 k, .bool y, .slice A n' cA, .slice B m' cB] 37)) w1 → OwnS (w.alloc (.cells #[.int .i64 k, .bool y, .slice A n' cA, .slice B m' cB] 37)).heap.size 5 1 csU w1 (.slice A5 kb c5) (resV x) → Mod (fun _ => False) w1 w3 →
        w4.heap[m]? = some (mapO kvU (mPut (c : Int) (.agg #[.int .u64 (n : Int), .slice A5 kb c5]) (ms.map TC.kv))) → Mod (fun b => b = m) w3 w4 → wantE ⟨c, n, x⟩ L = 0 → PutEnds F p m T L ⟨c, n, x⟩ w (.returned (.int .i64 0)) w4 := by
      intro A5 c5 w1 w3 w4 hm1 ho hm3 hb4 hm4 hz
      have h := HH.out
      have hW : Mod (fun _ => False) w (w.alloc (.cells #[.int .i64 k, .bool y, .slice A n' cA, .slice B m' cB] 37)) := by (repeat' (first | exact Mod.refl _ _ | assumption | refine Mod.alloc ?_ _ | refine Mod.drew ?_ | refine Mod.drewN ?_ _ | refine Mod.setCell ?_ (by first | exact Or.inl rfl | (right; simp; done) | (right; simp; omega) | (left; simp; done)) _))
      have hsW : (w.alloc (.cells #[.int .i64 k, .bool y, .slice A n' cA, .slice B m' cB] 37)).heap.size = w.heap.size + 1 := by simp
      have hM : Mod (fun b => b = m) w w4 := ((hW.trans' hm1).trans' hm3 |>.mono fun _ _ h => h.elim).trans' hm4
      have hact : actT L ⟨c, n, x⟩ = putT ⟨c, n, x⟩ L := by unfold actT; rw [if_pos hz]
      have hmlt := h.mlt
      have hplt := h.plt
      have hs1 := hm1.size
      have hs3 := hm3.size
      have hs4 := hm4.size
      refine ⟨by rw [hz]; rfl, ⟨updK TC.c ⟨c, n, A5, c5, x⟩ ms, fun b => F b ∨ (w.heap.size ≤ b ∧ b < w4.heap.size), ?_, fun b hb => hb.elim .inl fun h => .inr h.1⟩, hM⟩
      rw [hact]
      refine h.put ⟨c, n, A5, c5, x⟩ hM (by rw [hb4, hkb]; rfl) (fun b hb => .inl hb) (fun b hb => ?_) ?_ ?_ ?_
      · rcases hb with hb | hb
        · have := h.off b hb
          omega
        · omega
      · have hr1 := rd_of5 ho csU_len
        refine ((hr1.mod hm3 fun b hb => ⟨(ho.fresh b hb).2, id⟩).mod hm4 fun b hb => ?_).mono fun b hb => .inr ?_
        · have := ho.fresh b hb; omega
        · have := ho.fresh b hb; omega
      · show (resV x).length ≤ c5
        rw [← hkb]
        exact (ho.cap rfl).1
      · show Tab (putT ⟨c, n, x⟩ L)
        rw [← hact]
        exact h.tab.act HCN.out.1 HCN.out.2
    have HFin := Lib.hid hfin
    clear hfin
    rcases hget with ⟨h1, h2⟩ | ⟨t, ht, htc, h1, h2⟩
    · have hwz : wantE ⟨c, n, x⟩ L = if 16 ≤ nl then 10 else 0 := by rw [hw]; unfold putE; rw [h2, hnl]
      rw [h2] at hLt
      have HLt := Lib.hid hLt
      clear hLt h1 h2 hw hrl hkb hnl hmy HW
      by_cases hfu : 16 ≤ nl
      · rw [if_pos hfu] at hwz
        have HW := Lib.hid hwz
        have i1 : decide (16 ≤ nl) = true := decide_eq_true hfu
        have i2 : decide ((16 : Int) ≤ (nl : Int)) = true := decide_eq_true (by omega)
        clear hwz
        go_enter Tryz.func12, Tryz.ntmps12
        go_wp2_with (first
          | (go_at_call 26
             (with_reducible refine (HBy.out _ (by (repeat' (first | exact Mod.refl _ _ | assumption | refine Mod.alloc ?_ _ | refine Mod.drew ?_ | refine Mod.drewN ?_ _ | refine Mod.setCell ?_ (by first | exact Or.inl rfl | (right; simp; done) | (right; simp; omega) | (left; simp; done)) _)))).mono ?_)
             rintro e w1 ⟨he1, hm1⟩
             rw [if_pos HMy.out, ← HKb.out] at he1; obtain ⟨A5, c5, rfl, ho5⟩ := he1
             have M1' := ((Mod.refl (fun _ => False) w).alloc (.cells #[.int .i64 k, .bool y, .slice A n' cA, .slice B m' cB] 37)).trans' hm1
             have HTh := Lib.hid (tthere_yes p m w1 (HLen.out _ M1').1)
             have x0 := (HLen.out _ M1').1
             have M1 := Lib.hid M1'
             clear hm1 M1')
          | (go_at_call 24
             (with_reducible refine HTh.out.mono ?_)
             rintro e w2 ⟨rfl, rfl⟩)
          | (go_at_call 11
             (with_reducible refine (HLt.out _ M1.out).mono ?_)
             rintro e w3 ⟨rfl, hm3⟩
             have M3 := Lib.hid (M1.out.trans' hm3)
             have x0 := (HLen.out _ M3.out).1
             have hln := (HLen.out _ M3.out).2
             have HM3 := Lib.hid hm3
             clear hm3)
          | fail)
        go_ret
        exact PutEnds.no HH.out M3.out (by rw [HW.out]; decide) (by rw [HW.out]; rfl)
      · rw [if_neg hfu] at hwz
        have HW := Lib.hid hwz
        have i1 : decide (16 ≤ nl) = false := decide_eq_false hfu
        have i2 : decide ((16 : Int) ≤ (nl : Int)) = false := decide_eq_false (by omega)
        clear hwz
        go_enter Tryz.func12, Tryz.ntmps12
        go_wp2_with (first
          | (go_at_call 26
             (with_reducible refine (HBy.out _ (by (repeat' (first | exact Mod.refl _ _ | assumption | refine Mod.alloc ?_ _ | refine Mod.drew ?_ | refine Mod.drewN ?_ _ | refine Mod.setCell ?_ (by first | exact Or.inl rfl | (right; simp; done) | (right; simp; omega) | (left; simp; done)) _)))).mono ?_)
             rintro e w1 ⟨he1, hm1⟩
             rw [if_pos HMy.out, ← HKb.out] at he1; obtain ⟨A5, c5, rfl, ho5⟩ := he1; have HO5 := Lib.hid ho5; have HM1 := Lib.hid hm1
             have M1' := ((Mod.refl (fun _ => False) w).alloc (.cells #[.int .i64 k, .bool y, .slice A n' cA, .slice B m' cB] 37)).trans' hm1
             have HTh := Lib.hid (tthere_yes p m w1 (HLen.out _ M1').1)
             have x0 := (HLen.out _ M1').1
             have M1 := Lib.hid M1'
             clear hm1 M1')
          | (go_at_call 24
             (with_reducible refine HTh.out.mono ?_)
             rintro e w2 ⟨rfl, rfl⟩)
          | (go_at_call 11
             (with_reducible refine (HLt.out _ M1.out).mono ?_)
             rintro e w3 ⟨rfl, hm3⟩
             have M3 := Lib.hid (M1.out.trans' hm3)
             have x0 := (HLen.out _ M3.out).1
             have hln := (HLen.out _ M3.out).2
             have HM3 := Lib.hid hm3
             clear hm3)
          | (at_mapUpdate
             refine wpList_mput (kv := kvU) rfl _ _ _ 45 (.inl rfl) _ _ kvU_t Tryz.underlying45 rfl (hp_mod HMap.out M3.out id) (c : Int) rfl (.agg #[.int .u64 (n : Int), .slice A5 kb c5]) rfl ?_
             intro w4 hb4 hm4
             have HB4 := Lib.hid hb4
             have HM4 := Lib.hid hm4
             clear hb4 hm4)
          | fail)
        go_ret
        exact HFin.out _ _ _ _ _ HM1.out HO5.out HM3.out HB4.out HM4.out HW.out
    · have hwz : wantE ⟨c, n, x⟩ L = if n ≤ t.n then 14 else 0 := by rw [hw]; unfold putE; rw [h2]; rfl
      rw [h2] at hLt
      have hLt : ∀ X, Mod (fun _ => False) w X → Calls Tryz.prog 11 #[.pointer (some ⟨p, 0, none⟩), .int .u64 (c : Int)] X fun e w' => e = .returned (.tuple #[.int .u64 (t.n : Int), .bool true]) ∧ Mod (fun _ => False) X w' := hLt
      have HLt := Lib.hid hLt
      clear hLt h1 h2 hw hrl hkb hnl hmy HW ht htc
      by_cases hold : n ≤ t.n
      · rw [if_pos hold] at hwz
        have HW := Lib.hid hwz
        have i1 : decide (n ≤ t.n) = true := decide_eq_true hold
        clear hwz
        go_enter Tryz.func12, Tryz.ntmps12
        go_wp2_with (first
          | (go_at_call 26
             (with_reducible refine (HBy.out _ (by (repeat' (first | exact Mod.refl _ _ | assumption | refine Mod.alloc ?_ _ | refine Mod.drew ?_ | refine Mod.drewN ?_ _ | refine Mod.setCell ?_ (by first | exact Or.inl rfl | (right; simp; done) | (right; simp; omega) | (left; simp; done)) _)))).mono ?_)
             rintro e w1 ⟨he1, hm1⟩
             rw [if_pos HMy.out, ← HKb.out] at he1; obtain ⟨A5, c5, rfl, ho5⟩ := he1
             have M1' := ((Mod.refl (fun _ => False) w).alloc (.cells #[.int .i64 k, .bool y, .slice A n' cA, .slice B m' cB] 37)).trans' hm1
             have HTh := Lib.hid (tthere_yes p m w1 (HLen.out _ M1').1)
             have x0 := (HLen.out _ M1').1
             have M1 := Lib.hid M1'
             clear hm1 M1')
          | (go_at_call 24
             (with_reducible refine HTh.out.mono ?_)
             rintro e w2 ⟨rfl, rfl⟩)
          | (go_at_call 11
             (with_reducible refine (HLt.out _ M1.out).mono ?_)
             rintro e w3 ⟨rfl, hm3⟩
             have M3 := Lib.hid (M1.out.trans' hm3)
             have x0 := (HLen.out _ M3.out).1
             have hln := (HLen.out _ M3.out).2
             have HM3 := Lib.hid hm3
             clear hm3)
          | fail)
        go_ret
        exact PutEnds.no HH.out M3.out (by rw [HW.out]; decide) (by rw [HW.out]; rfl)
      · rw [if_neg hold] at hwz
        have HW := Lib.hid hwz
        have i1 : decide (n ≤ t.n) = false := decide_eq_false hold
        clear hwz
        go_enter Tryz.func12, Tryz.ntmps12
        go_wp2_with (first
          | (go_at_call 26
             (with_reducible refine (HBy.out _ (by (repeat' (first | exact Mod.refl _ _ | assumption | refine Mod.alloc ?_ _ | refine Mod.drew ?_ | refine Mod.drewN ?_ _ | refine Mod.setCell ?_ (by first | exact Or.inl rfl | (right; simp; done) | (right; simp; omega) | (left; simp; done)) _)))).mono ?_)
             rintro e w1 ⟨he1, hm1⟩
             rw [if_pos HMy.out, ← HKb.out] at he1; obtain ⟨A5, c5, rfl, ho5⟩ := he1; have HO5 := Lib.hid ho5; have HM1 := Lib.hid hm1
             have M1' := ((Mod.refl (fun _ => False) w).alloc (.cells #[.int .i64 k, .bool y, .slice A n' cA, .slice B m' cB] 37)).trans' hm1
             have HTh := Lib.hid (tthere_yes p m w1 (HLen.out _ M1').1)
             have x0 := (HLen.out _ M1').1
             have M1 := Lib.hid M1'
             clear hm1 M1')
          | (go_at_call 24
             (with_reducible refine HTh.out.mono ?_)
             rintro e w2 ⟨rfl, rfl⟩)
          | (go_at_call 11
             (with_reducible refine (HLt.out _ M1.out).mono ?_)
             rintro e w3 ⟨rfl, hm3⟩
             have M3 := Lib.hid (M1.out.trans' hm3)
             have x0 := (HLen.out _ M3.out).1
             have hln := (HLen.out _ M3.out).2
             have HM3 := Lib.hid hm3
             clear hm3)
          | (at_mapUpdate
             refine wpList_mput (kv := kvU) rfl _ _ _ 45 (.inl rfl) _ _ kvU_t Tryz.underlying45 rfl (hp_mod HMap.out M3.out id) (c : Int) rfl (.agg #[.int .u64 (n : Int), .slice A5 kb c5]) rfl ?_
             intro w4 hb4 hm4
             have HB4 := Lib.hid hb4
             have HM4 := Lib.hid hm4
             clear hb4 hm4)
          | fail)
        go_ret
        exact HFin.out _ _ _ _ _ HM1.out HO5.out HM3.out HB4.out HM4.out HW.out
end Go.Proofs.YtmalclclopnlnaaGreat
