/-
  Texts of this claim, one behind the other: Row, OpenN, LawZ.
-/
import Derived.Test.YtmalclclopnlnaaGreatPk01
import Derived.Test.YtmalclclopnlnaaGreatPk38
import Derived.Test.YtmalclclopnlnaaGreatPk41
import Derived.Test.YtmalclclopnlnaaGreatPk42
import Derived.Test.YtmalclclopnlnaaGreatPk43
import Derived.Test.YtmalclclopnlnaaGreatProg
import Derived.SizedLaws
import Derived.LaidMore
import Derived.Lay
import Derived.Stop.Joined
import Derived.Shelf.Vars
import Derived.SevenTiedAt
import Derived.Laws.BitsAllLaws
/-
  From a walk to a row that lists variables: the world's shape handed on beside what the variables hold; strings as they come in.
-/
namespace Go.Proofs.YtmalclclopnlnaaGreat
open Go.ChangeShapes Go.WideShapes Go.Deep Go.Joins Go.RowKit

theorem handed_row {H : Type} {enc : TypeId × Value → H} {a : Assume} {C : Checked} {os : Os} {f : FuncId} {fn : Func} {s : ChangeSpec} {conds : List PathCond} {apart fresh handsOn again : Bool} {X : World → Prop}
    (hX : ∀ w w' : World, w.heap = w'.heap → X w → X w')
    (own : ownKnob C.prog.godebug = none) (started : os.Started) (noInit : C.prog.inits.idxOf? f = none) (hfn : C.prog.funcs[f]? = some fn)
    (witness : ∃ (w : World) (tape : Tape) (i : Input), w.os = os ∧ (w.forCall tape i).Shaped C.prog ∧ i.vars = [] ∧ Input.okWide C.prog (w.forCall tape i) .any w.heap.size f i ∧
      ((s.pre enc C.prog fn conds apart (w.forCall tape i).memory i.args ∧ X (w.forCall tape i).memory) ∧ sizedMet enc C.prog fn (OpenSpec.ofChange s) apart (w.forCall tape i).memory i.args) ∧ a.holds C.prog (lone (Frame.enter C.prog f i.args .normal) [] (w.forCall tape i)))
    (walk : ∀ (W : World) (base : Nat) (args : Array Value) (ds gs : List (DataW H)) (before : List MemPlace),
      (∀ (j : Nat) t v, fn.params[j]? = some t → args[j]? = some v → Value.okWide C.prog W .any base t v) →
      DataW.Whole enc C.prog fn.params.toList s.vars apart W args.toList ds gs before → W.ShapedOpen C.prog → X W →
      Calls C.prog f args W fun e W' => ∃ v, e = .returned v ∧ s.post enc C.prog fn apart fresh handsOn again W args v W') :
    ReturnsInHanded a C os f .any (fun w args => (s.pre enc C.prog fn conds apart w args ∧ X w) ∧ sizedMet enc C.prog fn (OpenSpec.ofChange s) apart w args) (s.post enc C.prog fn apart fresh handsOn again) := by
  refine returnsInHanded_of_calls own started noInit witness ?_
  intro w tape i _ hsh _ hok hpre _
  obtain ⟨_, _, _, g, hg, _, _, _, _, hval⟩ := hok
  obtain rfl : g = fn := Option.some.inj (hg.symm.trans hfn)
  obtain ⟨⟨⟨ds, gs, before, hw, _⟩, hx⟩, _⟩ := hpre
  refine (walk (w.forCall tape i) w.heap.size i.args ds gs before hval (DataW.Whole.of_heap (w' := w.forCall tape i) (by rfl) hw) hsh (hX _ _ (by rfl) hx)).mono fun e W' h => ?_
  obtain ⟨v, rfl, hp⟩ := h
  exact ChangeSpec.post_blind hp

section
variable {H : Type} {enc : TypeId × Value → H} {w : World} {base : Nat} {v : Value} {d : DataW H} {p : List MemPlace}
set_option maxRecDepth 100000 in
theorem open_strL (hv : Value.okWide Tryz.prog w .any base 9 v) (h : DataW.Trod enc Tryz.prog w 0 (fun _ => true) true 9 v d p) : ∃ l : List UInt8, v = .string ⟨l.toArray⟩ ∧ l.length ≤ maxLen := by
  obtain ⟨s, hs, _, _, hl⟩ := ChangeMaps.open_string Tryz.underlying9 hv h
  obtain ⟨⟨l⟩⟩ := s
  exact ⟨l, hs, hl⟩
end
end Go.Proofs.YtmalclclopnlnaaGreat
/-
  Numbers and lists of numbers as they come in.
-/
namespace Go.Proofs.YtmalclclopnlnaaGreat
open Go.ChangeShapes Go.WideShapes Go.Deep Go.Joins Go.RowKit
section
variable {H : Type} {enc : TypeId × Value → H} {w : World} {base : Nat} {v : Value} {d : DataW H} {p : List MemPlace}
set_option maxRecDepth 100000 in
theorem open_i64 (hv : Value.okWide Tryz.prog w .any base 3 v) (h : DataW.Trod enc Tryz.prog w 0 (fun _ => true) true 3 v d p) : ∃ n, v = .int .i64 n ∧ -9223372036854775808 ≤ n ∧ n ≤ 9223372036854775807 := by
  obtain ⟨n, rfl, -, -, hw⟩ := open_int Tryz.underlying3 hv h
  exact ⟨n, rfl, wf_i64 hw⟩
set_option maxRecDepth 100000 in
end
end Go.Proofs.YtmalclclopnlnaaGreat
/-
  The laws of clients: tables are read from their bytes; unlike ones have unlike bytes.
-/
namespace Go.Proofs.YtmalclclopnlnaaGreat
open Go.RowKit Go.Shelf
attribute [local go_sem] Oper.semAt_some

theorem tabV_len {L : List Told} (h : Tab L) : 4 ≤ (tabV L).length ∧ (tabV L).length ≤ 80000000 := by
  have h1 := rowsV_len (L := L) fun y hy => (h.2.2 y hy).1
  have h2 := h.2.1
  unfold tabV
  rw [List.length_append, be_len]
  omega
/-- An element of a list of clients: its cells. -/
theorem acCells {D : Nat → Prop} {w : World} {A : Option Addr} {xs : List AC} (h : Rd D w 6 AC.cs A xs) {k : Nat} (hk : k < xs.length) : ∃ b off kc ky rA rn rcA rB rm rcB, A = some ⟨b, off, none⟩ ∧ xs[k].r.val = .agg #[.int .i64 kc, .bool ky, .slice rA rn rcA, .slice rB rm rcB] ∧
    w.cell? ⟨b, off + k * 6, none⟩ = some (.int .u64 (xs[k].c : Int)) ∧ w.cell? ⟨b, off + k * 6 + 1, none⟩ = some (.int .u64 (xs[k].n : Int)) ∧ w.cell? ⟨b, off + k * 6 + 2, none⟩ = some (.int .i64 kc) ∧ w.cell? ⟨b, off + k * 6 + 3, none⟩ = some (.bool ky) ∧ w.cell? ⟨b, off + k * 6 + 4, none⟩ = some (.slice rA rn rcA) ∧ w.cell? ⟨b, off + k * 6 + 5, none⟩ = some (.slice rB rm rcB) := by
  obtain ⟨b, off, hAe, hbD, h0, h1, h2, h3, h4, h5⟩ := rdAC h hk
  exact ⟨b, off, _, _, _, _, _, _, _, _, hAe, rfl, h0, h1, h2, h3, h4, h5⟩
set_option maxRecDepth 100000 in
set_option maxHeartbeats 8000000 in
theorem bytes25_any (A1 A2 A3 : Option Addr) (c1 c2 c3 : Nat) (xs1 xs2 : List AC) (s : Bs) (t : Int) (y : UInt8) (w : World) (h1 : ActsAt w A1 xs1) (h2 : ActsAt w A2 xs2) (h3 : Rd (fun b => b < w.heap.size) w 1 csU A3 s) (hc3 : s.length ≤ c3) (ht : -9223372036854775808 ≤ t ∧ t ≤ 9223372036854775807) :
    Calls Tryz.prog 6 #[.slice A1 xs1.length c1, .slice A2 xs2.length c2, .slice A3 s.length c3, .int .i64 t, .int .u8 (y.toNat : Int)] w fun e w' => e = .returned (.bool true) ∧ Mod (fun _ => False) w w' := by
  obtain ⟨n1, hn1⟩ : ∃ n, n = xs1.length := ⟨_, rfl⟩
  obtain ⟨n2, hn2⟩ : ∃ n, n = xs2.length := ⟨_, rfl⟩
  obtain ⟨n3, hn3⟩ : ∃ n, n = s.length := ⟨_, rfl⟩
  have hf1 := fun X (hX : Mod (fun _ => False) w X) => few_any A1 c1 25 _ xs1 X (h1.mod hX).rd (h1.mod hX).ok h1.len (by decide)
  have hf2 := fun X (hX : Mod (fun _ => False) w X) => few_any A2 c2 25 _ xs2 X (h2.mod hX).rd (h2.mod hX).ok h2.len (by decide)
  unfold FewEnds at hf1 hf2
  obtain ⟨z1, hz1⟩ : ∃ z, z = fewB 25 xs1 := ⟨_, rfl⟩
  obtain ⟨z2, hz2⟩ : ∃ z, z = fewB 25 xs2 := ⟨_, rfl⟩
  rw [← hn1, ← hz1] at hf1
  rw [← hn2, ← hz2] at hf2
  rw [← hn1, ← hn2, ← hn3]
  have HF1 := Lib.hid (show ∀ X, Mod (fun _ => False) w X → Calls Tryz.prog 7 #[.slice A1 n1 c1, .int .i64 25] X fun e w' => e = .returned (.bool z1) ∧ w' = X from hf1)
  have HF2 := Lib.hid (show ∀ X, Mod (fun _ => False) w X → Calls Tryz.prog 7 #[.slice A2 n2 c2, .int .i64 25] X fun e w' => e = .returned (.bool z2) ∧ w' = X from hf2)
  have HKn := Lib.hid (fun X => known25_any X)
  clear hf1 hf2
  cases z1
  · clear h1 h2 h3 hn1 hn2 hn3 hz1 hz2
    go_enter Tryz.func6, Tryz.ntmps6
    go_wp2_with (first
      | (go_at_call 7
         (first
          | (with_reducible refine (HF1.out _ (by (repeat' (with_reducible (first | exact Mod.refl _ _ | assumption | refine Mod.alloc ?_ _ | refine Mod.drew ?_ | refine Mod.drewN ?_ _ | refine Mod.setCell ?_ (by first | exact Or.inl rfl | (right; simp; done) | (right; simp; omega) | (left; simp; done)) _))))).mono ?_)
          | (with_reducible refine (HF2.out _ (by (repeat' (with_reducible (first | exact Mod.refl _ _ | assumption | refine Mod.alloc ?_ _ | refine Mod.drew ?_ | refine Mod.drewN ?_ _ | refine Mod.setCell ?_ (by first | exact Or.inl rfl | (right; simp; done) | (right; simp; omega) | (left; simp; done)) _))))).mono ?_))
         rintro e w1 ⟨rfl, hw1⟩
         subst w1)
      | (go_at_call 8
         (with_reducible refine (HKn.out _).mono ?_)
         rintro e w1 ⟨rfl, hmk⟩)
      | fail)
    refine bodyPost_ret (v := .bool true) (by simp [results, Tryz.results6, go_sem]) rfl ⟨rfl, hmk⟩
  cases z2
  · clear h1 h2 h3 hn1 hn2 hn3 hz1 hz2
    go_enter Tryz.func6, Tryz.ntmps6
    go_wp2_with (first
      | (go_at_call 7
         (first
          | (with_reducible refine (HF1.out _ (by (repeat' (with_reducible (first | exact Mod.refl _ _ | assumption | refine Mod.alloc ?_ _ | refine Mod.drew ?_ | refine Mod.drewN ?_ _ | refine Mod.setCell ?_ (by first | exact Or.inl rfl | (right; simp; done) | (right; simp; omega) | (left; simp; done)) _))))).mono ?_)
          | (with_reducible refine (HF2.out _ (by (repeat' (with_reducible (first | exact Mod.refl _ _ | assumption | refine Mod.alloc ?_ _ | refine Mod.drew ?_ | refine Mod.drewN ?_ _ | refine Mod.setCell ?_ (by first | exact Or.inl rfl | (right; simp; done) | (right; simp; omega) | (left; simp; done)) _))))).mono ?_))
         rintro e w1 ⟨rfl, hw1⟩
         subst w1)
      | (go_at_call 8
         (with_reducible refine (HKn.out _).mono ?_)
         rintro e w1 ⟨rfl, hmk⟩)
      | fail)
    refine bodyPost_ret (v := .bool true) (by simp [results, Tryz.results6, go_sem]) rfl ⟨rfl, hmk⟩
  obtain ⟨hl1, hs1⟩ := fewB_yes hz1.symm
  obtain ⟨hl2, hs2⟩ := fewB_yes hz2.symm
  by_cases h30 : 3000 < n3
  · have d1 : decide (3000 < n3) = true := decide_eq_true h30
    have d2 : decide ((3000 : Int) < (n3 : Int)) = true := by simp; omega
    clear hl1 hs1 hl2 hs2
    clear h1 h2 h3 hn1 hn2 hn3 hz1 hz2
    go_enter Tryz.func6, Tryz.ntmps6
    go_wp2_with (first
      | (go_at_call 7
         (first
          | (with_reducible refine (HF1.out _ (by (repeat' (with_reducible (first | exact Mod.refl _ _ | assumption | refine Mod.alloc ?_ _ | refine Mod.drew ?_ | refine Mod.drewN ?_ _ | refine Mod.setCell ?_ (by first | exact Or.inl rfl | (right; simp; done) | (right; simp; omega) | (left; simp; done)) _))))).mono ?_)
          | (with_reducible refine (HF2.out _ (by (repeat' (with_reducible (first | exact Mod.refl _ _ | assumption | refine Mod.alloc ?_ _ | refine Mod.drew ?_ | refine Mod.drewN ?_ _ | refine Mod.setCell ?_ (by first | exact Or.inl rfl | (right; simp; done) | (right; simp; omega) | (left; simp; done)) _))))).mono ?_))
         rintro e w1 ⟨rfl, hw1⟩
         subst w1)
      | (go_at_call 8
         (with_reducible refine (HKn.out _).mono ?_)
         rintro e w1 ⟨rfl, hmk⟩)
      | fail)
    refine bodyPost_ret (v := .bool true) (by simp [results, Tryz.results6, go_sem]) rfl ⟨rfl, hmk⟩
  have d1 : decide (3000 < n3) = false := decide_eq_false h30
  have d2 : decide ((3000 : Int) < (n3 : Int)) = false := by simp; omega
  have hbg1 := fun X (hX : Mod (fun _ => False) w X) => begin_any A1 c1 (fun b => b < w.heap.size) xs1 X (h1.rd.mod hX fun b hb => ⟨hb, id⟩) (fun x hx => (h1.ok x hx).mod hX fun b hb => ⟨hb, id⟩) h1.len hs1 fun b hb => Nat.lt_of_lt_of_le hb hX.size
  have hbg2 := fun X (hX : Mod (fun _ => False) w X) => begin_any A2 c2 (fun b => b < w.heap.size) xs2 X (h2.rd.mod hX fun b hb => ⟨hb, id⟩) (fun x hx => (h2.ok x hx).mod hX fun b hb => ⟨hb, id⟩) h2.len hs2 fun b hb => Nat.lt_of_lt_of_le hb hX.size
  obtain ⟨L1, hL1⟩ : ∃ L, L = allT (xs1.map AC.told) := ⟨_, rfl⟩
  obtain ⟨L2, hL2⟩ : ∃ L, L = allT (xs2.map AC.told) := ⟨_, rfl⟩
  rw [← hn1, ← hL1] at hbg1
  rw [← hn2, ← hL2] at hbg2
  have HBg1 := Lib.hid hbg1
  have HBg2 := Lib.hid hbg2
  have H1 := Lib.hid h1
  have H3 := Lib.hid h3
  have HN1 := Lib.hid hn1
  have HN3 := Lib.hid hn3
  have HL25 := Lib.hid hl1
  have M0 := Mod.refl (fun _ => False) w
  have h30' : n3 ≤ 3000 := by omega
  have hc3' : n3 ≤ c3 := by omega
  clear h1 h2 h3 hn1 hn2 hn3 hz1 hz2 hl1 hs1 hl2 hs2 hbg1 hbg2 hL1 hL2 h30 hc3
  go_enter Tryz.func6, Tryz.ntmps6
  go_upto_region 5 with (first
    | (go_at_call 7
       (first
        | (with_reducible refine (HF1.out _ (by (repeat' (with_reducible (first | exact Mod.refl _ _ | assumption | refine Mod.alloc ?_ _ | refine Mod.drew ?_ | refine Mod.drewN ?_ _ | refine Mod.setCell ?_ (by first | exact Or.inl rfl | (right; simp; done) | (right; simp; omega) | (left; simp; done)) _))))).mono ?_)
        | (with_reducible refine (HF2.out _ (by (repeat' (with_reducible (first | exact Mod.refl _ _ | assumption | refine Mod.alloc ?_ _ | refine Mod.drew ?_ | refine Mod.drewN ?_ _ | refine Mod.setCell ?_ (by first | exact Or.inl rfl | (right; simp; done) | (right; simp; omega) | (left; simp; done)) _))))).mono ?_))
       rintro e w1 ⟨rfl, hw1⟩
       subst w1)
    | (go_at_call 8
       (with_reducible refine (HKn.out _).mono ?_)
       rintro e w1 ⟨rfl, hmk⟩)
    | (go_at_call 9
       (with_reducible refine (HBg1.out _ (by (repeat' (with_reducible (first | exact Mod.refl _ _ | assumption | refine Mod.alloc ?_ _ | refine Mod.drew ?_ | refine Mod.drewN ?_ _ | refine Mod.setCell ?_ (by first | exact Or.inl rfl | (right; simp; done) | (right; simp; omega) | (left; simp; done)) _))))).mono ?_)
       rintro e w2 ⟨⟨p1, m1, q1, rfl, hduo1⟩, hm2⟩
       have M2 : Mod (fun _ => False) w w2 := Mod.trans' (by (repeat' (with_reducible (first | exact Mod.refl _ _ | assumption | refine Mod.alloc ?_ _ | refine Mod.drew ?_ | refine Mod.drewN ?_ _ | refine Mod.setCell ?_ (by first | exact Or.inl rfl | (right; simp; done) | (right; simp; omega) | (left; simp; done)) _)))) hm2
       have HDuo1 := Lib.hid hduo1
       clear hduo1 hm2)
    | (go_at_call 9
       (with_reducible refine (HBg2.out _ (by (repeat' (with_reducible (first | exact Mod.refl _ _ | assumption | refine Mod.alloc ?_ _ | refine Mod.drew ?_ | refine Mod.drewN ?_ _ | refine Mod.setCell ?_ (by first | exact Or.inl rfl | (right; simp; done) | (right; simp; omega) | (left; simp; done)) _))))).mono ?_)
       rintro e w3 ⟨⟨p2, m2, q2, rfl, hduo2⟩, hm3⟩
       have M3 : Mod (fun _ => False) w w3 := Mod.trans' (by (repeat' (with_reducible (first | exact Mod.refl _ _ | assumption | refine Mod.alloc ?_ _ | refine Mod.drew ?_ | refine Mod.drewN ?_ _ | refine Mod.setCell ?_ (by first | exact Or.inl rfl | (right; simp; done) | (right; simp; omega) | (left; simp; done)) _)))) hm3
       have HDuo1 := Lib.hid (HDuo1.out.mod hm3 fun b hb => Nat.lt_of_lt_of_le hb M2.size)
       have HDuo2 := Lib.hid hduo2
       clear hduo2 hm3)
    | fail)
  obtain ⟨F1, ms1, v1, ys1, hT1, hR1, -⟩ := HDuo1.out
  obtain ⟨F2, ms2, v2, ys2, hT2, hR2, -⟩ := HDuo2.out
  have hDl : ∀ b, b < w.heap.size → b < w3.heap.size := fun b hb => Nat.lt_of_lt_of_le hb M3.size
  obtain ⟨B1, cy1, hv1, hB1, hfy1, -⟩ := hR1.own.rd AC.cs_len
  obtain ⟨B2, cy2, hv2, hB2, hfy2, -⟩ := hR2.own.rd AC.cs_len
  replace hB1 := hB1.mono (D' := fun b => b < w3.heap.size) fun b hb => (hfy1 b hb).2
  replace hB2 := hB2.mono (D' := fun b => b < w3.heap.size) fun b hb => (hfy2 b hb).2
  have hy1 : ys1.length = L1.length := by rw [← hR1.told, List.length_map]
  have hy2 : ys2.length = L2.length := by rw [← hR2.told, List.length_map]
  obtain ⟨n6, hn6⟩ : ∃ n, n = L1.length := ⟨_, rfl⟩
  obtain ⟨n7, hn7⟩ : ∃ n, n = L2.length := ⟨_, rfl⟩
  have hq1 := hR1.ptr
  have hq2 := hR2.ptr
  rw [hv1, hy1, ← hn6] at hq1
  rw [hv2, hy2, ← hn7] at hq2
  have hn6l : n6 ≤ 16 := by rw [hn6]; exact hT1.tab.2.1
  have hn7l : n7 ≤ 16 := by rw [hn7]; exact hT2.tab.2.1
  obtain ⟨P, hP⟩ : ∃ P, P = tabV L1 := ⟨_, rfl⟩
  obtain ⟨Q, hQ⟩ : ∃ Q, Q = tabV L2 := ⟨_, rfl⟩
  obtain ⟨n4, hn4⟩ : ∃ n, n = P.length := ⟨_, rfl⟩
  obtain ⟨n5, hn5⟩ : ∃ n, n = Q.length := ⟨_, rfl⟩
  have hn4l : 4 ≤ n4 ∧ n4 ≤ 80000000 := by rw [hn4, hP]; exact tabV_len hT1.tab
  have hby1 := fun X (hX : Mod (fun _ => False) w3 X) => tbytes_any F1 p1 m1 _ L1 ms1 X (hT1.mod hX id id fun _ _ => id)
  have hby2 := fun X (hX : Mod (fun _ => False) w3 X) => tbytes_any F2 p2 m2 _ L2 ms2 X (hT2.mod hX id id fun _ _ => id)
  rw [← hP, ← hn4] at hby1
  rw [← hQ, ← hn5] at hby2
  have HBy1 := Lib.hid hby1
  have HBy2 := Lib.hid hby2
  have HT1 := Lib.hid hT1
  have HT2 := Lib.hid hT2
  have HR1 := Lib.hid hR1
  have HR2 := Lib.hid hR2
  have HB1 := Lib.hid hB1
  have HB2 := Lib.hid hB2
  have HQ1 := Lib.hid hq1
  have HQ2 := Lib.hid hq2
  have HY1 := Lib.hid hy1
  have HY2 := Lib.hid hy2
  have HN4 := Lib.hid hn4
  have HN5 := Lib.hid hn5
  have HN6 := Lib.hid hn6
  have HN7 := Lib.hid hn7
  have HP := Lib.hid hP
  have HQ := Lib.hid hQ
  have HDl := Lib.hid hDl
  have HM3 := Lib.hid M3
  have N3 := Mod.refl (fun _ => False) w3
  clear hT1 hR1 hT2 hR2 hDl hv1 hB1 hfy1 hv2 hB2 hfy2 hy1 hy2 hn6 hn7 hq1 hq2 hP hQ hn4 hn5 hby1 hby2 M0 M2 M3
  go_upto_region 8 with (first
    | (go_at_call 18
       (with_reducible refine (HBy1.out _ (by (repeat' (with_reducible (first | exact Mod.refl _ _ | assumption | refine Mod.alloc ?_ _ | refine Mod.drew ?_ | refine Mod.drewN ?_ _ | refine Mod.setCell ?_ (by first | exact Or.inl rfl | (right; simp; done) | (right; simp; omega) | (left; simp; done)) _))))).mono ?_)
       rintro e w4 ⟨A4, c4, rfl, ho4, hm4⟩
       have N4 : Mod (fun _ => False) w3 w4 := Mod.trans' (by (repeat' (with_reducible (first | exact Mod.refl _ _ | assumption | refine Mod.alloc ?_ _ | refine Mod.drew ?_ | refine Mod.drewN ?_ _ | refine Mod.setCell ?_ (by first | exact Or.inl rfl | (right; simp; done) | (right; simp; omega) | (left; simp; done)) _)))) hm4
       have HO4 := Lib.hid ho4
       clear ho4 hm4)
    | (go_at_call 18
       (with_reducible refine (HBy2.out _ (by (repeat' (with_reducible (first | exact Mod.refl _ _ | assumption | refine Mod.alloc ?_ _ | refine Mod.drew ?_ | refine Mod.drewN ?_ _ | refine Mod.setCell ?_ (by first | exact Or.inl rfl | (right; simp; done) | (right; simp; omega) | (left; simp; done)) _))))).mono ?_)
       rintro e w5 ⟨A5, c5, rfl, ho5, hm5⟩
       have N5 : Mod (fun _ => False) w3 w5 := Mod.trans' (by (repeat' (with_reducible (first | exact Mod.refl _ _ | assumption | refine Mod.alloc ?_ _ | refine Mod.drew ?_ | refine Mod.drewN ?_ _ | refine Mod.setCell ?_ (by first | exact Or.inl rfl | (right; simp; done) | (right; simp; omega) | (left; simp; done)) _)))) hm5
       have HO4 := Lib.hid (HO4.out.mod hm5 fun _ _ => id)
       have HO5 := Lib.hid ho5
       clear ho5 hm5)
    | fail)
  obtain ⟨zb, hzb⟩ : ∃ z, z = ((n6 : Int) == (n7 : Int)) := ⟨_, rfl⟩
  have HZb := Lib.hid hzb
  have y0 := cell_regrown (show w5.cell? ⟨q1, 0, none⟩ = some (.slice B1 n6 cy1) by rw [hp_cell (hp_mod HQ1.out N5 id)]; rfl)
  have y1 := cell_regrown (show w5.cell? ⟨q2, 0, none⟩ = some (.slice B2 n7 cy2) by rw [hp_cell (hp_mod HQ2.out N5 id)]; rfl)
  have hzb2 : ((n6 : Int) == (n7 : Int)) = zb := hzb.symm
  clear hzb
  refine wp_region_quiet_below (by kernel_rfl) (by kernel_rfl) ?_
  repeat (go_big_quiet_step ((first | (fail) | fail)))
  refine wpQuiet_nil ?_
  intro W1 hW1
  have HQ := mod_of_regrown hW1
  clear hW1
  have HM5 := Lib.hid (N5.trans' HQ)
  have HO4 := Lib.hid (HO4.out.mod HQ fun _ _ => id)
  have HO5 := Lib.hid (HO5.out.mod HQ fun _ _ => id)
  have hE : ∀ X, Mod (fun _ => False) W1 X → X.cell? ⟨q1, 0, none⟩ = some (.slice B1 n6 cy1) ∧ X.cell? ⟨q2, 0, none⟩ = some (.slice B2 n7 cy2) := fun X hX => ⟨by rw [hp_cell (hp_mod HQ1.out ((N5.trans' HQ).trans' hX) id)]; rfl, by rw [hp_cell (hp_mod HQ2.out ((N5.trans' HQ).trans' hX) id)]; rfl⟩
  have HE := Lib.hid hE
  clear y0 y1 hE HQ N3 N4 N5 hzb2
  go_upto_block 0 with (fail)
  go_cut [19] (fun v wx => v = .bool (decide (L1 = L2)) ∧ Mod (fun _ => False) W1 wx)
  case first =>
    go_wp2
    go_loopw [19, 20] (fun v i wr => ∃ (k : Nat) (z : Bool), k ≤ n6 ∧ i = .int .i64 (k : Int) ∧ v = .bool z ∧ (z = true → n6 = n7 ∧ L1.take k = L2.take k) ∧ (z = false → L1 ≠ L2) ∧ Mod (fun _ => False) W1 wr) (fun _ i _ => n6 - (intOf i).toNat)
    case atStart =>
      refine ⟨0, zb, Nat.zero_le _, rfl, rfl, fun h => ⟨?_, rfl⟩, fun h => ?_, Mod.refl _ _⟩
      · have h1 := HZb.out.symm.trans h
        have h2 : (n6 : Int) = n7 := by simpa using h1
        omega
      · intro e
        have h1 := HZb.out.symm.trans h
        have h2 : ¬ (n6 : Int) = n7 := by simpa using h1
        rw [HN6.out, HN7.out, e] at h2
        exact h2 rfl
    case round =>
      obtain ⟨k, z, hk, rfl, rfl, hzt, hzf, MR⟩ := hrel
      obtain ⟨f0, f1⟩ := HE.out _ MR
      have HZt := Lib.hid hzt
      have HZf := Lib.hid hzf
      have HMR := Lib.hid MR
      clear hzt hzf MR
      by_cases hk6 : k < n6
      · cases z
        · go_wp2
          go_meet
          exact ⟨by rw [decide_eq_false (by first | exact HZf.out trivial | exact HZf.out rfl)], HMR.out⟩
        · have hk7 : k < n7 := by rw [← (HZt.out rfl).1]; exact hk6
          have hky1 : k < ys1.length := by rw [HY1.out, ← HN6.out]; exact hk6
          have hky2 : k < ys2.length := by rw [HY2.out, ← HN7.out]; exact hk7
          obtain ⟨b1, o1, kc1, ky1, rA1, rn1, rcA1, rB1, rm1, rcB1, hA1, hval1, x0, x1, x2, x3, x4, x5⟩ := acCells (HB1.out.mod (HM5.out.trans' HMR.out) fun b hb => ⟨hb, id⟩) hky1
          obtain ⟨b2, o2, kc2, ky2, rA2, rn2, rcA2, rB2, rm2, rcB2, hA2, hval2, u0, u1, u2, u3, u4, u5⟩ := acCells (HB2.out.mod (HM5.out.trans' HMR.out) fun b hb => ⟨hb, id⟩) hky2
          have hok1 := fun X (hX : Mod (fun _ => False) w3 X) => ((HR1.out.ok ys1[k] (List.getElem_mem hky1)).r.mod hX fun b hb => ⟨HDl.out b hb, id⟩).mono fun b hb => Nat.lt_of_lt_of_le (HDl.out b hb) hX.size
          have hok2 := fun X (hX : Mod (fun _ => False) w3 X) => ((HR2.out.ok ys2[k] (List.getElem_mem hky2)).r.mod hX fun b hb => ⟨HDl.out b hb, id⟩).mono fun b hb => Nat.lt_of_lt_of_le (HDl.out b hb) hX.size
          have hsr := fun X (hX : Mod (fun _ => False) wr X) => rsameR_any ys1[k].r ys2[k].r X (hok1 X ((HM5.out.trans' HMR.out).trans' hX)) (hok2 X ((HM5.out.trans' HMR.out).trans' hX))
          rw [hval1, hval2] at hsr
          have hkL1 : k < L1.length := by rw [← HN6.out]; exact hk6
          have hkL2 : k < L2.length := by rw [← HN7.out]; exact hk7
          have ht1 : L1[k] = ys1[k].told := by
            have h1 : (ys1.map AC.told)[k]? = some L1[k] := by rw [HR1.out.told]; exact List.getElem?_eq_getElem hkL1
            rw [List.getElem?_map, List.getElem?_eq_getElem hky1] at h1
            injection h1 with h1
            exact h1.symm
          have ht2 : L2[k] = ys2[k].told := by
            have h1 : (ys2.map AC.told)[k]? = some L2[k] := by rw [HR2.out.told]; exact List.getElem?_eq_getElem hkL2
            rw [List.getElem?_map, List.getElem?_eq_getElem hky2] at h1
            injection h1 with h1
            exact h1.symm
          have hne : L1[k] ≠ L2[k] → L1 ≠ L2 := fun h e => h (by congr 1)
          have heq : L1[k] = L2[k] → n6 = n7 ∧ L1.take (k + 1) = L2.take (k + 1) := fun h => ⟨(HZt.out rfl).1, by rw [List.take_succ_eq_append_getElem hkL1, List.take_succ_eq_append_getElem hkL2, (HZt.out rfl).2, h]⟩
          rw [ht1, ht2] at hne heq
          obtain ⟨xc1, hxc1⟩ : ∃ a, a = ys1[k].c := ⟨_, rfl⟩
          obtain ⟨xn1, hxn1⟩ : ∃ a, a = ys1[k].n := ⟨_, rfl⟩
          obtain ⟨xc2, hxc2⟩ : ∃ a, a = ys2[k].c := ⟨_, rfl⟩
          obtain ⟨xn2, hxn2⟩ : ∃ a, a = ys2[k].n := ⟨_, rfl⟩
          obtain ⟨zr, hzr⟩ : ∃ a, a = decide (ys1[k].r.res = ys2[k].r.res) := ⟨_, rfl⟩
          rw [← hzr] at hsr
          rw [← hxc1] at x0
          rw [← hxn1] at x1
          rw [← hxc2] at u0
          rw [← hxn2] at u1
          have hte : ys1[k].told = ys2[k].told ↔ xc1 = xc2 ∧ xn1 = xn2 ∧ zr = true := by
            rw [hxc1, hxc2, hxn1, hxn2, hzr, decide_eq_true_iff]
            unfold AC.told
            simp only [Told.mk.injEq]
          subst hA1
          subst hA2
          have HSr := Lib.hid hsr
          have HNe := Lib.hid (show ¬ (xc1 = xc2 ∧ xn1 = xn2 ∧ zr = true) → L1 ≠ L2 from fun h => hne fun e => h (hte.1 e))
          have HEq := Lib.hid (show (xc1 = xc2 ∧ xn1 = xn2 ∧ zr = true) → n6 = n7 ∧ L1.take (k + 1) = L2.take (k + 1) from fun h => heq (hte.2 h))
          have y0 := cell_regrown f0
          have y1 := cell_regrown f1
          have a0 := cell_regrown x0
          have a1 := cell_regrown x1
          have a2 := cell_regrown x2
          have a3 := cell_regrown x3
          have a4 := cell_regrown x4
          have a5 := cell_regrown x5
          have e0 := cell_regrown u0
          have e1 := cell_regrown u1
          have e2 := cell_regrown u2
          have e3 := cell_regrown u3
          have e4 := cell_regrown u4
          have e5 := cell_regrown u5
          clear hky1 hky2 x0 x1 x2 x3 x4 x5 u0 u1 u2 u3 u4 u5 hok1 hok2 hsr hkL1 hkL2 ht1 ht2 hne heq hxc1 hxn1 hxc2 hxn2 hzr hte hval1 hval2
          by_cases hc : xc1 = xc2
          · have i1 : ((xc1 : Int) == (xc2 : Int)) = true := by simp; omega
            by_cases hn : xn1 = xn2
            · have i2 : ((xn1 : Int) == (xn2 : Int)) = true := by simp; omega
              go_wp2
              refine wp_region_quiet_below (by kernel_rfl) (by kernel_rfl) ?_
              repeat (go_big_quiet_step ((first | (first | (go_at_call 20; with_reducible exact regM fun X hX => HSr.out X hX) | fail) | fail)))
              refine wpQuiet_nil ?_
              intro W1 hW1
              have HQ := mod_of_regrown hW1
              clear hW1
              have MQ := Lib.hid (HMR.out.trans' HQ)
              clear y0 y1 a0 a1 a2 a3 a4 a5 e0 e1 e2 e3 e4 e5 HQ
              go_wp2
              go_roundw
              case rel => exact ⟨k + 1, zr, by omega, by go_num, rfl, fun h => HEq.out ⟨hc, hn, h⟩, fun h => HNe.out (fun e => (by rw [h] at e; exact absurd e.2.2 (by decide))), MQ.out⟩
              case measure => simp only [intOf]; omega
            · have i2 : ((xn1 : Int) == (xn2 : Int)) = false := by simp; omega
              go_wp2
              refine wp_region_quiet_below (by kernel_rfl) (by kernel_rfl) ?_
              repeat (go_big_quiet_step ((first | (fail) | fail)))
              refine wpQuiet_nil ?_
              intro W1 hW1
              have HQ := mod_of_regrown hW1
              clear hW1
              have MQ := Lib.hid (HMR.out.trans' HQ)
              clear y0 y1 a0 a1 a2 a3 a4 a5 e0 e1 e2 e3 e4 e5 HQ
              go_wp2
              go_roundw
              case rel => exact ⟨k + 1, false, by omega, by go_num, rfl, fun h => (by cases h), fun _ => HNe.out fun e => hn e.2.1, MQ.out⟩
              case measure => simp only [intOf]; omega
          · have i1 : ((xc1 : Int) == (xc2 : Int)) = false := by simp; omega
            go_wp2
            refine wp_region_quiet_below (by kernel_rfl) (by kernel_rfl) ?_
            repeat (go_big_quiet_step ((first | (fail) | fail)))
            refine wpQuiet_nil ?_
            intro W1 hW1
            have HQ := mod_of_regrown hW1
            clear hW1
            have MQ := Lib.hid (HMR.out.trans' HQ)
            clear y0 y1 a0 a1 a2 a3 a4 a5 e0 e1 e2 e3 e4 e5 HQ
            go_wp2
            go_roundw
            case rel => exact ⟨k + 1, false, by omega, by go_num, rfl, fun h => (by cases h), fun _ => HNe.out fun e => hc e.1, MQ.out⟩
            case measure => simp only [intOf]; omega
      · obtain rfl : k = n6 := by omega
        cases z
        · go_wp2
          go_meet
          exact ⟨by rw [decide_eq_false (by first | exact HZf.out trivial | exact HZf.out rfl)], HMR.out⟩
        · have hLL : L1 = L2 := by
            obtain ⟨h1, h2⟩ := HZt.out rfl
            have h3 : L2.take k = L2 := by rw [h1, HN7.out, List.take_length]
            have h4 : L1.take k = L1 := by rw [HN6.out, List.take_length]
            rw [h3, h4] at h2
            exact h2
          have HLL := Lib.hid hLL
          clear hLL
          go_wp2
          go_meet
          exact ⟨by rw [decide_eq_true HLL.out], HMR.out⟩
  case rest =>
    obtain ⟨rfl, hmc⟩ := hcut
    obtain ⟨wA, rfl⟩ : ∃ x, x = wc := ⟨_, rfl⟩
    have HMA := Lib.hid (HM5.out.trans' hmc)
    obtain ⟨zz, hzz⟩ : ∃ z, z = decide (L1 = L2) := ⟨_, rfl⟩
    rw [← hzz]
    have hsame := fun X (hX : Mod (fun _ => False) wA X) => ttsame_any F1 F2 p1 p2 m1 m2 _ _ L1 L2 ms1 ms2 X (HT1.out.mod (HMA.out.trans' hX) id id fun _ _ => id) (HT2.out.mod (HMA.out.trans' hX) id id fun _ _ => id)
    rw [← hzz] at hsame
    have hpq : (P == Q) = zz := by
      rw [hzz, HP.out, HQ.out]
      by_cases h : L1 = L2
      · simp [h]
      · have : tabV L1 ≠ tabV L2 := fun e => h (tabV_inj HT1.out.tab HT2.out.tab e)
        simp [h, this]
    have hzb : (zz != zz) = false := by simp
    have HRP := Lib.hid (fun X (hX : Mod (fun _ => False) wA X) => ((rd_of5 (HO4.out.mod (hmc.trans' hX) fun _ _ => id) csU_len).mono (D' := fun b => b < X.heap.size) fun b hb => ((HO4.out.mod (hmc.trans' hX) fun _ _ => id).fresh b hb).2 : Rd (fun b => b < X.heap.size) X 1 csU A4 P))
    have HRQ := Lib.hid (fun X (hX : Mod (fun _ => False) wA X) => ((rd_of5 (HO5.out.mod (hmc.trans' hX) fun _ _ => id) csU_len).mono (D' := fun b => b < X.heap.size) fun b hb => ((HO5.out.mod (hmc.trans' hX) fun _ _ => id).fresh b hb).2 : Rd (fun b => b < X.heap.size) X 1 csU A5 Q))
    have hqp := fun X hX => run_str_of (HRP.out X hX) c4
    have hqq := fun X hX => run_str_of (HRQ.out X hX) c5
    rw [← HN4.out] at hqp
    rw [← HN5.out] at hqq
    have htp : tabOf P = some L1 := by rw [HP.out]; exact tabOf_val HT1.out.tab
    have hcap4 : n4 ≤ c4 := (HO4.out.cap rfl).1
    have hof := fun X (hX : Mod (fun _ => False) wA X) => tof_any _ A4 c4 P X (HRP.out X hX) (by rw [← HN4.out]; omega) (by rw [← HN4.out]; exact hcap4)
    rw [← HN4.out, htp] at hof
    have HSame := Lib.hid hsame
    have HQP := Lib.hid hqp
    have HQQ := Lib.hid hqq
    have HOf := Lib.hid hof
    have NA := Mod.refl (fun _ => False) wA
    have d5 : decide ((0 : Int) < (n4 : Int)) = true := by simp; omega
    have d6 : decide (0 < n4) = true := by simp; omega
    have h04 : 0 < n4 := by omega
    clear hmc hzz hsame hqp hqq hof htp HO4 HO5 HE HZb
    go_upto_if 179 with (first
      | (go_at_call 13
         (with_reducible refine (HSame.out _ (by (repeat' (with_reducible (first | exact Mod.refl _ _ | assumption | refine Mod.alloc ?_ _ | refine Mod.drew ?_ | refine Mod.drewN ?_ _ | refine Mod.setCell ?_ (by first | exact Or.inl rfl | (right; simp; done) | (right; simp; omega) | (left; simp; done)) _))))).mono ?_)
         rintro e w6 ⟨rfl, hm6⟩
         have N6 : Mod (fun _ => False) wA w6 := Mod.trans' (by (repeat' (with_reducible (first | exact Mod.refl _ _ | assumption | refine Mod.alloc ?_ _ | refine Mod.drew ?_ | refine Mod.drewN ?_ _ | refine Mod.setCell ?_ (by first | exact Or.inl rfl | (right; simp; done) | (right; simp; omega) | (left; simp; done)) _)))) hm6
         have qs0 := HQP.out w6 N6
         have qs1 := HQQ.out w6 N6
         clear hm6)
      | (go_at_call 21
         (with_reducible refine (HOf.out _ (by (repeat' (with_reducible (first | exact Mod.refl _ _ | assumption | refine Mod.alloc ?_ _ | refine Mod.drew ?_ | refine Mod.drewN ?_ _ | refine Mod.setCell ?_ (by first | exact Or.inl rfl | (right; simp; done) | (right; simp; omega) | (left; simp; done)) _))))).mono ?_)
         rintro e w7 ⟨⟨pz, mz, msz, Fz, rfl, hTz, -, -, -⟩, hm7⟩
         have N7 : Mod (fun _ => False) wA w7 := Mod.trans' (by (repeat' (with_reducible (first | exact Mod.refl _ _ | assumption | refine Mod.alloc ?_ _ | refine Mod.drew ?_ | refine Mod.drewN ?_ _ | refine Mod.setCell ?_ (by first | exact Or.inl rfl | (right; simp; done) | (right; simp; omega) | (left; simp; done)) _)))) hm7
         have hsz := fun X (hX : Mod (fun _ => False) w7 X) => ttsame_any Fz F1 pz p1 mz m1 _ _ L1 L1 msz ms1 X (hTz.mod hX id id fun _ _ => id) (HT1.out.mod ((HMA.out.trans' N7).trans' hX) id id fun _ _ => id)
         rw [decide_eq_true (rfl : L1 = L1)] at hsz
         have HSz := Lib.hid hsz
         have hlz := fun X (hX : Mod (fun _ => False) w7 X) => same_any Fz pz mz _ q1 _ L1 msz v1 ys1 A1 c1 xs1 X (hTz.mod hX id id fun _ _ => id) (HR1.out.mod ((HMA.out.trans' N7).trans' hX) id (fun _ _ => id) fun b hb => ⟨HDl.out b hb, id⟩) (H1.out.mod ((HM3.out.trans' (HMA.out.trans' N7)).trans' hX)) (by rw [← HN1.out]; have := HL25.out; rw [← HN1.out] at this; omega) fun b hb => Nat.lt_of_lt_of_le (HDl.out b hb) ((HMA.out.trans' N7).trans' hX).size
         rw [← HN1.out] at hlz
         have HLz := Lib.hid hlz
         have R7 := Mod.refl (fun _ => False) w7
         clear hm7 hTz hsz hlz)
      | (go_at_call 13
         (with_reducible refine (HSz.out _ (by (repeat' (with_reducible (first | exact Mod.refl _ _ | assumption | refine Mod.alloc ?_ _ | refine Mod.drew ?_ | refine Mod.drewN ?_ _ | refine Mod.setCell ?_ (by first | exact Or.inl rfl | (right; simp; done) | (right; simp; omega) | (left; simp; done)) _))))).mono ?_)
         rintro e w8 ⟨rfl, hm8⟩
         have R8 : Mod (fun _ => False) w7 w8 := Mod.trans' (by (repeat' (with_reducible (first | exact Mod.refl _ _ | assumption | refine Mod.alloc ?_ _ | refine Mod.drew ?_ | refine Mod.drewN ?_ _ | refine Mod.setCell ?_ (by first | exact Or.inl rfl | (right; simp; done) | (right; simp; omega) | (left; simp; done)) _)))) hm8
         clear hm8)
      | (go_at_call 14
         (with_reducible refine (HLz.out _ (by (repeat' (with_reducible (first | exact Mod.refl _ _ | assumption | refine Mod.alloc ?_ _ | refine Mod.drew ?_ | refine Mod.drewN ?_ _ | refine Mod.setCell ?_ (by first | exact Or.inl rfl | (right; simp; done) | (right; simp; omega) | (left; simp; done)) _))))).mono ?_)
         rintro e w9 ⟨rfl, hm9⟩
         have R9 : Mod (fun _ => False) w7 w9 := Mod.trans' (by (repeat' (with_reducible (first | exact Mod.refl _ _ | assumption | refine Mod.alloc ?_ _ | refine Mod.drew ?_ | refine Mod.drewN ?_ _ | refine Mod.setCell ?_ (by first | exact Or.inl rfl | (right; simp; done) | (right; simp; omega) | (left; simp; done)) _)))) hm9
         clear hm9)
      | fail)
    have HM9 := Lib.hid (N7.trans' R9)
    clear NA N6 N7 R7 R8 R9 qs0 qs1
    go_cut [2] (fun v wx => ∃ A c s', v = .slice A (s' : Bs).length c ∧ Rd (fun b => b < wx.heap.size) wx 1 csU A s' ∧ s'.length ≤ c ∧ s'.length ≤ 1099511627776 ∧ Mod (fun _ => False) w9 wx)
    case first =>
      by_cases ht0 : 0 ≤ t
      · have d7 : decide (0 ≤ t) = true := decide_eq_true ht0
        obtain ⟨tn, rfl⟩ := Int.eq_ofNat_of_zero_le ht0
        obtain ⟨j, hj⟩ : ∃ j, j = tn % n4 := ⟨_, rfl⟩
        have hjl : j < n4 := by rw [hj]; exact Nat.mod_lt _ h04
        have NB := Mod.refl (fun _ => False) w9
        go_upto_region 20 with (first
          | (at_builtin
             refine wpList_app (base := w9.heap.size) (xs := []) (ys := P) rfl (.const (.slice none 0 0)) (.tmp 180) rfl u8s_t csU_len csU_one rfl (OwnS.nil _ _ _ _ _) c4 rfl HN4.out (HRP.out w9 HM9.out) ?_ ?_ (Nat.le_refl _) ?_
             · rw [← HN4.out]; unfold maxLen; simp; omega
             · rw [← HN4.out]; simp; omega
             intro va wa ho hm _
             have NC : Mod (fun _ => False) w9 wa := hm.mono fun b _ h => by cases h
             rw [List.nil_append] at ho
             obtain ⟨g, ca, hva, hg, hgl, hgf⟩ := ho.at_ (by rw [← HN4.out]; exact h04)
             rw [← HN4.out] at hva
             subst hva
             have HOa := Lib.hid ho
             have k0 := ho.cell csU_len (c := ca) (by rw [← HN4.out]) (k := j) (by rw [← HN4.out]; exact hjl) (j := 0) rfl
             clear ho hm)
          | fail)
        obtain ⟨yj, hyj⟩ : ∃ a, a = P[j]'(by rw [← HN4.out]; exact hjl) := ⟨_, rfl⟩
        rw [← hyj] at k0
        have k0 : wa.cell? ⟨g, tn % n4, none⟩ = some (.int .u8 (yj.toNat : Int)) := by rw [← hj]; simpa using k0
        have f0 : wa.frozen? ⟨g, tn % n4, none⟩ = false := hgf _
        have hxor := u8_xor_nat yj.toNat y.toNat yj.toNat_lt y.toNat_lt
        have hjl2 : tn % n4 < n4 := Nat.mod_lt _ h04
        have hjl3 : (tn : Int) % (n4 : Int) < (n4 : Int) := by omega
        have hn40 : ¬ n4 = 0 := by omega
        have HJ := Lib.hid hj
        have HYj := Lib.hid hyj
        clear hj hyj
        go_wp2
        go_region
        go_wp2
        go_meet
        have hy2 : (((yj.toNat ^^^ y.toNat : Nat)) : Int) = (((yj ^^^ y).toNat : Nat) : Int) := by rw [UInt8.toNat_xor]
        have hod := HOa.out.mod (C := fun _ => False) (Mod.refl _ wa).drew fun _ _ => id
        have hset := hod.set1 csU_len (k := j) (j := 0) HN4.out hjl (by decide) (u := .int .u8 ((yj.toNat ^^^ y.toNat : Nat) : Int)) (y := yj ^^^ y) (by rw [hy2]; rfl)
        rw [show j * 1 + 0 = tn % n4 by rw [HJ.out]; omega] at hset
        have hsl : (P.set j (yj ^^^ y)).length = n4 := by rw [List.length_set, ← HN4.out]
        have hms : Mod (fun _ => False) w9 (World.setCell wa.drew ⟨g, tn % n4, none⟩ (.int .u8 ((yj.toNat ^^^ y.toNat : Nat) : Int))) := NC.drew.setCell (p := ⟨g, tn % n4, none⟩) (.inr hg) _
        refine ⟨some ⟨g, 0, none⟩, ca, P.set j (yj ^^^ y), by rw [hsl], ?_, by rw [hsl]; exact (HOa.out.cap rfl).1, by rw [hsl]; omega, ?_⟩
        · exact (rd_of5 hset csU_len).mono fun b hb => (hset.fresh b hb).2
        · exact hms
      · have d7 : decide (0 ≤ t) = false := decide_eq_false ht0
        go_wp2
        go_meet
        exact ⟨A3, c3, s, by rw [HN3.out], (H3.out.mod (HM3.out.trans' (HMA.out.trans' HM9.out)) fun b hb => ⟨hb, id⟩).mono fun b hb => Nat.lt_of_lt_of_le hb (HM3.out.trans' (HMA.out.trans' HM9.out)).size, by rw [← HN3.out]; exact hc3', by rw [← HN3.out]; omega, Mod.refl _ _⟩
    case rest =>
      obtain ⟨A, c, s', rfl, hrd, hcap, hlen, hmc⟩ := hcut
      obtain ⟨wD, rfl⟩ : ∃ x, x = wc := ⟨_, rfl⟩
      have HMD := Lib.hid (((HM3.out.trans' HMA.out).trans' HM9.out).trans' hmc)
      have hof := tof_any _ A c s' wD hrd hlen hcap
      obtain ⟨n9, hn9⟩ : ∃ n, n = s'.length := ⟨_, rfl⟩
      obtain ⟨O, hO⟩ : ∃ O, O = tabOf s' := ⟨_, rfl⟩
      rw [← hn9, ← hO] at hof
      rw [← hn9]
      have HRd := Lib.hid (fun X (hX : Mod (fun _ => False) wD X) => ((hrd.mod hX fun b hb => ⟨hb, id⟩).mono (D' := fun b => b < X.heap.size) fun b hb => Nat.lt_of_lt_of_le hb hX.size : Rd (fun b => b < X.heap.size) X 1 csU A s'))
      have HOf := Lib.hid hof
      have HN9 := Lib.hid hn9
      have HO := Lib.hid hO
      clear hmc hrd hcap hlen hof hn9 hO
      cases O with
      | none =>
        go_wp2_with (first
          | (go_at_call 21
             (with_reducible refine (HOf.out).mono ?_)
             rintro e w10 ⟨he, hm10⟩
             have he : e = .returned (.tuple #[.pointer none, .int .i64 4]) := he
             subst he)
          | (go_at_call 8
             (with_reducible refine (HKn.out _).mono ?_)
             rintro e w11 ⟨rfl, hmk⟩)
          | fail)
        refine bodyPost_ret (v := .bool true) (by simp [results, Tryz.results6, go_sem]) rfl ⟨rfl, (HMD.out.trans' hm10).trans' hmk⟩
      | some L3 =>
        have hs3 := tabOf_some HO.out.symm
        have HS3 := Lib.hid hs3
        clear hs3
        go_upto_region 24 with (first
          | (go_at_call 21
             (with_reducible refine (HOf.out).mono ?_)
             rintro e w10 ⟨⟨p3, m3, ms3, F3, rfl, hT3, -, -, -⟩, hm10⟩
             have hby3 := fun X (hX : Mod (fun _ => False) w10 X) => tbytes_any F3 p3 m3 _ L3 ms3 X (hT3.mod hX id id fun _ _ => id)
             rw [HS3.out, ← HN9.out] at hby3
             have HBy3 := Lib.hid hby3
             have HM10 := Lib.hid hm10
             clear hT3 hby3 hm10)
          | fail)
        have m0 : Mod (fun _ => False) w10 w10.drew := (Mod.refl _ _).drew
        have q0 := run_str_of (HRd.out _ (HM10.out.trans' m0)) c
        rw [← HN9.out] at q0
        have hss : (s' == s') = true := by simp
        have HM0 := Lib.hid m0
        clear m0
        go_region_law (first
          | (go_simp; go_at_call 18
             (with_reducible refine (HBy3.out _ HM0.out).mono ?_)
             rintro e w11 ⟨A11, c11, rfl, hown, hm11⟩
             have M11 := HM0.out.trans' hm11
             have q1 := run_str_of (HRd.out _ (HM10.out.trans' M11)) c
             have q2 := run_str_of (rd_of5 hown csU_len) c11
             rw [← HN9.out] at q1 q2
             clear hown hm11)
          | (go_simp; go_at_call 8
             (with_reducible refine (HKn.out _).mono ?_)
             rintro e w12 ⟨rfl, hm12⟩
             have M12 := M11.trans' hm12
             clear hm12)
          | fail)
        all_goals
          go_wp2
          refine bodyPost_ret (v := .bool true) (by simp [results, Tryz.results6, go_sem]) rfl ⟨rfl, (HMD.out.trans' HM10.out).trans' M12⟩
end Go.Proofs.YtmalclclopnlnaaGreat
