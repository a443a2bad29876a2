/-
  Texts of this claim, one behind the other: LawT, LawU, LawV, CliJ.
-/
import Derived.Test.YtmalclclopnlnaaGreatPk17
import Derived.Test.YtmalclclopnlnaaGreatPk32
import Derived.Test.YtmalclclopnlnaaGreatPk35
import Derived.Deep.RegionHeld3
/-
  The laws of clients: few acts, of small results.
-/
namespace Go.Proofs.YtmalclclopnlnaaGreat
open Go.RowKit Go.Shelf
attribute [local go_sem] Oper.semAt_some

/-- An act's result is small. -/
def SmallA (x : AC) : Prop := x.r.es.length ≤ 10 ∧ x.r.cur.length ≤ 4100 ∧ ∀ e ∈ x.r.es, e.nm.length ≤ 1100 ∧ e.ats.length ≤ 60
theorem SmallA.fit {x : AC} (h : SmallA x) : x.r.Fit := ⟨by have := h.1; omega, fun e he => by have := (h.2.2 e he).2; omega⟩
noncomputable def fewB (most : Nat) (xs : List AC) : Bool := @decide (xs.length ≤ most ∧ ∀ x ∈ xs, SmallA x) (Classical.propDecidable _)
theorem fewB_yes {most : Nat} {xs : List AC} (h : fewB most xs = true) : xs.length ≤ most ∧ ∀ x ∈ xs, SmallA x := by
  unfold fewB at h
  exact @of_decide_eq_true _ (Classical.propDecidable _) h
theorem fewB_no {most : Nat} {xs : List AC} {x : AC} (hx : x ∈ xs) (h : ¬ SmallA x) : fewB most xs = false := by
  cases e : fewB most xs with
  | false => rfl
  | true => exact absurd ((fewB_yes e).2 x hx) h
theorem fewB_all {most : Nat} {xs : List AC} (h : ∀ x ∈ xs, SmallA x) : fewB most xs = decide (xs.length ≤ most) := by
  cases e : fewB most xs with
  | true => exact (decide_eq_true (fewB_yes e).1).symm
  | false =>
    refine (decide_eq_false fun hl => ?_).symm
    unfold fewB at e
    exact @of_decide_eq_false _ (Classical.propDecidable _) e ⟨hl, h⟩
def FewEnds (most : Nat) (xs : List AC) (w : World) (e : Ending) (w' : World) : Prop := e = .returned (.bool (fewB most xs)) ∧ w' = w
set_option maxRecDepth 100000 in
set_option maxHeartbeats 2000000 in
theorem few_any (A : Option Addr) (cp most : Nat) (D : Nat → Prop) (xs : List AC) (w : World) (hA : Rd D w 6 AC.cs A xs) (hok : ∀ x ∈ xs, x.Ok D w) (hl : xs.length ≤ maxLen) (hm : most ≤ 1000) :
    Calls Tryz.prog 7 #[.slice A xs.length cp, .int .i64 (most : Int)] w (FewEnds most xs w) := by
  unfold maxLen at hl
  obtain ⟨n, hn⟩ : ∃ n, n = xs.length := ⟨_, rfl⟩
  rw [← hn] at hl ⊢
  have HN := Lib.hid hn
  have HA := Lib.hid hA
  have HOk := Lib.hid hok
  clear hn hA hok
  go_enter Tryz.func7, Tryz.ntmps7
  go_wp2
  go_loopw [5, 6] (fun i j wr => ∃ k : Nat, k ≤ n ∧ i = .int .i64 (k : Int) ∧ (∀ t, ∀ h : t < xs.length, t < k → SmallA xs[t]) ∧ wr = w) (fun i _ _ => n - (intOf i).toNat)
  case atStart => exact ⟨0, Nat.zero_le _, rfl, fun j h h0 => by omega, rfl⟩
  case round =>
    obtain ⟨k, hk, rfl, hall, rfl⟩ := hrel
    have HAll := Lib.hid hall
    clear hall
    by_cases hkn : k < n
    · have hkx : k < xs.length := by rw [← HN.out]; exact hkn
      obtain ⟨b, off, rfl, -, -, -, -, -, p4, p5⟩ := rdAC HA.out hkx
      obtain ⟨x, hx⟩ : ∃ x, x = xs[k] := ⟨_, rfl⟩
      rw [← hx] at p4 p5
      have HXo := Lib.hid (HOk.out x (by rw [hx]; exact List.getElem_mem _))
      obtain ⟨en, hen⟩ : ∃ a, a = x.r.es.length := ⟨_, rfl⟩
      obtain ⟨em, hem⟩ : ∃ a, a = x.r.cur.length := ⟨_, rfl⟩
      rw [← hen] at p4
      rw [← hem] at p5
      have HX := Lib.hid hx
      have HEn := Lib.hid hen
      have HEm := Lib.hid hem
      clear hx hen hem
      by_cases h10 : 10 < en
      · have i1 : decide (10 < en) = true := decide_eq_true h10
        go_wp2
        go_ret
        exact ⟨congrArg (fun z => Ending.returned (.bool z)) (fewB_no (x := x) (by rw [HX.out]; exact List.getElem_mem _) (fun h => by have := h.1; rw [← HEn.out] at this; omega)).symm, rfl⟩
      have i1 : decide (10 < en) = false := decide_eq_false h10
      by_cases h41 : 4100 < em
      · have i2 : decide (4100 < em) = true := decide_eq_true h41
        go_wp2
        go_ret
        exact ⟨congrArg (fun z => Ending.returned (.bool z)) (fewB_no (x := x) (by rw [HX.out]; exact List.getElem_mem _) (fun h => by have := h.2.1; rw [← HEm.out] at this; omega)).symm, rfl⟩
      have i2 : decide (4100 < em) = false := decide_eq_false h41
      obtain ⟨eA, heA⟩ : ∃ a, a = x.r.A := ⟨_, rfl⟩
      rw [← heA] at p4
      have HEA := Lib.hid heA
      clear heA
      go_wp2
      go_loopw [6] (fun j wr' => ∃ q : Nat, q ≤ en ∧ j = .int .i64 (q : Int) ∧ (∀ t, ∀ h : t < x.r.es.length, t < q → x.r.es[t].nm.length ≤ 1100 ∧ x.r.es[t].ats.length ≤ 60) ∧ wr' = wr) (fun j _ => en - (intOf j).toNat)
      case atStart => exact ⟨0, Nat.zero_le _, rfl, fun j h h0 => by omega, rfl⟩
      case round =>
        obtain ⟨q, hq, rfl, hall2, rfl⟩ := hrel
        have HAll2 := Lib.hid hall2
        clear hall2
        by_cases hqn : q < en
        · have hqx : q < x.r.es.length := by rw [← HEn.out]; exact hqn
          have hrd := HXo.out.r.rdE
          rw [← HEA.out] at hrd
          obtain ⟨b1, o1, rfl, -, q0, q1⟩ := rdEn hrd hqx
          obtain ⟨e, he⟩ : ∃ e, e = x.r.es[q] := ⟨_, rfl⟩
          rw [← he] at q0 q1
          obtain ⟨an, han⟩ : ∃ a, a = e.ats.length := ⟨_, rfl⟩
          obtain ⟨nn, hnn⟩ : ∃ a, a = e.nm.length := ⟨_, rfl⟩
          rw [← han] at q1
          have HAn := Lib.hid han
          have HNn := Lib.hid hnn
          have HE := Lib.hid he
          clear han he
          by_cases h11 : 1100 < nn
          · have j1 : decide (1100 < nn) = true := decide_eq_true h11
            rw [hnn] at j1
            have j3 : (1100 : Int) < ((List.length e.nm : Nat) : Int) := by omega
            clear h11
            go_wp2
            go_ret
            exact ⟨congrArg (fun z => Ending.returned (.bool z)) (fewB_no (x := x) (by rw [HX.out]; exact List.getElem_mem _) (fun h => by have := (h.2.2 e (by rw [HE.out]; exact List.getElem_mem _)).1; omega)).symm, rfl⟩
          have j1 : decide (1100 < nn) = false := decide_eq_false h11
          rw [hnn] at j1
          have j3 : ¬ (1100 : Int) < ((List.length e.nm : Nat) : Int) := by omega
          have j4 : decide ((1100 : Int) < ((List.length e.nm : Nat) : Int)) = false := decide_eq_false j3
          by_cases h60 : 60 < an
          · have j2 : decide (60 < an) = true := decide_eq_true h60
            go_wp2
            go_ret
            exact ⟨congrArg (fun z => Ending.returned (.bool z)) (fewB_no (x := x) (by rw [HX.out]; exact List.getElem_mem _) (fun h => by have := (h.2.2 e (by rw [HE.out]; exact List.getElem_mem _)).2; rw [← HAn.out] at this; omega)).symm, rfl⟩
          have j2 : decide (60 < an) = false := decide_eq_false h60
          go_wp2
          go_roundw
          case rel =>
            refine ⟨q + 1, by omega, by go_num, fun t h ht => ?_, trivial⟩
            rcases Nat.lt_or_ge t q with h1 | h1
            · exact HAll2.out t h h1
            · obtain rfl : t = q := by omega
              rw [← HE.out, ← HAn.out, ← HNn.out]
              exact ⟨by omega, by omega⟩
          case measure => simp only [intOf]; omega
        · obtain rfl : q = en := by omega
          have HS := Lib.hid (show SmallA x from ⟨by rw [← HEn.out]; omega, by rw [← HEm.out]; omega, fun e he => by
            obtain ⟨j, hj, rfl⟩ := List.getElem_of_mem he
            exact HAll2.out j hj (by rw [HEn.out]; exact hj)⟩)
          go_wp2
          go_roundw
          case rel =>
            refine ⟨k + 1, by omega, by go_num, fun t h ht => ?_, trivial⟩
            rcases Nat.lt_or_ge t k with h1 | h1
            · exact HAll.out t h h1
            · obtain rfl : t = k := by omega
              rw [← HX.out]; exact HS.out
          case measure => simp only [intOf]; omega
    · obtain rfl : k = n := by omega
      have hS : ∀ x ∈ xs, SmallA x := fun x hx => by
        obtain ⟨j, hj, rfl⟩ := List.getElem_of_mem hx
        exact HAll.out j hj (by rw [HN.out]; exact hj)
      obtain ⟨z, hz⟩ : ∃ z, z = decide (k ≤ most) := ⟨_, rfl⟩
      have hz2 : decide ((k : Int) ≤ (most : Int)) = z := by rw [hz]; exact decide_eq_decide.2 (by omega)
      have hz3 : decide (k ≤ most) = z := hz.symm
      have HZ := Lib.hid hz
      have HS := Lib.hid hS
      clear hz hS
      go_wp2
      go_ret
      exact ⟨congrArg (fun z => Ending.returned (.bool z)) (show z = fewB most xs by rw [fewB_all HS.out, ← HN.out, ← HZ.out]), rfl⟩
end Go.Proofs.YtmalclclopnlnaaGreat
/-
  The laws of clients: the chapter's rows.
-/
namespace Go.Proofs.YtmalclclopnlnaaGreat
open Go.RowKit Go.Shelf
attribute [local go_sem] Oper.semAt_some

def res8 : Res := ⟨8, false, [], []⟩
theorem may8 : mayR res8 = true := by
  rw [mayR_code (by decide)]
  decide
def know8 : Told := ⟨7, 3, res8⟩
theorem know_act : wantE know8 [] = 0 ∧ actT [] know8 = [know8] := by
  have h : wantE know8 [] = 0 := by unfold wantE; rw [if_pos (show mayR know8.r = true from may8)]; rfl
  refine ⟨h, ?_⟩
  unfold actT
  rw [if_pos h]
  rfl
set_option maxRecDepth 100000 in
set_option maxHeartbeats 2000000 in
theorem known25_any (w : World) : Calls Tryz.prog 8 #[] w fun e w' => e = .returned (.bool true) ∧ Mod (fun _ => False) w w' := by
  have HNew := Lib.hid (tnew_any w)
  go_enter Tryz.func8, Tryz.ntmps8
  go_upto_region 2 with (first
    | (go_at_call 19
       (with_reducible refine HNew.out.mono ?_)
       rintro e w1 ⟨p, m, rfl, hT, hp, hmm, hm1⟩
       have hput := tput_any (fun _ => False) p m 47 [] [] 7 3 (RC.nil 8) w1 hT (RC.nil_ok (by omega)) (nil_fit 8) (by decide) (by decide)
       have hput : Calls Tryz.prog 12 #[.pointer (some ⟨p, 0, none⟩), .int .u64 7, .int .u64 3, .agg #[.int .i64 8, .bool false, .slice none 0 0, .slice none 0 0]] w1 (PutEnds (fun _ => False) p m 47 [] know8 w1) := hput
       have HPut := Lib.hid hput
       have HM1 := Lib.hid hm1
       have HMm := Lib.hid hmm
       clear hT hp hmm hm1 hput)
    | fail)
  go_upto_region 3 with (first
    | (go_at_call 12
       (with_reducible refine HPut.out.mono ?_)
       rintro e w2 ⟨he, ⟨ms, F', hT2, hF'⟩, hm2⟩
       rw [know_act.1] at he
       rw [know_act.2] at hT2
       subst he
       have HM2 := Lib.hid (HM1.out.trans hm2 fun b hb => .inr (by rw [hb]; exact HMm.out))
       have hAsk := fun n X (hX : Mod (fun _ => False) w2 X) => task_any F' p m 47 [know8] ms 7 n X (hT2.mod hX id id fun _ _ => id)
       have HA3 := Lib.hid (show ∀ X, Mod (fun _ => False) w2 X → Calls Tryz.prog 15 #[.pointer (some ⟨p, 0, none⟩), .int .u64 7, .int .u64 3] X (AskEnds (2, res8) X) from hAsk 3)
       have HA2 := Lib.hid (show ∀ X, Mod (fun _ => False) w2 X → Calls Tryz.prog 15 #[.pointer (some ⟨p, 0, none⟩), .int .u64 7, .int .u64 2] X (AskEnds (3, res0) X) from hAsk 2)
       have HA4 := Lib.hid (show ∀ X, Mod (fun _ => False) w2 X → Calls Tryz.prog 15 #[.pointer (some ⟨p, 0, none⟩), .int .u64 7, .int .u64 4] X (AskEnds (1, res0) X) from hAsk 4)
       clear hAsk hT2 hF' hm2)
    | fail)
  go_upto_region 4 with (first
    | (go_at_call 15
       (with_reducible refine (HA3.out _ (Mod.refl _ _)).mono ?_)
       rintro e w3 ⟨⟨r, he, hr, hok, -⟩, hm3⟩
       obtain ⟨kc, ky, rA, rn, rcA, rB, rm, rcB, hval, hcs⟩ := r.open
       rw [hval] at he
       have hkc : kc = 8 := by
         have h1 : r.res.code = 8 := by rw [hr]; rfl
         have h2 : r.cs.head? = some (.int .i64 r.res.code) := rfl
         rw [hcs, h1] at h2
         injection h2 with h2
         injection h2
       subst hkc
       have he : e = .returned (.tuple #[.int .i64 2, .agg #[.int .i64 8, .bool ky, .slice rA rn rcA, .slice rB rm rcB]]) := he
       subst he
       have HM3 := Lib.hid hm3
       clear hr hok hval hcs hm3)
    | fail)
  obtain ⟨W3, hW3⟩ : ∃ W3, W3 = w3.alloc (.cells #[.int .i64 8, .bool ky, .slice rA rn rcA, .slice rB rm rcB] 37) := ⟨_, rfl⟩
  have hb3 : W3.heap[w3.heap.size]? = some (.cells #[.int .i64 8, .bool ky, .slice rA rn rcA, .slice rB rm rcB] 37 (0, 0)) := by rw [hW3]; exact hp_new _ _
  have hm3 : Mod (fun _ => False) w2 W3 := by rw [hW3]; exact HM3.out.alloc _
  rw [← hW3]
  have HK := Lib.hid (fun X (hX : Mod (fun _ => False) W3 X) => (show X.cell? ⟨w3.heap.size, 0, none⟩ = some (.int .i64 8) by rw [hp_cell (hp_mod hb3 hX id)]; rfl))
  have HMW := Lib.hid hm3
  have HKl := Lib.hid (hp_lt hb3)
  have M3 := Mod.refl (fun _ => False) W3
  clear hb3 hm3 hW3
  go_wp2_with (first
    | (go_at_call 15
       (with_reducible refine (HA2.out _ (HMW.out.trans' (by (repeat' (with_reducible (first | exact Mod.refl _ _ | assumption | refine Mod.alloc ?_ _ | refine Mod.drew ?_ | refine Mod.drewN ?_ _)))))).mono ?_)
       rintro e w4 ⟨⟨r4, he4, -, -, -⟩, hm4⟩
       obtain ⟨kc4, ky4, rA4, rn4, rcA4, rB4, rm4, rcB4, hval4, -⟩ := r4.open
       rw [hval4] at he4
       have he4 : e = .returned (.tuple #[.int .i64 3, .agg #[.int .i64 kc4, .bool ky4, .slice rA4 rn4 rcA4, .slice rB4 rm4 rcB4]]) := he4
       subst he4
       have M4 : Mod (fun _ => False) W3 w4 := Mod.trans' (by (repeat' (with_reducible (first | exact Mod.refl _ _ | assumption | refine Mod.alloc ?_ _ | refine Mod.drew ?_ | refine Mod.drewN ?_ _)))) hm4
       clear hval4 hm4)
    | (go_at_call 15
       (with_reducible refine (HA4.out _ (HMW.out.trans' (by (repeat' (with_reducible (first | exact Mod.refl _ _ | assumption | refine Mod.alloc ?_ _ | refine Mod.drew ?_ | refine Mod.drewN ?_ _)))))).mono ?_)
       rintro e w5 ⟨⟨r5, he5, -, -, -⟩, hm5⟩
       obtain ⟨kc5, ky5, rA5, rn5, rcA5, rB5, rm5, rcB5, hval5, -⟩ := r5.open
       rw [hval5] at he5
       have he5 : e = .returned (.tuple #[.int .i64 1, .agg #[.int .i64 kc5, .bool ky5, .slice rA5 rn5 rcA5, .slice rB5 rm5 rcB5]]) := he5
       subst he5
       have M5 : Mod (fun _ => False) W3 w5 := Mod.trans' (by (repeat' (with_reducible (first | exact Mod.refl _ _ | assumption | refine Mod.alloc ?_ _ | refine Mod.drew ?_ | refine Mod.drewN ?_ _)))) hm5
       have c8 := HK.out _ M5
       have l8 : w3.heap.size < w5.heap.size := Nat.lt_of_lt_of_le HKl.out M5.size
       clear hval5 hm5)
    | fail)
  refine bodyPost_ret (v := .bool true) (by simp [results, Tryz.results8, go_sem]) rfl ⟨rfl, (HM2.out.trans' HMW.out).trans' (by (repeat' (with_reducible (first | exact Mod.refl _ _ | assumption | refine Mod.alloc ?_ _ | refine Mod.drew ?_ | refine Mod.drewN ?_ _))))⟩
end Go.Proofs.YtmalclclopnlnaaGreat
/-
  The laws of clients: a table behind acts, and the document's.
-/
namespace Go.Proofs.YtmalclclopnlnaaGreat
open Go.RowKit Go.Shelf
attribute [local go_sem] Oper.semAt_some

/-- Both tables: the program's, and the document's, apart. -/
def Duo (base : Nat) (D : Nat → Prop) (p m q : Nat) (w : World) (L : List Told) : Prop :=
  ∃ F ms v xs, TabAt F p m 47 w L ms ∧ RefAt base 61 D q 59 w L v xs ∧ (∀ b, F b → base ≤ b ∧ b ≠ q ∧ v.ownBlock ≠ some b) ∧ v.ownBlock ≠ some p ∧ v.ownBlock ≠ some m ∧ base ≤ p ∧ base ≤ m ∧ base ≤ q ∧ p ≠ q ∧ m ≠ q
theorem Duo.mod {base : Nat} {D : Nat → Prop} {p m q : Nat} {w w' : World} {L : List Told} (h : Duo base D p m q w L) (hm : Mod (fun _ => False) w w') (hD : ∀ b, D b → b < w.heap.size) : Duo base D p m q w' L := by
  obtain ⟨F, ms, v, xs, h1, h2, h3⟩ := h
  exact ⟨F, ms, v, xs, h1.mod hm id id fun _ _ => id, h2.mod hm id (fun _ _ => id) fun b hb => ⟨hD b hb, id⟩, h3⟩
theorem Duo.tab {base : Nat} {D : Nat → Prop} {p m q : Nat} {w : World} {L : List Told} (h : Duo base D p m q w L) : Tab L := by
  obtain ⟨F, ms, v, xs, h1, -⟩ := h
  exact h1.tab
theorem two_start {D : Nat → Prop} {p m base T : Nat} {w w1 : World} (hT : TabAt (fun _ => False) p m 47 w1 [] []) (hb : base ≤ w.heap.size) (hp : w.heap.size ≤ p) (hm : w.heap.size ≤ m) (hw : Mod (fun _ => False) w w1) (hTT : T = 59) :
    Duo base D p m w1.heap.size (w1.alloc (.cells #[.slice none 0 0] T)) [] := by
  subst hTT
  have hpl := hT.plt
  have hml := hT.mlt
  have hs := hw.size
  refine ⟨_, _, .slice none 0 0, [], hT.mod ((Mod.refl (fun _ => False) w1).alloc _) id id (fun _ _ => id), ⟨hp_new _ _, OwnS.nil _ _ _ _ _, fun x hx => (by cases hx), rfl, Tab.nil, fun b hb => ?_⟩, fun b hb => hb.elim, fun h => ?_, fun h => ?_, by omega, by omega, by omega, by omega, by omega⟩
  all_goals simp [Value.ownBlock] at *
theorem two_put {base : Nat} {D : Nat → Prop} {p m q : Nat} {F : Nat → Prop} {ms : List TC} {v v' : Value} {xs' : List AC} {w w2 w3 : World} {L : List Told} {x : Told} (hT : TabAt F p m 47 w L ms) (hbw : base ≤ w.heap.size)
    (h3 : (∀ b, F b → base ≤ b ∧ b ≠ q ∧ v.ownBlock ≠ some b) ∧ v.ownBlock ≠ some p ∧ v.ownBlock ≠ some m ∧ base ≤ p ∧ base ≤ m ∧ base ≤ q ∧ p ≠ q ∧ m ≠ q) (hD : ∀ b, D b → b < base)
    (hs : w.heap.size ≤ w2.heap.size) (hR : RefAt base 61 D q 59 w2 (actT L x) v' xs') (hv : ∀ b, v'.ownBlock = some b → v.ownBlock = some b ∨ w.heap.size ≤ b) (hP : ∃ ms F', TabAt F' p m 47 w3 (actT L x) ms ∧ ∀ b, F' b → F b ∨ w2.heap.size ≤ b) (hm : Mod (fun b => b = m) w2 w3) : Duo base D p m q w3 (actT L x) := by
  obtain ⟨ms', F', hT', hF'⟩ := hP
  obtain ⟨f1, f2, f3, f4, f5, f6, f7, f8⟩ := h3
  have hpl := hT.plt
  have hml := hT.mlt
  have hql := hp_lt hR.ptr
  have hp' : v'.ownBlock ≠ some p := fun h => (hv p h).elim f2 fun h => by omega
  have hm' : v'.ownBlock ≠ some m := fun h => (hv m h).elim f3 fun h => by omega
  refine ⟨F', ms', v', xs', hT', hR.mod hm (fun h => f8 h.symm) (fun b hb h => hm' (by rw [← h]; exact hb)) (fun b hb => ⟨by have := hD b hb; omega, by have := hD b hb; omega⟩), fun b hb => ?_, hp', hm', f4, f5, f6, f7, f8⟩
  rcases hF' b hb with h | h
  · refine ⟨(f1 b h).1, (f1 b h).2.1, fun h2 => ?_⟩
    rcases hv b h2 with h3 | h3
    · exact (f1 b h).2.2 h3
    · have := (hT.off b h).1; omega
  · refine ⟨by omega, by omega, fun h2 => ?_⟩
    have := (hR.own.fresh b h2).2
    omega
def BeginEnds (D : Nat → Prop) (L : List Told) (w : World) (e : Ending) (w' : World) : Prop :=
  (∃ p m q, e = .returned (.tuple #[.pointer (some ⟨p, 0, none⟩), .pointer (some ⟨q, 0, none⟩), .bool true]) ∧ Duo w.heap.size D p m q w' L) ∧ Mod (fun _ => False) w w'
theorem allT_snoc (l : List Told) (x : Told) : allT (l ++ [x]) = actT (allT l) x := by unfold allT; rw [List.foldl_append]; rfl
set_option maxRecDepth 100000 in
set_option maxHeartbeats 4000000 in
theorem begin_any (A : Option Addr) (cp : Nat) (D : Nat → Prop) (xs : List AC) (w : World) (hA : Rd D w 6 AC.cs A xs) (hok : ∀ x ∈ xs, x.Ok D w) (hl : xs.length ≤ maxLen) (hsm : ∀ x ∈ xs, SmallA x) (hD : ∀ b, D b → b < w.heap.size) :
    Calls Tryz.prog 9 #[.slice A xs.length cp] w (BeginEnds D (allT (xs.map AC.told)) w) := by
  unfold maxLen at hl
  obtain ⟨n, hn⟩ : ∃ n, n = xs.length := ⟨_, rfl⟩
  rw [← hn] at hl ⊢
  have HN := Lib.hid hn
  have HA := Lib.hid (fun X (hX : Mod (fun _ => False) w X) => hA.mod hX fun b hb => ⟨hD b hb, id⟩)
  have HOk := Lib.hid (fun X (hX : Mod (fun _ => False) w X) x hx => (hok x hx).mod hX fun b hb => ⟨hD b hb, id⟩)
  have HSm := Lib.hid hsm
  have HD := Lib.hid hD
  have HNew := Lib.hid (tnew_any w)
  clear hn hA hok hsm hD
  go_enter Tryz.func9, Tryz.ntmps9
  go_upto_region 2 with (first
    | (go_at_call 19
       (with_reducible refine HNew.out.mono ?_)
       rintro e w1 ⟨p, m, rfl, hT, hp, hmm, hm1⟩
       have hTwo := two_start (D := D) (T := 59) hT (Nat.le_refl _) hp hmm hm1 rfl
       have HTwo := Lib.hid hTwo
       have HM1 := Lib.hid hm1
       clear hT hp hmm hm1 hTwo)
    | fail)
  obtain ⟨q, hq⟩ : ∃ q, q = w1.heap.size := ⟨_, rfl⟩
  obtain ⟨W1, hW1⟩ : ∃ W1, W1 = w1.alloc (.cells #[.slice none 0 0] 59) := ⟨_, rfl⟩
  have hm1 : Mod (fun _ => False) w W1 := by rw [hW1]; exact HM1.out.alloc _
  rw [← hq, ← hW1] at HTwo
  rw [← hq, ← hW1]
  have HMW := Lib.hid hm1
  clear hq hW1 hm1
  go_wp2
  go_loopw [7] (fun i wr => ∃ k : Nat, k ≤ n ∧ i = .int .i64 (k : Int) ∧ Duo w.heap.size D p m q wr (allT ((xs.take k).map AC.told)) ∧ Mod (fun _ => False) w wr) (fun i _ => n - (intOf i).toNat)
  case atStart => exact ⟨0, Nat.zero_le _, rfl, HTwo.out, HMW.out⟩
  case round =>
    obtain ⟨k, hk, rfl, htwo, MR⟩ := hrel
    have HTw := Lib.hid htwo
    clear htwo
    by_cases hkn : k < n
    · have hkx : k < xs.length := by rw [← HN.out]; exact hkn
      obtain ⟨b, off, rfl, hbD, -⟩ := rdAC (HA.out w (Mod.refl _ _)) hkx
      obtain ⟨x, hx⟩ : ∃ x, x = xs[k] := ⟨_, rfl⟩
      have hxm : x ∈ xs := by rw [hx]; exact List.getElem_mem _
      obtain ⟨kc, ky, rA, rn, rcA, rB, rm, rcB, hval, hcs⟩ := x.r.open
      have hS : ∀ X, Mod (fun _ => False) w X → X.cell? ⟨b, off + k * 6, none⟩ = some (.int .u64 (x.c : Int)) ∧ X.cell? ⟨b, off + k * 6 + 1, none⟩ = some (.int .u64 (x.n : Int)) ∧ X.cell? ⟨b, off + k * 6 + 2, none⟩ = some (.int .i64 kc) ∧ X.cell? ⟨b, off + k * 6 + 3, none⟩ = some (.bool ky) ∧ X.cell? ⟨b, off + k * 6 + 4, none⟩ = some (.slice rA rn rcA) ∧ X.cell? ⟨b, off + k * 6 + 5, none⟩ = some (.slice rB rm rcB) := by
        intro X hX
        obtain ⟨b', off', he, -, h0, h1, h2, h3, h4, h5⟩ := rdAC (HA.out X hX) hkx
        injection he with he
        injection he with he1 he2
        subst he1 he2
        rw [← hx] at h0 h1 h2 h3 h4 h5
        have hc : [Value.int .i64 x.r.code, .bool x.r.yes, .slice x.r.A x.r.es.length x.r.cA, .slice x.r.B x.r.cur.length x.r.cB] = [Value.int .i64 kc, .bool ky, .slice rA rn rcA, .slice rB rm rcB] := hcs
        injection hc with e0 hc
        injection hc with e1 hc
        injection hc with e2 hc
        injection hc with e3 hc
        rw [e0] at h2
        rw [e1] at h3
        rw [e2] at h4
        rw [e3] at h5
        exact ⟨h0, h1, h2, h3, h4, h5⟩
      have hrb := fun X (hX : Mod (fun _ => False) w X) => rresb_any x.r X (((HOk.out X hX x hxm).r).mono fun b hb => Nat.lt_of_lt_of_le (HD.out b hb) hX.size) (HSm.out x hxm).fit (HSm.out x hxm).1
      rw [hval] at hrb
      obtain ⟨F, ms, v, ys, hT, hR, h3⟩ := HTw.out
      have hp25 := fun (hmy : mayR x.r.res = true) X (hX : Mod (fun _ => False) wr X) => put25_any w.heap.size D q _ v ys x.c x.n x.r X (hR.mod hX id (fun _ _ => id) fun b hb => ⟨by have := HD.out b hb; have := MR.size; omega, id⟩) ((HOk.out X (MR.trans' hX) x hxm).r) (fun b hb => ⟨by have := HD.out b hb; have := (MR.trans' hX).size; omega, by have := HD.out b hb; have := h3.2.2.2.2.2.1; omega⟩) (MR.trans' hX).size (HOk.out w (Mod.refl _ _) x hxm).c (HOk.out w (Mod.refl _ _) x hxm).n hmy
      have htp := fun X (hX : Mod (fun b => b = q) wr X) (hXw : Mod (fun _ => False) w X) => tput_any F p m 47 _ ms x.c x.n x.r X (hT.mod hX h3.2.2.2.2.2.2.1 h3.2.2.2.2.2.2.2 fun b hb h => (h3.1 b hb).2.1 h) (((HOk.out X hXw x hxm).r).mono fun b hb => Nat.lt_of_lt_of_le (HD.out b hb) hXw.size) (HSm.out x hxm).fit (HOk.out w (Mod.refl _ _) x hxm).c (HOk.out w (Mod.refl _ _) x hxm).n
      rw [hval] at hp25 htp
      obtain ⟨L, hL⟩ : ∃ L, L = allT ((xs.take k).map AC.told) := ⟨_, rfl⟩
      rw [← hL] at hp25 htp hT hR
      have htold : (⟨x.c, x.n, x.r.res⟩ : Told) = x.told := rfl
      have hsn : allT ((xs.take (k + 1)).map AC.told) = actT L x.told := by rw [List.take_succ_eq_append_getElem hkx, List.map_append, ← hx, hL]; exact allT_snoc _ _
      have HSn := Lib.hid hsn
      have HS := Lib.hid hS
      have HRb := Lib.hid hrb
      have HP := Lib.hid hp25
      have HTp := Lib.hid htp
      have HT := Lib.hid hT
      have HR := Lib.hid hR
      have H3 := Lib.hid h3
      obtain ⟨xc, hxc⟩ : ∃ a, a = x.c := ⟨_, rfl⟩
      obtain ⟨xn, hxn⟩ : ∃ a, a = x.n := ⟨_, rfl⟩
      rw [← hxc, ← hxn] at HS HP HTp
      obtain ⟨a0, a1, a2, a3, a4, a5⟩ := HS.out _ MR
      have HXc := Lib.hid hxc
      have HXn := Lib.hid hxn
      clear hsn hS hrb hp25 htp hT hR h3 hx hxm hcs hval hbD htold hL hxc hxn
      cases hmy : mayR x.r.res with
      | false =>
        rw [hmy] at HRb
        have hwt : wantE ⟨xc, xn, x.r.res⟩ L = 2 := by unfold wantE; rw [if_neg (show ¬ mayR (⟨xc, xn, x.r.res⟩ : Told).r = true by rw [show (⟨xc, xn, x.r.res⟩ : Told).r = x.r.res from rfl, hmy]; simp)]
        have HW := Lib.hid hwt
        clear hwt hmy
        go_upto_region 9 with (first
          | (go_at_call 22
             (with_reducible refine (HRb.out _ (by (repeat' (with_reducible (first | exact Mod.refl _ _ | assumption | refine Mod.alloc ?_ _ | refine Mod.drew ?_ | refine Mod.drewN ?_ _))))).mono ?_)
             rintro e w1 ⟨⟨vb, rfl⟩, hm1⟩
             have M1 : Mod (fun _ => False) w w1 := Mod.trans' (by (repeat' (with_reducible (first | exact Mod.refl _ _ | assumption | refine Mod.alloc ?_ _ | refine Mod.drew ?_ | refine Mod.drewN ?_ _)))) hm1
             have N1 : Mod (fun _ => False) wr w1 := Mod.trans' (by (repeat' (with_reducible (first | exact Mod.refl _ _ | assumption | refine Mod.alloc ?_ _ | refine Mod.drew ?_ | refine Mod.drewN ?_ _)))) hm1
             clear hm1)
          | fail)
        have hact : actT L ⟨xc, xn, x.r.res⟩ = L := by unfold actT; rw [if_neg (by rw [HW.out]; decide)]
        have HAct := Lib.hid hact
        clear hact
        go_region_held3 (fun X => X.cell? ⟨b, off + k * 6, none⟩ = some (.int .u64 (xc : Int)) ∧ X.cell? ⟨b, off + k * 6 + 1, none⟩ = some (.int .u64 (xn : Int)) ∧ X.cell? ⟨b, off + k * 6 + 2, none⟩ = some (.int .i64 kc) ∧ X.cell? ⟨b, off + k * 6 + 3, none⟩ = some (.bool ky) ∧ X.cell? ⟨b, off + k * 6 + 4, none⟩ = some (.slice rA rn rcA) ∧ X.cell? ⟨b, off + k * 6 + 5, none⟩ = some (.slice rB rm rcB)) (first | exact HS.out _ (by (repeat' (with_reducible (first | exact Mod.refl _ _ | assumption | refine Mod.alloc ?_ _ | refine Mod.drew ?_ | refine Mod.drewN ?_ _)))) | fail) (first
          | (go_at_call 12
             (with_reducible refine (HTp.out _ ((show Mod (fun _ => False) wr _ from by (repeat' (with_reducible (first | exact Mod.refl _ _ | assumption | refine Mod.alloc ?_ _ | refine Mod.drew ?_ | refine Mod.drewN ?_ _)))).mono fun _ _ h => h.elim) (by (repeat' (with_reducible (first | exact Mod.refl _ _ | assumption | refine Mod.alloc ?_ _ | refine Mod.drew ?_ | refine Mod.drewN ?_ _))))).mono ?_)
             rintro e w2 ⟨he, hP2, hm2⟩
             rw [HW.out] at he
             have he : e = .returned (.int .i64 2) := he
             subst he
             have M2 : Mod (fun _ => False) w w2 := Mod.trans (by (repeat' (with_reducible (first | exact Mod.refl _ _ | assumption | refine Mod.alloc ?_ _ | refine Mod.drew ?_ | refine Mod.drewN ?_ _)))) hm2 (fun b hb => .inr (by rw [hb]; exact H3.out.2.2.2.2.1))
             have HTwo2 := Lib.hid (two_put HT.out MR.size H3.out HD.out (Mod.size (show Mod (fun _ => False) wr _ from by (repeat' (with_reducible (first | exact Mod.refl _ _ | assumption | refine Mod.alloc ?_ _ | refine Mod.drew ?_ | refine Mod.drewN ?_ _))))) (by rw [HAct.out]; exact HR.out.mod (show Mod (fun _ => False) wr _ from by (repeat' (with_reducible (first | exact Mod.refl _ _ | assumption | refine Mod.alloc ?_ _ | refine Mod.drew ?_ | refine Mod.drewN ?_ _)))) id (fun _ _ => id) fun b hb => ⟨by have := HD.out b hb; have := MR.size; omega, id⟩) (fun b hb => .inl hb) hP2 hm2)
             clear he hP2 hm2)
          | fail)
        all_goals
          go_wp2
          go_roundw
          case rel => exact ⟨k + 1, by omega, by go_num, by rw [HSn.out, show x.told = ⟨xc, xn, x.r.res⟩ from by rw [HXc.out, HXn.out]; rfl]; exact HTwo2.out, M2⟩
          case measure => simp only [intOf]; omega
      | true =>
        rw [hmy] at HRb
        obtain ⟨z, hz⟩ : ∃ z, z = putE xc xn L := ⟨_, rfl⟩
        have hwt : wantE ⟨xc, xn, x.r.res⟩ L = z := by unfold wantE; rw [if_pos (show mayR (⟨xc, xn, x.r.res⟩ : Told).r = true from hmy), hz]
        have hact : actT L ⟨xc, xn, x.r.res⟩ = if putE xc xn L = 0 then putT ⟨xc, xn, x.r.res⟩ L else L := by unfold actT; rw [hwt, ← hz]
        have HP := Lib.hid (HP.out hmy)
        have HW := Lib.hid hwt
        have HZ := Lib.hid hz
        have HAct := Lib.hid hact
        clear hwt hmy hz hact
        go_upto_region 8 with (first
          | (go_at_call 22
             (with_reducible refine (HRb.out _ (by (repeat' (with_reducible (first | exact Mod.refl _ _ | assumption | refine Mod.alloc ?_ _ | refine Mod.drew ?_ | refine Mod.drewN ?_ _))))).mono ?_)
             rintro e w1 ⟨⟨vb, rfl⟩, hm1⟩
             have M1 : Mod (fun _ => False) w w1 := Mod.trans' (by (repeat' (with_reducible (first | exact Mod.refl _ _ | assumption | refine Mod.alloc ?_ _ | refine Mod.drew ?_ | refine Mod.drewN ?_ _)))) hm1
             have N1 : Mod (fun _ => False) wr w1 := Mod.trans' (by (repeat' (with_reducible (first | exact Mod.refl _ _ | assumption | refine Mod.alloc ?_ _ | refine Mod.drew ?_ | refine Mod.drewN ?_ _)))) hm1
             clear hm1)
          | fail)
        go_region_held3 (fun X => X.cell? ⟨b, off + k * 6, none⟩ = some (.int .u64 (xc : Int)) ∧ X.cell? ⟨b, off + k * 6 + 1, none⟩ = some (.int .u64 (xn : Int)) ∧ X.cell? ⟨b, off + k * 6 + 2, none⟩ = some (.int .i64 kc) ∧ X.cell? ⟨b, off + k * 6 + 3, none⟩ = some (.bool ky) ∧ X.cell? ⟨b, off + k * 6 + 4, none⟩ = some (.slice rA rn rcA) ∧ X.cell? ⟨b, off + k * 6 + 5, none⟩ = some (.slice rB rm rcB)) (first | exact HS.out _ (by (repeat' (with_reducible (first | exact Mod.refl _ _ | assumption | refine Mod.alloc ?_ _ | refine Mod.drew ?_ | refine Mod.drewN ?_ _)))) | fail) (first
          | (go_at_call 23
             (with_reducible refine (HP.out _ (by (repeat' (with_reducible (first | exact Mod.refl _ _ | assumption | refine Mod.alloc ?_ _ | refine Mod.drew ?_ | refine Mod.drewN ?_ _))))).mono ?_)
             rintro e w2 ⟨he, ⟨v', ys', hR2, hv2⟩, hm2⟩
             have he : e = .returned (.int .i64 (z : Int)) := by rw [HZ.out]; exact he
             subst he
             have M2 : Mod (fun _ => False) w w2 := Mod.trans (by (repeat' (with_reducible (first | exact Mod.refl _ _ | assumption | refine Mod.alloc ?_ _ | refine Mod.drew ?_ | refine Mod.drewN ?_ _)))) hm2 (fun b hb => .inr (by rw [hb]; exact H3.out.2.2.2.2.2.1))
             have N2 : Mod (fun b => b = q) wr w2 := Mod.trans ((show Mod (fun _ => False) wr _ from by (repeat' (with_reducible (first | exact Mod.refl _ _ | assumption | refine Mod.alloc ?_ _ | refine Mod.drew ?_ | refine Mod.drewN ?_ _)))).mono fun _ _ h => h.elim) hm2 (fun b hb => .inl hb)
             have HR2 := Lib.hid (show RefAt w.heap.size 61 D q 59 w2 (actT L ⟨xc, xn, x.r.res⟩) v' ys' by rw [HAct.out]; exact hR2)
             have HV2 := Lib.hid (fun b hb => (hv2 b hb).imp id fun h => Nat.le_trans (Mod.size (show Mod (fun _ => False) wr _ from by (repeat' (with_reducible (first | exact Mod.refl _ _ | assumption | refine Mod.alloc ?_ _ | refine Mod.drew ?_ | refine Mod.drewN ?_ _))))) h)
             clear he hR2 hv2 hm2)
          | fail)
        all_goals
          go_upto_region 9 with fail
          go_region_held3 (fun X => X.cell? ⟨b, off + k * 6, none⟩ = some (.int .u64 (xc : Int)) ∧ X.cell? ⟨b, off + k * 6 + 1, none⟩ = some (.int .u64 (xn : Int)) ∧ X.cell? ⟨b, off + k * 6 + 2, none⟩ = some (.int .i64 kc) ∧ X.cell? ⟨b, off + k * 6 + 3, none⟩ = some (.bool ky) ∧ X.cell? ⟨b, off + k * 6 + 4, none⟩ = some (.slice rA rn rcA) ∧ X.cell? ⟨b, off + k * 6 + 5, none⟩ = some (.slice rB rm rcB)) (first | exact HS.out _ (by (repeat' (with_reducible (first | exact Mod.refl _ _ | assumption | refine Mod.alloc ?_ _ | refine Mod.drew ?_ | refine Mod.drewN ?_ _)))) | fail) (first
            | (go_at_call 12
               (with_reducible refine (HTp.out _ (by (repeat' (with_reducible (first | exact Mod.refl _ _ | assumption | refine Mod.alloc ?_ _ | refine Mod.drew ?_ | refine Mod.drewN ?_ _)))) (by (repeat' (with_reducible (first | exact Mod.refl _ _ | assumption | refine Mod.alloc ?_ _ | refine Mod.drew ?_ | refine Mod.drewN ?_ _))))).mono ?_)
               rintro e w3 ⟨he, hP3, hm3⟩
               rw [HW.out] at he
               subst he
               have M3 : Mod (fun _ => False) w w3 := Mod.trans (by (repeat' (with_reducible (first | exact Mod.refl _ _ | assumption | refine Mod.alloc ?_ _ | refine Mod.drew ?_ | refine Mod.drewN ?_ _)))) hm3 (fun b hb => .inr (by rw [hb]; exact H3.out.2.2.2.2.1))
               have HTwo2 := Lib.hid (two_put HT.out MR.size H3.out HD.out (Mod.size (show Mod (fun b => b = q) wr _ from by (repeat' (with_reducible (first | exact Mod.refl _ _ | assumption | refine Mod.alloc ?_ _ | refine Mod.drew ?_ | refine Mod.drewN ?_ _))))) (HR2.out.mod (C := fun _ => False) (by (repeat' (with_reducible (first | exact Mod.refl _ _ | assumption | refine Mod.alloc ?_ _ | refine Mod.drew ?_ | refine Mod.drewN ?_ _)))) id (fun _ _ => id) fun b hb => ⟨by have := HD.out b hb; have := M2.size; omega, id⟩) HV2.out hP3 hm3)
               clear hP3 hm3)
            | fail)
          all_goals
            go_wp2
            go_roundw
            case rel => exact ⟨k + 1, by omega, by go_num, by rw [HSn.out, show x.told = ⟨xc, xn, x.r.res⟩ from by rw [HXc.out, HXn.out]; rfl]; exact HTwo2.out, M3⟩
            case measure => simp only [intOf]; omega
    · obtain rfl : k = n := by omega
      have htk : xs.take k = xs := by rw [HN.out, List.take_length]
      rw [htk] at HTw
      go_wp2
      refine bodyPost_ret (v := .tuple #[.pointer (some ⟨p, 0, none⟩), .pointer (some ⟨q, 0, none⟩), .bool true]) (by simp [results, Tryz.results9, go_sem]) rfl ⟨⟨p, m, q, rfl, HTw.out⟩, MR⟩
end Go.Proofs.YtmalclclopnlnaaGreat
/-
  The package clients: two tables the same.
-/
namespace Go.Proofs.YtmalclclopnlnaaGreat
open Go.RowKit Go.Shelf
attribute [local go_sem] Oper.semAt_some

theorem bequal_any (D1 D2 : Nat → Prop) (A1 A2 : Option Addr) (c1 c2 : Nat) (xs ys : Bs) (w : World) (h1 : Rd D1 w 1 csU A1 xs) (h2 : Rd D2 w 1 csU A2 ys) :
    Calls Tryz.prog 29 #[.slice A1 xs.length c1, .slice A2 ys.length c2] w fun e w' => e = .returned (.bool (decide (xs = ys))) ∧ w = w' := by
  have q1 := run_str_of h1 c1
  have q2 := run_str_of h2 c2
  obtain ⟨n, hn⟩ : ∃ n, n = xs.length := ⟨_, rfl⟩
  obtain ⟨m, hm⟩ : ∃ m, m = ys.length := ⟨_, rfl⟩
  rw [← hn] at q1 ⊢
  rw [← hm] at q2 ⊢
  clear hn hm h1 h2
  go_enter Tryz.func29, Tryz.ntmps29
  go_wp2
  go_ret
  exact ⟨by rw [show decide (xs = ys) = (xs == ys) from by rw [Bool.eq_iff_iff]; simp]; rfl, rfl⟩
set_option maxRecDepth 100000 in
theorem tsame1_any (t1 t2 : TC) (D1 D2 : Nat → Prop) (w : World) (h1 : Rd D1 w 1 csU t1.A (resV t1.r)) (h2 : Rd D2 w 1 csU t2.A (resV t2.r)) (d1 : ∀ b, D1 b → b < w.heap.size) (d2 : ∀ b, D2 b → b < w.heap.size) :
    Calls Tryz.prog 28 #[t1.val, t2.val] w fun e w' => e = .returned (.bool (decide (t1.n = t2.n) && decide (resV t1.r = resV t2.r))) ∧ Mod (fun _ => False) w w' := by
  have hE := fun X (hX : Mod (fun _ => False) w X) => bequal_any D1 D2 t1.A t2.A t1.cap t2.cap (resV t1.r) (resV t2.r) X (h1.mod hX fun b hb => ⟨d1 b hb, id⟩) (h2.mod hX fun b hb => ⟨d2 b hb, id⟩)
  obtain ⟨k1, hk1⟩ : ∃ k, k = (resV t1.r).length := ⟨_, rfl⟩
  obtain ⟨k2, hk2⟩ : ∃ k, k = (resV t2.r).length := ⟨_, rfl⟩
  have hv1 : t1.val = .agg #[.int .u64 (t1.n : Int), .slice t1.A k1 t1.cap] := by rw [hk1]; rfl
  have hv2 : t2.val = .agg #[.int .u64 (t2.n : Int), .slice t2.A k2 t2.cap] := by rw [hk2]; rfl
  rw [hv1, hv2]
  rw [← hk1, ← hk2] at hE
  obtain ⟨d, hd⟩ : ∃ d, d = decide (resV t1.r = resV t2.r) := ⟨_, rfl⟩
  rw [← hd] at hE ⊢
  have HE := Lib.hid hE
  clear hE hk1 hk2 hv1 hv2 hd h1 h2 d1 d2
  by_cases hn : t1.n = t2.n
  · have i1 : decide (t1.n = t2.n) = true := decide_eq_true hn
    have i2 : ((t1.n : Int) == (t2.n : Int)) = true := by rw [hn]; simp
    rw [i1]
    clear hn
    go_enter Tryz.func28, Tryz.ntmps28
    go_wp2_with (first
      | (go_at_call 29
         (with_reducible refine (HE.out _ (by (repeat' (with_reducible (first | exact Mod.refl _ _ | assumption | refine Mod.alloc ?_ _ | refine Mod.drew ?_ | refine Mod.drewN ?_ _ | refine Mod.setCell ?_ (by first | exact Or.inl rfl | (right; simp; done) | (right; simp; omega) | (left; simp; done)) _))))).mono ?_)
         rintro e w1 ⟨rfl, rfl⟩)
      | fail)
    go_ret
    exact ⟨rfl, by (repeat' (first | exact Mod.refl _ _ | assumption | refine Mod.alloc ?_ _ | refine Mod.drew ?_ | refine Mod.drewN ?_ _ | refine Mod.setCell ?_ (by first | exact Or.inl rfl | (right; simp; done) | (right; simp; omega) | (left; simp; done)) _))⟩
  · have i1 : decide (t1.n = t2.n) = false := decide_eq_false hn
    have i2 : ((t1.n : Int) == (t2.n : Int)) = false := by rw [beq_eq_false_iff_ne]; omega
    rw [i1]
    go_enter Tryz.func28, Tryz.ntmps28
    go_wp2
    go_ret
    exact ⟨rfl, by (repeat' (first | exact Mod.refl _ _ | assumption | refine Mod.alloc ?_ _ | refine Mod.drew ?_ | refine Mod.drewN ?_ _ | refine Mod.setCell ?_ (by first | exact Or.inl rfl | (right; simp; done) | (right; simp; omega) | (left; simp; done)) _))⟩
/-! ### Equal maps -/
theorem same_all {L M : List Told} (hL : SrtT L) (hM : SrtT M) (hl : L.length = M.length) (h : ∀ x ∈ L, atT x.c M = some x) : L = M := by
  have ndL : L.Nodup := List.Pairwise.imp (R := fun a b : Told => a.c < b.c) (fun {a b} h e => by rw [e] at h; omega) hL
  have hsub : L ⊆ M := fun x hx => (atT_some (h x hx)).1
  refine tab_ext hL hM fun c => ?_
  cases hc : atT c L with
  | some x =>
    obtain ⟨h1, h2⟩ := atT_some hc
    have := h x h1
    rw [h2] at this
    exact this.symm
  | none =>
    cases hd : atT c M with
    | none => rfl
    | some y =>
      exfalso
      obtain ⟨h1, h2⟩ := atT_some hd
      have hy : y ∉ L := fun hy => by
        have := atT_of hL hy
        rw [h2, hc] at this
        cases this
      have hs : L ⊆ M.erase y := fun x hx => (List.mem_erase_of_ne (fun e : x = y => hy (by rw [← e]; exact hx))).2 (hsub hx)
      have hle := List.Nodup.length_le_of_subset ndL hs
      rw [List.length_erase_of_mem h1] at hle
      have := List.length_pos_of_mem h1
      omega
theorem same_each {L M : List Told} (hM : SrtT M) (e : L = M) : ∀ x ∈ L, atT x.c M = some x := fun x hx => atT_of hM (e ▸ hx)
end Go.Proofs.YtmalclclopnlnaaGreat
