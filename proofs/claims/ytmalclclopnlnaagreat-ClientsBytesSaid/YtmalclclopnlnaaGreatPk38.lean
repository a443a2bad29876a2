/-
  Texts of this claim, one behind the other: LawW, Open.
-/
import Derived.Test.YtmalclclopnlnaaGreatPk00
import Derived.Test.YtmalclclopnlnaaGreatPk30
import Derived.Test.YtmalclclopnlnaaGreatPk36
import Derived.Test.YtmalclclopnlnaaGreatPk37
import Derived.ProofKit
import Derived.Lib.SmallJoins
import Derived.Deep.Slices
import Derived.Deep.Fields
import Derived.ChangeSame
/-
  The laws of clients: a client's latest number rises; a copy goes on apart.
-/
namespace Go.Proofs.YtmalclclopnlnaaGreat
open Go.RowKit Go.Shelf
attribute [local go_sem] Oper.semAt_some

/-- Acts as they come in. -/
structure ActsAt (w : World) (A : Option Addr) (xs : List AC) : Prop where
  rd : Rd (fun b => b < w.heap.size) w 6 AC.cs A xs
  ok : ∀ x ∈ xs, x.Ok (fun b => b < w.heap.size) w
  len : xs.length ≤ maxLen
theorem ActsAt.mod {w w' : World} {A : Option Addr} {xs : List AC} (h : ActsAt w A xs) (hm : Mod (fun _ => False) w w') : ActsAt w' A xs :=
  ⟨(h.rd.mod hm fun b hb => ⟨hb, id⟩).mono fun b hb => Nat.lt_of_lt_of_le hb hm.size, fun x hx => ((h.ok x hx).mod hm fun b hb => ⟨hb, id⟩).mono fun b hb => Nat.lt_of_lt_of_le hb hm.size, h.len⟩
theorem ActsAt.cells {w : World} {A : Option Addr} {xs : List AC} (h : ActsAt w A xs) {k : Nat} (hk : k < xs.length) : ∃ b off kc ky rA rn rcA rB rm rcB, A = some ⟨b, off, none⟩ ∧ xs[k].r.val = .agg #[.int .i64 kc, .bool ky, .slice rA rn rcA, .slice rB rm rcB] ∧ ∀ X, Mod (fun _ => False) w X →
    X.cell? ⟨b, off + k * 6, none⟩ = some (.int .u64 (xs[k].c : Int)) ∧ X.cell? ⟨b, off + k * 6 + 1, none⟩ = some (.int .u64 (xs[k].n : Int)) ∧ X.cell? ⟨b, off + k * 6 + 2, none⟩ = some (.int .i64 kc) ∧ X.cell? ⟨b, off + k * 6 + 3, none⟩ = some (.bool ky) ∧ X.cell? ⟨b, off + k * 6 + 4, none⟩ = some (.slice rA rn rcA) ∧ X.cell? ⟨b, off + k * 6 + 5, none⟩ = some (.slice rB rm rcB) := by
  obtain ⟨b, off, hAe, hbD, h0, h1, h2, h3, h4, h5⟩ := rdAC h.rd hk
  refine ⟨b, off, _, _, _, _, _, _, _, _, hAe, rfl, fun X hX => ⟨?_, ?_, ?_, ?_, ?_, ?_⟩⟩
  · exact cell_modC h0 hX id
  · exact cell_modC h1 hX id
  · exact cell_modC h2 hX id
  · exact cell_modC h3 hX id
  · exact cell_modC h4 hX id
  · exact cell_modC h5 hX id
theorem fresh_le {wr X : World} {F' F5 : Nat → Prop} {s : Nat} (hN : Mod (fun _ => False) wr X) (hF5 : ∀ b, F5 b → F' b ∨ X.heap.size ≤ b) (hF' : ∀ b, F' b → b < s ∨ s + 2 ≤ b) (hs : s + 2 ≤ wr.heap.size) : ∀ b, F5 b → b < s ∨ s + 2 ≤ b :=
  fun b hb => (hF5 b hb).elim (hF' b) fun h => .inr (by have := hN.size; omega)
def latP (c : Nat) (L : List Told) : Nat × Bool := match atT c L with | none => (0, false) | some t => (t.n, true)
theorem tlatP (F : Nat → Prop) (p m T : Nat) (L : List Told) (ms : List TC) (c : Nat) (w : World) (h : TabAt F p m T w L ms) :
    Calls Tryz.prog 11 #[.pointer (some ⟨p, 0, none⟩), .int .u64 (c : Int)] w fun e w' => e = .returned (.tuple #[.int .u64 ((latP c L).1 : Int), .bool (latP c L).2]) ∧ Mod (fun _ => False) w w' :=
  (tlatest_any F p m T L ms c w h).mono fun e w' he => ⟨by rw [he.1]; unfold latP; cases atT c L <;> rfl, he.2⟩
theorem rise4 {L : List Told} (hT : Tab L) (x : Told) : (latP x.c L).2 = false ∧ wantE x L = 0 ∨ (latP x.c L).2 = false ∧ wantE x L ≠ 0 ∧ (latP x.c (actT L x)).2 = false ∨ (latP x.c L).2 = true ∧ wantE x L = 0 ∧ (latP x.c (actT L x)).2 = true ∧ (latP x.c L).1 < (latP x.c (actT L x)).1 ∨
    (latP x.c L).2 = true ∧ wantE x L ≠ 0 ∧ (latP x.c (actT L x)).2 = true ∧ (latP x.c (actT L x)).1 = (latP x.c L).1 := by
  by_cases h0 : wantE x L = 0
  · have ha : actT L x = putT x L := by unfold actT; rw [if_pos h0]
    have h2 : latP x.c (actT L x) = (x.n, true) := by unfold latP; rw [ha, atT_put x x.c hT.1, if_pos rfl]
    cases h : atT x.c L with
    | none => exact .inl ⟨by unfold latP; rw [h], h0⟩
    | some t =>
      have hl : latP x.c L = (t.n, true) := by unfold latP; rw [h]
      have hlt : t.n < x.n := by
        have h3 := h0
        unfold wantE at h3
        split at h3
        · unfold putE at h3
          rw [h] at h3
          simp only at h3
          split at h3
          · cases h3
          · omega
        · cases h3
      exact .inr (.inr (.inl ⟨by rw [hl], h0, by rw [h2], by rw [hl, h2]; exact hlt⟩))
  · have ha : actT L x = L := by unfold actT; rw [if_neg h0]
    rw [ha]
    cases h : atT x.c L with
    | none =>
      have hl : latP x.c L = (0, false) := by unfold latP; rw [h]
      exact .inr (.inl ⟨by rw [hl], h0, by rw [hl]⟩)
    | some t =>
      have hl : latP x.c L = (t.n, true) := by unfold latP; rw [h]
      exact .inr (.inr (.inr ⟨by rw [hl], h0, by rw [hl], rfl⟩))
theorem acts_t : SliceT Tryz.prog 22 39 6 80 := SliceT.mk' (z := .agg #[.int .u64 0, .int .u64 0, .int .i64 0, .bool false, .slice none 0 0, .slice none 0 0]) Tryz.underlying22 (by kernel_rfl) (by kernel_rfl) (by decide)
theorem allT_app (l a : List AC) : (a.map AC.told).foldl actT (allT (l.map AC.told)) = allT ((l ++ a).map AC.told) := by unfold allT; rw [List.map_append, List.foldl_append]
set_option maxRecDepth 100000 in
set_option maxHeartbeats 8000000 in
theorem rise_any (A1 A2 A3 : Option Addr) (c1 c2 c3 : Nat) (xs1 xs2 xs3 : List AC) (w : World) (h1 : ActsAt w A1 xs1) (h2 : ActsAt w A2 xs2) (h3 : ActsAt w A3 xs3) :
    Calls Tryz.prog 3 #[.slice A1 xs1.length c1, .slice A2 xs2.length c2, .slice A3 xs3.length c3] w fun e w' => e = .returned (.bool true) ∧ Mod (fun _ => False) w w' := by
  obtain ⟨n1, hn1⟩ : ∃ n, n = xs1.length := ⟨_, rfl⟩
  obtain ⟨n2, hn2⟩ : ∃ n, n = xs2.length := ⟨_, rfl⟩
  obtain ⟨n3, hn3⟩ : ∃ n, n = xs3.length := ⟨_, rfl⟩
  have hf1 := fun X (hX : Mod (fun _ => False) w X) => few_any A1 c1 25 _ xs1 X (h1.mod hX).rd (h1.mod hX).ok h1.len (by decide)
  have hf2 := fun X (hX : Mod (fun _ => False) w X) => few_any A2 c2 25 _ xs2 X (h2.mod hX).rd (h2.mod hX).ok h2.len (by decide)
  have hf3 := fun X (hX : Mod (fun _ => False) w X) => few_any A3 c3 25 _ xs3 X (h3.mod hX).rd (h3.mod hX).ok h3.len (by decide)
  unfold FewEnds at hf1 hf2 hf3
  obtain ⟨z1, hz1⟩ : ∃ z, z = fewB 25 xs1 := ⟨_, rfl⟩
  obtain ⟨z2, hz2⟩ : ∃ z, z = fewB 25 xs2 := ⟨_, rfl⟩
  obtain ⟨z3, hz3⟩ : ∃ z, z = fewB 25 xs3 := ⟨_, rfl⟩
  rw [← hn1, ← hz1] at hf1
  rw [← hn2, ← hz2] at hf2
  rw [← hn3, ← hz3] at hf3
  rw [← hn1, ← hn2, ← hn3]
  have HF1 := Lib.hid (show ∀ X, Mod (fun _ => False) w X → Calls Tryz.prog 7 #[.slice A1 n1 c1, .int .i64 25] X fun e w' => e = .returned (.bool z1) ∧ w' = X from hf1)
  have HF2 := Lib.hid (show ∀ X, Mod (fun _ => False) w X → Calls Tryz.prog 7 #[.slice A2 n2 c2, .int .i64 25] X fun e w' => e = .returned (.bool z2) ∧ w' = X from hf2)
  have HF3 := Lib.hid (show ∀ X, Mod (fun _ => False) w X → Calls Tryz.prog 7 #[.slice A3 n3 c3, .int .i64 25] X fun e w' => e = .returned (.bool z3) ∧ w' = X from hf3)
  have HKn := Lib.hid (fun X => known25_any X)
  clear hf1 hf2 hf3
  cases z1
  · clear h1 h2 h3 hn1 hn2 hn3 hz1 hz2 hz3
    go_enter Tryz.func3, Tryz.ntmps3
    go_wp2_with (first
      | (go_at_call 7
         (first
          | (with_reducible refine (HF1.out _ (by (repeat' (with_reducible (first | exact Mod.refl _ _ | assumption | refine Mod.alloc ?_ _ | refine Mod.drew ?_ | refine Mod.drewN ?_ _))))).mono ?_)
          | (with_reducible refine (HF2.out _ (by (repeat' (with_reducible (first | exact Mod.refl _ _ | assumption | refine Mod.alloc ?_ _ | refine Mod.drew ?_ | refine Mod.drewN ?_ _))))).mono ?_)
          | (with_reducible refine (HF3.out _ (by (repeat' (with_reducible (first | exact Mod.refl _ _ | assumption | refine Mod.alloc ?_ _ | refine Mod.drew ?_ | refine Mod.drewN ?_ _))))).mono ?_))
         rintro e w1 ⟨rfl, hw1⟩
         subst w1)
      | (go_at_call 8
         (with_reducible refine (HKn.out _).mono ?_)
         rintro e w1 ⟨rfl, hmk⟩)
      | fail)
    refine bodyPost_ret (v := .bool true) (by simp [results, Tryz.results3, go_sem]) rfl ⟨rfl, hmk⟩
  cases z2
  · clear h1 h2 h3 hn1 hn2 hn3 hz1 hz2 hz3
    go_enter Tryz.func3, Tryz.ntmps3
    go_wp2_with (first
      | (go_at_call 7
         (first
          | (with_reducible refine (HF1.out _ (by (repeat' (with_reducible (first | exact Mod.refl _ _ | assumption | refine Mod.alloc ?_ _ | refine Mod.drew ?_ | refine Mod.drewN ?_ _))))).mono ?_)
          | (with_reducible refine (HF2.out _ (by (repeat' (with_reducible (first | exact Mod.refl _ _ | assumption | refine Mod.alloc ?_ _ | refine Mod.drew ?_ | refine Mod.drewN ?_ _))))).mono ?_)
          | (with_reducible refine (HF3.out _ (by (repeat' (with_reducible (first | exact Mod.refl _ _ | assumption | refine Mod.alloc ?_ _ | refine Mod.drew ?_ | refine Mod.drewN ?_ _))))).mono ?_))
         rintro e w1 ⟨rfl, hw1⟩
         subst w1)
      | (go_at_call 8
         (with_reducible refine (HKn.out _).mono ?_)
         rintro e w1 ⟨rfl, hmk⟩)
      | fail)
    refine bodyPost_ret (v := .bool true) (by simp [results, Tryz.results3, go_sem]) rfl ⟨rfl, hmk⟩
  cases z3
  · clear h1 h2 h3 hn1 hn2 hn3 hz1 hz2 hz3
    go_enter Tryz.func3, Tryz.ntmps3
    go_wp2_with (first
      | (go_at_call 7
         (first
          | (with_reducible refine (HF1.out _ (by (repeat' (with_reducible (first | exact Mod.refl _ _ | assumption | refine Mod.alloc ?_ _ | refine Mod.drew ?_ | refine Mod.drewN ?_ _))))).mono ?_)
          | (with_reducible refine (HF2.out _ (by (repeat' (with_reducible (first | exact Mod.refl _ _ | assumption | refine Mod.alloc ?_ _ | refine Mod.drew ?_ | refine Mod.drewN ?_ _))))).mono ?_)
          | (with_reducible refine (HF3.out _ (by (repeat' (with_reducible (first | exact Mod.refl _ _ | assumption | refine Mod.alloc ?_ _ | refine Mod.drew ?_ | refine Mod.drewN ?_ _))))).mono ?_))
         rintro e w1 ⟨rfl, hw1⟩
         subst w1)
      | (go_at_call 8
         (with_reducible refine (HKn.out _).mono ?_)
         rintro e w1 ⟨rfl, hmk⟩)
      | fail)
    refine bodyPost_ret (v := .bool true) (by simp [results, Tryz.results3, go_sem]) rfl ⟨rfl, hmk⟩
  obtain ⟨hl1, hs1⟩ := fewB_yes hz1.symm
  obtain ⟨hl2, hs2⟩ := fewB_yes hz2.symm
  obtain ⟨hl3, hs3⟩ := fewB_yes hz3.symm
  have hbg := fun X (hX : Mod (fun _ => False) w X) => begin_any A1 c1 _ xs1 X (h1.mod hX).rd (h1.mod hX).ok h1.len hs1 fun b hb => hb
  rw [← hn1] at hbg
  have HBg := Lib.hid hbg
  have H1 := Lib.hid h1
  have H2 := Lib.hid h2
  have H3 := Lib.hid h3
  have HN1 := Lib.hid hn1
  have HN2 := Lib.hid hn2
  have HN3 := Lib.hid hn3
  have HL1 := Lib.hid hl1
  have HL2 := Lib.hid hl2
  have HL3 := Lib.hid hl3
  have HS1 := Lib.hid hs1
  have HS2 := Lib.hid hs2
  have HS3 := Lib.hid hs3
  have hn2l : n2 ≤ 25 := by omega
  have hn3l : n3 ≤ 25 := by omega
  have hn1l : n1 ≤ 25 := by omega
  have M0 := Mod.refl (fun _ => False) w
  clear h1 h2 h3 hn1 hn2 hn3 hz1 hz2 hz3 hbg hl1 hl2 hl3 hs1 hs2 hs3
  go_enter Tryz.func3, Tryz.ntmps3
  go_upto_region 8 with (first
    | (go_at_call 7
       (first
        | (with_reducible refine (HF1.out _ (by (repeat' (with_reducible (first | exact Mod.refl _ _ | assumption | refine Mod.alloc ?_ _ | refine Mod.drew ?_ | refine Mod.drewN ?_ _))))).mono ?_)
        | (with_reducible refine (HF2.out _ (by (repeat' (with_reducible (first | exact Mod.refl _ _ | assumption | refine Mod.alloc ?_ _ | refine Mod.drew ?_ | refine Mod.drewN ?_ _))))).mono ?_)
        | (with_reducible refine (HF3.out _ (by (repeat' (with_reducible (first | exact Mod.refl _ _ | assumption | refine Mod.alloc ?_ _ | refine Mod.drew ?_ | refine Mod.drewN ?_ _))))).mono ?_))
       rintro e w1 ⟨rfl, hw1⟩
       subst w1)
    | (go_at_call 8
       (with_reducible refine (HKn.out _).mono ?_)
       rintro e w1 ⟨rfl, hmk⟩)
    | (go_at_call 9
       (with_reducible refine (HBg.out _ (by (repeat' (with_reducible (first | exact Mod.refl _ _ | assumption | refine Mod.alloc ?_ _ | refine Mod.drew ?_ | refine Mod.drewN ?_ _))))).mono ?_)
       rintro e w2 ⟨⟨p, m, q, rfl, F, ms, v, ys, hT, -, -, -, -, hp, hm, -, -, -⟩, hm2⟩
       have M2 : Mod (fun _ => False) w w2 := Mod.trans' (by (repeat' (with_reducible (first | exact Mod.refl _ _ | assumption | refine Mod.alloc ?_ _ | refine Mod.drew ?_ | refine Mod.drewN ?_ _)))) hm2
       have hpw := Nat.le_trans (Mod.size (show Mod (fun _ => False) w _ from by (repeat' (with_reducible (first | exact Mod.refl _ _ | assumption | refine Mod.alloc ?_ _ | refine Mod.drew ?_ | refine Mod.drewN ?_ _))))) hp
       have hmw := Nat.le_trans (Mod.size (show Mod (fun _ => False) w _ from by (repeat' (with_reducible (first | exact Mod.refl _ _ | assumption | refine Mod.alloc ?_ _ | refine Mod.drew ?_ | refine Mod.drewN ?_ _))))) hm
       have HCo := Lib.hid (tcopy_any F p m 47 _ ms w2 hT)
       have HT := Lib.hid hT
       have HPw := Lib.hid (And.intro hpw hmw)
       clear hT hp hm hm2 hpw hmw)
    | (go_at_call 10
       (with_reducible refine HCo.out.mono ?_)
       rintro e w3 ⟨rfl, hTo, hs3, hm3⟩
       have M3 : Mod (fun _ => False) w w3 := Mod.trans' (by (repeat' (with_reducible (first | exact Mod.refl _ _ | assumption | refine Mod.alloc ?_ _ | refine Mod.drew ?_ | refine Mod.drewN ?_ _)))) hm3
       have HTo := Lib.hid hTo
       have HTt := Lib.hid (HT.out.mod hm3 id id fun _ _ => id)
       have HSz := Lib.hid hs3
       have HMs := Lib.hid hm3.size
       clear hTo hs3 hm3)
    | fail)
  go_loopw [11] (fun i wr => ∃ k : Nat, k ≤ n2 ∧ i = .int .i64 (k : Int) ∧ (∃ F' ms', TabAt F' p m 47 wr (((xs2.take k).map AC.told).foldl actT (allT (xs1.map AC.told))) ms' ∧ ∀ b, F' b → b < w2.heap.size ∨ w2.heap.size + 2 ≤ b) ∧ Mod (fun b => b = m) w3 wr) (fun i _ => n2 - (intOf i).toNat)
  case atStart => exact ⟨0, Nat.zero_le _, rfl, ⟨F, ms, HTt.out, fun b hb => .inl (HT.out.off b hb).1⟩, Mod.refl _ _⟩
  case round =>
    obtain ⟨k, hk, rfl, ⟨F', ms', hT', hF'⟩, hmR⟩ := hrel
    have MR : Mod (fun _ => False) w wr := M3.trans hmR fun b hb => .inr (by rw [hb]; exact HPw.out.2)
    have NR := Mod.refl (fun _ => False) wr
    have HMR := Lib.hid hmR
    have HSw := Lib.hid (show w2.heap.size + 2 ≤ wr.heap.size by have h2 := hmR.size; have h3 := HSz.out; omega)
    clear hmR
    by_cases hkn : k < n2
    · have hkx : k < xs2.length := by rw [← HN2.out]; exact hkn
      obtain ⟨b, off, kc, ky, rA, rn, rcA, rB, rm, rcB, rfl, hval, hS⟩ := H2.out.cells hkx
      obtain ⟨x, hx⟩ : ∃ x, x = xs2[k] := ⟨_, rfl⟩
      have hxm : x ∈ xs2 := by rw [hx]; exact List.getElem_mem _
      rw [← hx] at hval hS
      obtain ⟨L, hL⟩ : ∃ L, L = ((xs2.take k).map AC.told).foldl actT (allT (xs1.map AC.told)) := ⟨_, rfl⟩
      have hsn : ((xs2.take (k + 1)).map AC.told).foldl actT (allT (xs1.map AC.told)) = actT L x.told := by rw [List.take_succ_eq_append_getElem hkx, List.map_append, List.foldl_append, ← hL, ← hx]; rfl
      rw [← hL] at hT'
      have hlat := fun X (hX : Mod (fun _ => False) wr X) => tlatP F' p m 47 L ms' x.c X (hT'.mod hX id id fun _ _ => id)
      have hput := fun X (hX : Mod (fun _ => False) wr X) => tput_any F' p m 47 L ms' x.c x.n x.r X (hT'.mod hX id id fun _ _ => id) (((H2.out.mod (MR.trans' hX)).ok x hxm).r) (HS2.out x hxm).fit (H2.out.ok x hxm).c (H2.out.ok x hxm).n
      have hri := rise4 hT'.tab x.told
      have hri : (latP x.c L).2 = false ∧ wantE x.told L = 0 ∨ (latP x.c L).2 = false ∧ wantE x.told L ≠ 0 ∧ (latP x.c (actT L x.told)).2 = false ∨ (latP x.c L).2 = true ∧ wantE x.told L = 0 ∧ (latP x.c (actT L x.told)).2 = true ∧ (latP x.c L).1 < (latP x.c (actT L x.told)).1 ∨
        (latP x.c L).2 = true ∧ wantE x.told L ≠ 0 ∧ (latP x.c (actT L x.told)).2 = true ∧ (latP x.c (actT L x.told)).1 = (latP x.c L).1 := hri
      have hput : ∀ X, Mod (fun _ => False) wr X → Calls Tryz.prog 12 #[.pointer (some ⟨p, 0, none⟩), .int .u64 (x.c : Int), .int .u64 (x.n : Int), x.r.val] X (PutEnds F' p m 47 L x.told X) := hput
      rw [hval] at hput
      obtain ⟨xc, hxc⟩ : ∃ a, a = x.c := ⟨_, rfl⟩
      obtain ⟨xn, hxn⟩ : ∃ a, a = x.n := ⟨_, rfl⟩
      obtain ⟨was, hwas⟩ : ∃ a, a = (latP x.c L).1 := ⟨_, rfl⟩
      obtain ⟨is, his⟩ : ∃ a, a = (latP x.c L).2 := ⟨_, rfl⟩
      obtain ⟨now, hnow⟩ : ∃ a, a = (latP x.c (actT L x.told)).1 := ⟨_, rfl⟩
      obtain ⟨there, hthere⟩ : ∃ a, a = (latP x.c (actT L x.told)).2 := ⟨_, rfl⟩
      obtain ⟨z, hz⟩ : ∃ a, a = wantE x.told L := ⟨_, rfl⟩
      have hlat2 := fun F'' ms'' X (h : TabAt F'' p m 47 X (actT L x.told) ms'') => tlatP F'' p m 47 (actT L x.told) ms'' x.c X h
      rw [← hwas, ← his] at hlat hri
      rw [← hnow, ← hthere] at hri hlat2
      rw [← hz] at hri
      rw [← hxc, ← hxn] at hput hS
      rw [← hxc] at hlat hlat2
      have HLat := Lib.hid hlat
      have HLat2 := Lib.hid hlat2
      have HPut := Lib.hid hput
      have HS := Lib.hid hS
      have HSn := Lib.hid hsn
      have HZ := Lib.hid hz
      have HF' := Lib.hid hF'
      have HRi := Lib.hid hri
      have HTw := Lib.hid hT'
      obtain ⟨a0, a1, a2, a3, a4, a5⟩ := HS.out _ MR
      clear hlat hlat2 hput hS hsn hz hF' hri hT' hx hxm hval hL hxc hxn hwas his hnow hthere
      go_upto_region 11 with (first
        | (go_at_call 11
           (with_reducible refine (HLat.out _ (by (repeat' (with_reducible (first | exact Mod.refl _ _ | assumption | refine Mod.alloc ?_ _ | refine Mod.drew ?_ | refine Mod.drewN ?_ _))))).mono ?_)
           rintro e w4 ⟨rfl, hm4⟩
           have M4 : Mod (fun _ => False) w w4 := Mod.trans' (by (repeat' (with_reducible (first | exact Mod.refl _ _ | assumption | refine Mod.alloc ?_ _ | refine Mod.drew ?_ | refine Mod.drewN ?_ _)))) hm4
           have N4 : Mod (fun _ => False) wr w4 := Mod.trans' (by (repeat' (with_reducible (first | exact Mod.refl _ _ | assumption | refine Mod.alloc ?_ _ | refine Mod.drew ?_ | refine Mod.drewN ?_ _)))) hm4
           clear hm4)
        | fail)
      go_region_held3 (fun X => X.cell? ⟨b, off + k * 6, none⟩ = some (.int .u64 (xc : Int)) ∧ X.cell? ⟨b, off + k * 6 + 1, none⟩ = some (.int .u64 (xn : Int)) ∧ X.cell? ⟨b, off + k * 6 + 2, none⟩ = some (.int .i64 kc) ∧ X.cell? ⟨b, off + k * 6 + 3, none⟩ = some (.bool ky) ∧ X.cell? ⟨b, off + k * 6 + 4, none⟩ = some (.slice rA rn rcA) ∧ X.cell? ⟨b, off + k * 6 + 5, none⟩ = some (.slice rB rm rcB)) (first | exact HS.out _ (by (repeat' (with_reducible (first | exact Mod.refl _ _ | assumption | refine Mod.alloc ?_ _ | refine Mod.drew ?_ | refine Mod.drewN ?_ _)))) | fail) (first
        | (go_at_call 12
           (with_reducible refine (HPut.out _ (by (repeat' (with_reducible (first | exact Mod.refl _ _ | assumption | refine Mod.alloc ?_ _ | refine Mod.drew ?_ | refine Mod.drewN ?_ _))))).mono ?_)
           rintro e w5 ⟨he, ⟨ms5, F5, hT5, hF5⟩, hm5⟩
           rw [← HZ.out] at he
           subst he
           have M5 : Mod (fun _ => False) w w5 := Mod.trans (by (repeat' (with_reducible (first | exact Mod.refl _ _ | assumption | refine Mod.alloc ?_ _ | refine Mod.drew ?_ | refine Mod.drewN ?_ _)))) hm5 (fun b hb => .inr (by rw [hb]; exact HPw.out.2))
           have N5 := Mod.refl (fun _ => False) w5
           have HMR5 := Lib.hid (HMR.out.trans (((show Mod (fun _ => False) wr _ from by (repeat' (with_reducible (first | exact Mod.refl _ _ | assumption | refine Mod.alloc ?_ _ | refine Mod.drew ?_ | refine Mod.drewN ?_ _)))).mono (C' := fun b => b = m) fun _ _ h => h.elim).trans hm5 fun b hb => .inl hb) fun b hb => .inl hb)
           have HT5 := Lib.hid hT5
           have HF5 := Lib.hid (fresh_le (by (repeat' (with_reducible (first | exact Mod.refl _ _ | assumption | refine Mod.alloc ?_ _ | refine Mod.drew ?_ | refine Mod.drewN ?_ _)))) hF5 HF'.out HSw.out)
           clear hT5 hF5 hm5)
        | fail)
      all_goals
        obtain ⟨a0, a1, a2, a3, a4, a5⟩ := HS.out _ M5
        go_upto_region 13 with (first
          | (go_at_call 11
             (with_reducible refine (HLat2.out _ _ _ (HT5.out.mod (show Mod (fun _ => False) w5 _ from by (repeat' (with_reducible (first | exact Mod.refl _ _ | assumption | refine Mod.alloc ?_ _ | refine Mod.drew ?_ | refine Mod.drewN ?_ _)))) id id fun _ _ => id)).mono ?_)
             rintro e w6 ⟨rfl, hm6⟩
             have M6 : Mod (fun _ => False) w w6 := Mod.trans' (by (repeat' (with_reducible (first | exact Mod.refl _ _ | assumption | refine Mod.alloc ?_ _ | refine Mod.drew ?_ | refine Mod.drewN ?_ _)))) hm6
             have N6 : Mod (fun _ => False) w5 w6 := Mod.trans' (by (repeat' (with_reducible (first | exact Mod.refl _ _ | assumption | refine Mod.alloc ?_ _ | refine Mod.drew ?_ | refine Mod.drewN ?_ _)))) hm6
             clear hm6)
          | fail)
        have HE6 := Lib.hid (show ∃ F' ms', TabAt F' p m 47 w6 (((xs2.take (k + 1)).map AC.told).foldl actT (allT (xs1.map AC.told))) ms' ∧ ∀ b, F' b → b < w2.heap.size ∨ w2.heap.size + 2 ≤ b from ⟨F5, ms5, by rw [HSn.out]; exact HT5.out.mod N6 id id fun _ _ => id, HF5.out⟩)
        have HM6 := Lib.hid (HMR5.out.trans (N6.mono (C' := fun b => b = m) fun _ _ h => h.elim) fun b hb => .inl hb)
        rcases HRi.out with ⟨hi, hz0⟩ | ⟨hi, hz0, ht⟩ | ⟨hi, hz0, ht, hlt⟩ | ⟨hi, hz0, ht, heq⟩
        · subst hi
          have q1 : decide (z = 0) = true := decide_eq_true hz0
          have q2 : decide ((z : Int) = 0) = true := decide_eq_true (by omega)
          go_wp2
          go_roundw
          case rel => exact ⟨k + 1, by omega, by go_num, HE6.out, HM6.out⟩
          case measure => simp only [intOf]; omega
        · subst hi
          subst ht
          have q1 : decide (z = 0) = false := decide_eq_false hz0
          have q2 : decide ((z : Int) = 0) = false := decide_eq_false (by omega)
          go_wp2
          go_roundw
          case rel => exact ⟨k + 1, by omega, by go_num, HE6.out, HM6.out⟩
          case measure => simp only [intOf]; omega
        · subst hi
          subst ht
          have q1 : decide (z = 0) = true := decide_eq_true hz0
          have q2 : decide ((z : Int) = 0) = true := decide_eq_true (by omega)
          have q3 : decide (now < was) = false := decide_eq_false (by omega)
          have q4 : decide (now ≤ was) = false := decide_eq_false (by omega)
          clear hlt
          go_wp2
          go_roundw
          case rel => exact ⟨k + 1, by omega, by go_num, HE6.out, HM6.out⟩
          case measure => simp only [intOf]; omega
        · subst hi
          subst ht
          have q1 : decide (z = 0) = false := decide_eq_false hz0
          have q2 : decide ((z : Int) = 0) = false := decide_eq_false (by omega)
          have q3 : decide (now < was) = false := decide_eq_false (by omega)
          clear heq
          go_wp2
          go_roundw
          case rel => exact ⟨k + 1, by omega, by go_num, HE6.out, HM6.out⟩
          case measure => simp only [intOf]; omega
    · obtain rfl : k = n2 := by omega
      have htk : xs2.take k = xs2 := by rw [HN2.out, List.take_length]
      rw [htk] at hT'
      have HTA := Lib.hid hT'
      have HFA := Lib.hid hF'
      have hTo := HTo.out.mod HMR.out (by have := HT.out.mlt; omega) (by have := HT.out.mlt; omega) fun b hb => (HT.out.off b hb).2.2
      have HToR := Lib.hid hTo
      have HWs := Lib.hid (Nat.le_trans HPw.out.2 (Nat.le_of_lt HT.out.mlt))
      clear hT' hF' hTo htk
      obtain ⟨W7, rfl⟩ : ∃ W7, W7 = wr := ⟨_, rfl⟩
      go_wp2
      go_loopw [17] (fun i wr2 => ∃ k : Nat, k ≤ n3 ∧ i = .int .i64 (k : Int) ∧ (∃ F2 ms2, TabAt F2 (w2.heap.size + 1) w2.heap.size 47 wr2 (((xs3.take k).map AC.told).foldl actT (allT (xs1.map AC.told))) ms2) ∧ Mod (fun b => b = w2.heap.size) W7 wr2) (fun i _ => n3 - (intOf i).toNat)
      case atStart => exact ⟨0, Nat.zero_le _, rfl, ⟨_, _, HToR.out⟩, Mod.refl _ _⟩
      case round =>
        obtain ⟨k, hk, rfl, ⟨F2, ms2, hT2⟩, hmR2⟩ := hrel
        have MQ : Mod (fun _ => False) w wr := MR.trans hmR2 fun b hb => .inr (by rw [hb]; exact HWs.out)
        have HMQ := Lib.hid hmR2
        clear hmR2
        by_cases hkn : k < n3
        · have hkx : k < xs3.length := by rw [← HN3.out]; exact hkn
          obtain ⟨b, off, kc, ky, rA, rn, rcA, rB, rm, rcB, rfl, hval, hS⟩ := H3.out.cells hkx
          obtain ⟨x, hx⟩ : ∃ x, x = xs3[k] := ⟨_, rfl⟩
          have hxm : x ∈ xs3 := by rw [hx]; exact List.getElem_mem _
          rw [← hx] at hval hS
          obtain ⟨L, hL⟩ : ∃ L, L = ((xs3.take k).map AC.told).foldl actT (allT (xs1.map AC.told)) := ⟨_, rfl⟩
          have hsn : ((xs3.take (k + 1)).map AC.told).foldl actT (allT (xs1.map AC.told)) = actT L x.told := by rw [List.take_succ_eq_append_getElem hkx, List.map_append, List.foldl_append, ← hL, ← hx]; rfl
          rw [← hL] at hT2
          have hput := fun X (hX : Mod (fun _ => False) wr X) => tput_any F2 _ _ 47 L ms2 x.c x.n x.r X (hT2.mod hX id id fun _ _ => id) (((H3.out.mod (MQ.trans' hX)).ok x hxm).r) (HS3.out x hxm).fit (H3.out.ok x hxm).c (H3.out.ok x hxm).n
          have hput : ∀ X, Mod (fun _ => False) wr X → Calls Tryz.prog 12 #[.pointer (some ⟨w2.heap.size + 1, 0, none⟩), .int .u64 (x.c : Int), .int .u64 (x.n : Int), x.r.val] X (PutEnds F2 (w2.heap.size + 1) w2.heap.size 47 L x.told X) := hput
          rw [hval] at hput
          obtain ⟨xc, hxc⟩ : ∃ a, a = x.c := ⟨_, rfl⟩
          obtain ⟨xn, hxn⟩ : ∃ a, a = x.n := ⟨_, rfl⟩
          rw [← hxc, ← hxn] at hput hS
          have HPut := Lib.hid hput
          have HS := Lib.hid hS
          have HSn := Lib.hid hsn
          have NQ := Mod.refl (fun _ => False) wr
          obtain ⟨a0, a1, a2, a3, a4, a5⟩ := HS.out _ MQ
          clear hput hS hsn hT2 hx hxm hval hL hxc hxn
          go_upto_region 18 with fail
          go_region_held3 (fun X => X.cell? ⟨b, off + k * 6, none⟩ = some (.int .u64 (xc : Int)) ∧ X.cell? ⟨b, off + k * 6 + 1, none⟩ = some (.int .u64 (xn : Int)) ∧ X.cell? ⟨b, off + k * 6 + 2, none⟩ = some (.int .i64 kc) ∧ X.cell? ⟨b, off + k * 6 + 3, none⟩ = some (.bool ky) ∧ X.cell? ⟨b, off + k * 6 + 4, none⟩ = some (.slice rA rn rcA) ∧ X.cell? ⟨b, off + k * 6 + 5, none⟩ = some (.slice rB rm rcB)) (first | exact HS.out _ (by (repeat' (with_reducible (first | exact Mod.refl _ _ | assumption | refine Mod.alloc ?_ _ | refine Mod.drew ?_ | refine Mod.drewN ?_ _)))) | fail) (first
            | (go_at_call 12
               (with_reducible refine (HPut.out _ (by (repeat' (with_reducible (first | exact Mod.refl _ _ | assumption | refine Mod.alloc ?_ _ | refine Mod.drew ?_ | refine Mod.drewN ?_ _))))).mono ?_)
               rintro e w5 ⟨rfl, ⟨ms5, F5, hT5, hF5⟩, hm5⟩
               have M5 : Mod (fun _ => False) w w5 := Mod.trans (by (repeat' (with_reducible (first | exact Mod.refl _ _ | assumption | refine Mod.alloc ?_ _ | refine Mod.drew ?_ | refine Mod.drewN ?_ _)))) hm5 (fun b hb => .inr (by rw [hb]; exact HWs.out))
               have HMQ5 := Lib.hid (HMQ.out.trans (((show Mod (fun _ => False) wr _ from by (repeat' (with_reducible (first | exact Mod.refl _ _ | assumption | refine Mod.alloc ?_ _ | refine Mod.drew ?_ | refine Mod.drewN ?_ _)))).mono (C' := fun b => b = w2.heap.size) fun _ _ h => h.elim).trans hm5 fun b hb => .inl hb) fun b hb => .inl hb)
               have HT5 := Lib.hid hT5
               clear hT5 hF5 hm5)
            | fail)
          all_goals
            go_wp2
            go_roundw
            case rel => exact ⟨k + 1, by omega, by go_num, ⟨F5, ms5, by rw [HSn.out]; exact HT5.out⟩, HMQ5.out⟩
            case measure => simp only [intOf]; omega
        · obtain rfl : k = n3 := by omega
          have htk : xs3.take k = xs3 := by rw [HN3.out, List.take_length]
          rw [htk] at hT2
          have HTB := Lib.hid hT2
          have hTA := HTA.out.mod HMQ.out (by have := HT.out.plt; omega) (by have := HT.out.mlt; omega) fun b hb h => by have := HFA.out b hb; omega
          have HTA' := Lib.hid hTA
          clear hT2 hTA htk
          have NR0 := Mod.refl (fun _ => False) wr
          go_upto_region 20 with (first
            | (at_builtin
               refine wpList_app (base := wr.heap.size) (xs := []) (ys := xs1) rfl (.const (.slice none 0 0)) (.tmp 143) rfl acts_t AC.cs_len AC.cs_one rfl (OwnS.nil _ _ _ _ _) c1 rfl HN1.out (H1.out.mod (MQ.trans' (show Mod (fun _ => False) wr _ from by (repeat' (with_reducible (first | exact Mod.refl _ _ | assumption | refine Mod.alloc ?_ _ | refine Mod.drew ?_ | refine Mod.drewN ?_ _)))))).rd ?_ ?_ (Mod.size (show Mod (fun _ => False) wr _ from by (repeat' (with_reducible (first | exact Mod.refl _ _ | assumption | refine Mod.alloc ?_ _ | refine Mod.drew ?_ | refine Mod.drewN ?_ _))))) ?_
               · rw [← HN1.out]; unfold maxLen; simp; omega
               · rw [← HN1.out]; simp; omega
               intro va1 wa1 ho hm _
               have N1a : Mod (fun _ => False) wr wa1 := Mod.trans (by (repeat' (with_reducible (first | exact Mod.refl _ _ | assumption | refine Mod.alloc ?_ _ | refine Mod.drew ?_ | refine Mod.drewN ?_ _)))) hm (fun b h => by cases h)
               have Q1a : Mod (fun _ => False) wr wa1 := Mod.trans (by (repeat' (with_reducible (first | exact Mod.refl _ _ | assumption | refine Mod.alloc ?_ _ | refine Mod.drew ?_ | refine Mod.drewN ?_ _)))) hm (fun b h => by cases h)
               obtain ⟨Aa1, ca1, na1, rfl⟩ := own_sl ho
               have HOa1 := Lib.hid ho
               clear ho hm)
            | (at_builtin
               refine wpList_app (base := wr.heap.size) (xs := [] ++ xs1) (ys := xs2) rfl (.tmp 144) (.tmp 145) rfl acts_t AC.cs_len AC.cs_one rfl HOa1.out c2 rfl HN2.out (H2.out.mod (MQ.trans' (show Mod (fun _ => False) wr _ from by (repeat' (with_reducible (first | exact Mod.refl _ _ | assumption | refine Mod.alloc ?_ _ | refine Mod.drew ?_ | refine Mod.drewN ?_ _)))))).rd ?_ ?_ (Mod.size (show Mod (fun _ => False) wr _ from by (repeat' (with_reducible (first | exact Mod.refl _ _ | assumption | refine Mod.alloc ?_ _ | refine Mod.drew ?_ | refine Mod.drewN ?_ _))))) ?_
               · rw [← HN2.out, List.nil_append, ← HN1.out]; unfold maxLen; omega
               · rw [← HN2.out, List.nil_append, ← HN1.out]; omega
               intro vb1 wb1 ho hm _
               have N1b : Mod (fun _ => False) wr wb1 := Mod.trans (by (repeat' (with_reducible (first | exact Mod.refl _ _ | assumption | refine Mod.alloc ?_ _ | refine Mod.drew ?_ | refine Mod.drewN ?_ _)))) hm (fun b h => .inr (by have h1 := (HOa1.out.fresh b h).1; have h2 := Nat.le_refl wr.heap.size; omega))
               have Q1b : Mod (fun _ => False) wr wb1 := Mod.trans (by (repeat' (with_reducible (first | exact Mod.refl _ _ | assumption | refine Mod.alloc ?_ _ | refine Mod.drew ?_ | refine Mod.drewN ?_ _)))) hm (fun b h => .inr (HOa1.out.fresh b h).1)
               rw [List.nil_append] at ho
               obtain ⟨Ab1, cb1, hvb, hrb, hfb, hlb⟩ := OwnS.rd ho AC.cs_len
               have hbgn := begin_any Ab1 cb1 (fun b => b < wb1.heap.size) (xs1 ++ xs2) wb1 (hrb.mono fun b hb => (hfb b hb).2) (fun x hx => (List.mem_append.1 hx).elim (fun h => (H1.out.mod (MQ.trans' N1b)).ok x h) fun h => (H2.out.mod (MQ.trans' N1b)).ok x h) hlb (fun x hx => (List.mem_append.1 hx).elim (HS1.out x) (HS2.out x)) fun b hb => hb
               obtain ⟨nb1, hnb⟩ : ∃ a, a = (xs1 ++ xs2).length := ⟨_, rfl⟩
               rw [← hnb] at hvb hbgn
               subst hvb
               have HBb1 := Lib.hid hbgn
               clear ho hm hrb hfb hlb hbgn hnb)
            | (go_at_call 9
               (with_reducible refine HBb1.out.mono ?_)
               rintro e wc1 ⟨⟨pc1, mc1, qc1, rfl, Fc1, msc1, vc1, ysc1, hT9, -⟩, hm9⟩
               have N1c : Mod (fun _ => False) wr wc1 := Mod.trans' (by (repeat' (with_reducible (first | exact Mod.refl _ _ | assumption | refine Mod.alloc ?_ _ | refine Mod.drew ?_ | refine Mod.drewN ?_ _)))) hm9
               have Q1c : Mod (fun _ => False) wr wc1 := Mod.trans' (by (repeat' (with_reducible (first | exact Mod.refl _ _ | assumption | refine Mod.alloc ?_ _ | refine Mod.drew ?_ | refine Mod.drewN ?_ _)))) hm9
               have R1 := Mod.refl (fun _ => False) wc1
               have HSz1 := N1c.size
               have HTc1 := Lib.hid hT9
               clear hT9 hm9)
            | fail)
          go_upto_region 21 with (first
            | (at_builtin
               refine wpList_app (base := wc1.heap.size) (xs := []) (ys := xs1) rfl (.const (.slice none 0 0)) (.tmp 152) rfl acts_t AC.cs_len AC.cs_one rfl (OwnS.nil _ _ _ _ _) c1 rfl HN1.out (H1.out.mod (MQ.trans' (show Mod (fun _ => False) wr _ from by (repeat' (with_reducible (first | exact Mod.refl _ _ | assumption | refine Mod.alloc ?_ _ | refine Mod.drew ?_ | refine Mod.drewN ?_ _)))))).rd ?_ ?_ (Mod.size (show Mod (fun _ => False) wc1 _ from by (repeat' (with_reducible (first | exact Mod.refl _ _ | assumption | refine Mod.alloc ?_ _ | refine Mod.drew ?_ | refine Mod.drewN ?_ _))))) ?_
               · rw [← HN1.out]; unfold maxLen; simp; omega
               · rw [← HN1.out]; simp; omega
               intro va2 wa2 ho hm _
               have N2a : Mod (fun _ => False) wr wa2 := Mod.trans (by (repeat' (with_reducible (first | exact Mod.refl _ _ | assumption | refine Mod.alloc ?_ _ | refine Mod.drew ?_ | refine Mod.drewN ?_ _)))) hm (fun b h => by cases h)
               have Q2a : Mod (fun _ => False) wc1 wa2 := Mod.trans (by (repeat' (with_reducible (first | exact Mod.refl _ _ | assumption | refine Mod.alloc ?_ _ | refine Mod.drew ?_ | refine Mod.drewN ?_ _)))) hm (fun b h => by cases h)
               obtain ⟨Aa2, ca2, na2, rfl⟩ := own_sl ho
               have HOa2 := Lib.hid ho
               clear ho hm)
            | (at_builtin
               refine wpList_app (base := wc1.heap.size) (xs := [] ++ xs1) (ys := xs3) rfl (.tmp 153) (.tmp 154) rfl acts_t AC.cs_len AC.cs_one rfl HOa2.out c3 rfl HN3.out (H3.out.mod (MQ.trans' (show Mod (fun _ => False) wr _ from by (repeat' (with_reducible (first | exact Mod.refl _ _ | assumption | refine Mod.alloc ?_ _ | refine Mod.drew ?_ | refine Mod.drewN ?_ _)))))).rd ?_ ?_ (Mod.size (show Mod (fun _ => False) wc1 _ from by (repeat' (with_reducible (first | exact Mod.refl _ _ | assumption | refine Mod.alloc ?_ _ | refine Mod.drew ?_ | refine Mod.drewN ?_ _))))) ?_
               · rw [← HN3.out, List.nil_append, ← HN1.out]; unfold maxLen; omega
               · rw [← HN3.out, List.nil_append, ← HN1.out]; omega
               intro vb2 wb2 ho hm _
               have N2b : Mod (fun _ => False) wr wb2 := Mod.trans (by (repeat' (with_reducible (first | exact Mod.refl _ _ | assumption | refine Mod.alloc ?_ _ | refine Mod.drew ?_ | refine Mod.drewN ?_ _)))) hm (fun b h => .inr (by have h1 := (HOa2.out.fresh b h).1; have h2 := HSz1; omega))
               have Q2b : Mod (fun _ => False) wc1 wb2 := Mod.trans (by (repeat' (with_reducible (first | exact Mod.refl _ _ | assumption | refine Mod.alloc ?_ _ | refine Mod.drew ?_ | refine Mod.drewN ?_ _)))) hm (fun b h => .inr (HOa2.out.fresh b h).1)
               rw [List.nil_append] at ho
               obtain ⟨Ab2, cb2, hvb, hrb, hfb, hlb⟩ := OwnS.rd ho AC.cs_len
               have hbgn := begin_any Ab2 cb2 (fun b => b < wb2.heap.size) (xs1 ++ xs3) wb2 (hrb.mono fun b hb => (hfb b hb).2) (fun x hx => (List.mem_append.1 hx).elim (fun h => (H1.out.mod (MQ.trans' N2b)).ok x h) fun h => (H3.out.mod (MQ.trans' N2b)).ok x h) hlb (fun x hx => (List.mem_append.1 hx).elim (HS1.out x) (HS3.out x)) fun b hb => hb
               obtain ⟨nb2, hnb⟩ : ∃ a, a = (xs1 ++ xs3).length := ⟨_, rfl⟩
               rw [← hnb] at hvb hbgn
               subst hvb
               have HBb2 := Lib.hid hbgn
               clear ho hm hrb hfb hlb hbgn hnb)
            | (go_at_call 9
               (with_reducible refine HBb2.out.mono ?_)
               rintro e wc2 ⟨⟨pc2, mc2, qc2, rfl, Fc2, msc2, vc2, ysc2, hT9, -⟩, hm9⟩
               have N2c : Mod (fun _ => False) wr wc2 := Mod.trans' (by (repeat' (with_reducible (first | exact Mod.refl _ _ | assumption | refine Mod.alloc ?_ _ | refine Mod.drew ?_ | refine Mod.drewN ?_ _)))) hm9
               have Q2c : Mod (fun _ => False) wc1 wc2 := Mod.trans' (by (repeat' (with_reducible (first | exact Mod.refl _ _ | assumption | refine Mod.alloc ?_ _ | refine Mod.drew ?_ | refine Mod.drewN ?_ _)))) hm9
               have R2 := Mod.refl (fun _ => False) wc2
               have HSz2 := N2c.size
               have HTc2 := Lib.hid hT9
               clear hT9 hm9)
            | fail)
          go_wp2_with (first
            | (go_at_call 13
               (with_reducible refine (ttsame_any _ _ _ _ _ _ _ _ _ _ _ _ _ (HTA'.out.mod (show Mod (fun _ => False) wr _ from by (repeat' (with_reducible (first | exact Mod.refl _ _ | assumption | refine Mod.alloc ?_ _ | refine Mod.drew ?_ | refine Mod.drewN ?_ _)))) id id fun _ _ => id) (HTc1.out.mod (show Mod (fun _ => False) wc1 _ from by (repeat' (with_reducible (first | exact Mod.refl _ _ | assumption | refine Mod.alloc ?_ _ | refine Mod.drew ?_ | refine Mod.drewN ?_ _)))) id id fun _ _ => id)).mono ?_)
               rintro e wd ⟨he, hm9⟩
               rw [decide_eq_true (allT_app xs1 xs2)] at he
               subst he
               have Nd : Mod (fun _ => False) wr wd := Mod.trans' (by (repeat' (with_reducible (first | exact Mod.refl _ _ | assumption | refine Mod.alloc ?_ _ | refine Mod.drew ?_ | refine Mod.drewN ?_ _)))) hm9
               have Qd : Mod (fun _ => False) wc1 wd := Mod.trans' (by (repeat' (with_reducible (first | exact Mod.refl _ _ | assumption | refine Mod.alloc ?_ _ | refine Mod.drew ?_ | refine Mod.drewN ?_ _)))) hm9
               have Rd : Mod (fun _ => False) wc2 wd := Mod.trans' (by (repeat' (with_reducible (first | exact Mod.refl _ _ | assumption | refine Mod.alloc ?_ _ | refine Mod.drew ?_ | refine Mod.drewN ?_ _)))) hm9
               clear hm9)
            | (go_at_call 13
               (with_reducible refine (ttsame_any _ _ _ _ _ _ _ _ _ _ _ _ _ (HTB.out.mod (show Mod (fun _ => False) wr _ from by (repeat' (with_reducible (first | exact Mod.refl _ _ | assumption | refine Mod.alloc ?_ _ | refine Mod.drew ?_ | refine Mod.drewN ?_ _)))) id id fun _ _ => id) (HTc2.out.mod (show Mod (fun _ => False) wc2 _ from by (repeat' (with_reducible (first | exact Mod.refl _ _ | assumption | refine Mod.alloc ?_ _ | refine Mod.drew ?_ | refine Mod.drewN ?_ _)))) id id fun _ _ => id)).mono ?_)
               rintro e we ⟨he, hm9⟩
               rw [decide_eq_true (allT_app xs1 xs3)] at he
               subst he
               have Ne : Mod (fun _ => False) wr we := Mod.trans' (by (repeat' (with_reducible (first | exact Mod.refl _ _ | assumption | refine Mod.alloc ?_ _ | refine Mod.drew ?_ | refine Mod.drewN ?_ _)))) hm9
               clear hm9)
            | (go_at_call 8
               (with_reducible refine (HKn.out _).mono ?_)
               rintro e wf ⟨rfl, hmk⟩
               have Nf : Mod (fun _ => False) wr wf := Mod.trans' (by (repeat' (with_reducible (first | exact Mod.refl _ _ | assumption | refine Mod.alloc ?_ _ | refine Mod.drew ?_ | refine Mod.drewN ?_ _)))) hmk)
            | fail)
          refine bodyPost_ret (v := .bool true) (by simp [results, Tryz.results3, go_sem]) rfl ⟨rfl, MQ.trans' Nf⟩
end Go.Proofs.YtmalclclopnlnaaGreat
/-
  What comes in, read as values: slices of structs.
-/
namespace Go.Proofs.YtmalclclopnlnaaGreat
open Go.ChangeShapes Go.WideShapes Go.Deep Go.Joins Go.RowKit

theorem exists_list {α : Type} (Φ : Nat → α → Prop) : ∀ n, (∀ i, i < n → ∃ e, Φ i e) → ∃ xs : List α, xs.length = n ∧ ∀ i (h : i < xs.length), Φ i xs[i]
  | 0, _ => ⟨[], rfl, fun i h => by simp at h⟩
  | n + 1, h => by
    obtain ⟨xs, hl, hx⟩ := exists_list Φ n (fun i hi => h i (by omega))
    obtain ⟨e, he⟩ := h n (by omega)
    refine ⟨xs ++ [e], by simp [hl], fun i hi => ?_⟩
    by_cases hi' : i < xs.length
    · rw [List.getElem_append_left hi']; exact hx i hi'
    · have : i = n := by simp at hi; omega
      subst this
      rw [List.getElem_append_right (by omega)]
      simpa using he

section
variable {H : Type} {enc : TypeId × Value → H} {P : Program} {w : World} {base : Nat} {spare : Nat → Bool} {held : Bool}
theorem open_slice_fields {t e : TypeId} {fs : Array Field} {fuel : Nat} {cs : List Value} {x : DataW H × List MemPlace} (ht : P.underlying t = some (.slice e)) (he : P.underlying e = some (.struct fs))
    (hone : oneCellFields P fs = true) (hC : P.cellsOf e = fs.size) (h : DataW.trod enc P w base spare held fuel t cs = some x) :
    (cs = [.slice none 0 0]) ∨
    ∃ (a : Addr) (len cap : Nat), cs = [.slice (some a) len cap] ∧ len ≤ cap ∧ cap ≤ maxLen ∧
      ∀ i, i < len → ∀ (j : Nat) (f : Field), fs[j]? = some f → ∃ (v : Value) (y : DataW H × List MemPlace) (n : Nat), w.cell? (a.add (i * fs.size + j)) = some v ∧ DataW.trod enc P w base spare held n f.type [v] = some y := by
  rcases open_slice ht h with h0 | ⟨a, len, cap, m, n, D, Pl, hcs, hb, hl, hm, hmm, hx, hi⟩
  · exact .inl h0.1
  · refine .inr ⟨a, len, cap, hcs, hl, hm, fun i him j f hj => ?_⟩
    have hlm : len ≤ m := by rw [hmm]; split <;> omega
    obtain ⟨cs', hc, ht'⟩ := hi i (by omega)
    rw [hC] at hc
    obtain ⟨ys, n', hn', hy, hlen, hyl, hf⟩ := DataW.trod_struct he ht'
    obtain ⟨_, hcl, hat⟩ := World.cells?_some hc
    obtain ⟨ho, hk⟩ := hone_of hone j f hj
    have hjl : j < fs.size := (Array.getElem?_eq_some_iff.1 hj).1
    have hcell := hat j hjl
    have hv : cs'[j]? = some (cs'[j]'(by omega)) := List.getElem?_eq_getElem (by omega)
    have h1 := hf j f hj
    rw [ho, hk] at h1
    have hone' : (cs'.drop j).take 1 = [cs'[j]'(by omega)] := by
      rw [List.drop_eq_getElem_cons (by omega)]
      rfl
    rw [hone'] at h1
    have hys : ys[j]? = some (ys[j]'(by omega)) := List.getElem?_eq_getElem (by omega)
    refine ⟨_, _, n', ?_, h1.trans hys⟩
    rw [← Go.Deep.add_add, hcell, hv]
end

theorem wf_i32 {n : Int} (h : (Lit.int .i32 n).wf = true) : -2147483648 ≤ n ∧ n ≤ 2147483647 := by
  simp [Lit.wf, IntKind.min, IntKind.max, IntKind.signed, IntKind.bits] at h; omega
theorem wf_i64 {n : Int} (h : (Lit.int .i64 n).wf = true) : -9223372036854775808 ≤ n ∧ n ≤ 9223372036854775807 := by
  simp [Lit.wf, IntKind.min, IntKind.max, IntKind.signed, IntKind.bits] at h; omega
end Go.Proofs.YtmalclclopnlnaaGreat
