/-
  Texts of this claim, one behind the other: CliH, Held, CliI.
-/
import Derived.Test.YtmalclclopnlnaaGreatPk05
import Derived.Test.YtmalclclopnlnaaGreatPk32
import Derived.Deep.RegionHeld
/-
  The package clients: a number taken off bytes.
-/
namespace Go.Proofs.YtmalclclopnlnaaGreat
open Go.RowKit Go.Shelf
attribute [local go_sem] Oper.semAt_some

/-- A block holds a slice of bytes. -/
def BufAt (D : Nat → Prop) (z : Nat) (w : World) (s : Bs) : Prop := ∃ A c, w.heap[z]? = some (.cells #[.slice A s.length c] 35 (0, 0)) ∧ Rd D w 1 csU A s ∧ s.length ≤ c
theorem BufAt.mod {D C : Nat → Prop} {z : Nat} {w w' : World} {s : Bs} (h : BufAt D z w s) (hm : Mod C w w') (hz : ¬ C z) (hD : ∀ b, D b → b < w.heap.size ∧ ¬ C b) : BufAt D z w' s := by
  obtain ⟨A, c, h1, h2, h3⟩ := h
  exact ⟨A, c, hp_mod h1 hm hz, h2.mod hm hD, h3⟩
/-- The same, where there is a block behind it. -/
def BufS (D : Nat → Prop) (z : Nat) (w : World) (s : Bs) : Prop := ∃ b o c, w.heap[z]? = some (.cells #[.slice (some ⟨b, o, none⟩) s.length c] 35 (0, 0)) ∧ Rd D w 1 csU (some ⟨b, o, none⟩) s ∧ s.length ≤ c
theorem BufS.at_ {D : Nat → Prop} {z : Nat} {w : World} {s : Bs} (h : BufS D z w s) : BufAt D z w s := by
  obtain ⟨b, o, c, h⟩ := h
  exact ⟨_, c, h⟩
theorem BufS.mod {D C : Nat → Prop} {z : Nat} {w w' : World} {s : Bs} (h : BufS D z w s) (hm : Mod C w w') (hz : ¬ C z) (hD : ∀ b, D b → b < w.heap.size ∧ ¬ C b) : BufS D z w' s := by
  obtain ⟨b, o, c, h1, h2, h3⟩ := h
  exact ⟨b, o, c, hp_mod h1 hm hz, h2.mod hm hD, h3⟩
def TkEnds (D : Nat → Prop) (z : Nat) (o : Option (Nat × Bs)) (w : World) (e : Ending) (w' : World) : Prop :=
  match o with
  | none => e = .returned (.tuple #[.int .u64 0, .bool false]) ∧ w = w'
  | some (n, s') => e = .returned (.tuple #[.int .u64 (n : Int), .bool true]) ∧ BufS D z w' s' ∧ Mod (fun b => b = z) w w'
set_option maxRecDepth 100000 in
set_option maxHeartbeats 2000000 in
theorem ttake_any (K : Nat) (hK : K = 4 ∨ K = 8) (D : Nat → Prop) (z : Nat) (s : Bs) (w : World) (h : BufAt D z w s) (hz : ∀ b, D b → b ≠ z ∧ b < w.heap.size) (hs : s.length ≤ 1099511627776) :
    Calls Tryz.prog 38 #[.pointer (some ⟨z, 0, none⟩), .int .i64 (K : Int)] w (TkEnds D z (takeN K s) w) := by
  obtain ⟨A, c, h1, h2, h3⟩ := h
  have x0 : w.cell? ⟨z, 0, none⟩ = some (.slice A s.length c) := by rw [hp_cell h1]; rfl
  rcases hK with rfl | rfl
  · show Calls Tryz.prog 38 #[.pointer (some ⟨z, 0, none⟩), .int .i64 4] w _
    by_cases hlt : s.length < 4
    · have ht : takeN 4 s = none := by unfold takeN; rw [if_pos hlt]
      rw [ht]
      obtain ⟨n, hn⟩ : ∃ n, n = s.length := ⟨_, rfl⟩
      rw [← hn] at x0 hlt
      have i1 : decide ((n : Int) < 4) = true := decide_eq_true (by omega)
      clear h1 h2 hn ht
      go_enter Tryz.func38, Tryz.ntmps38
      go_wp2
      refine bodyPost_ret (v := .tuple #[.int .u64 0, .bool false]) (by simp [results, Tryz.results38, go_sem]) rfl ⟨rfl, rfl⟩
    · have ht : takeN 4 s = some (beN (s.take 4), s.drop 4) := by unfold takeN; rw [if_neg hlt]
      rw [ht]
      obtain ⟨b0, o0, rfl, hb0, -⟩ := h2 (by omega)
      have HR := Lib.hid h2
      have H1 := Lib.hid h1
      obtain ⟨n, hn⟩ : ∃ n, n = s.length := ⟨_, rfl⟩
      rw [← hn] at x0 hlt h3
      have HN := Lib.hid hn
      have i1 : decide ((n : Int) < 4) = false := decide_eq_false (by omega)
      have hc4 : 4 ≤ c := by omega
      have f0 : w.frozen? ⟨z, 0, none⟩ = false := hp_free h1 0
      clear h1 h2 hn ht
      go_enter Tryz.func38, Tryz.ntmps38
      go_wp2
      go_loopw [4, 20] (fun v i wr => ∃ k : Nat, v = .int .u64 (beN (s.take k) : Nat) ∧ i = .int .i64 (k : Int) ∧ k ≤ 4 ∧ wr = w) (fun _ i _ => 4 - (intOf i).toNat)
      case atStart => exact ⟨0, rfl, rfl, by omega, rfl⟩
      case round =>
        obtain ⟨k, rfl, rfl, hk, rfl⟩ := hrel
        by_cases hk8 : k = 4
        · subst hk8
          have hdl : (s.drop 4).length = n - 4 := by rw [List.length_drop, ← HN.out]
          have HDl := Lib.hid hdl
          obtain ⟨bb, hbb⟩ : ∃ bb, bb = beN (s.take 4) := ⟨_, rfl⟩
          rw [← hbb]
          have HBb := Lib.hid hbb
          clear hdl hk hbb
          by_cases hcc : c = 4
          · obtain rfl : n = 4 := by omega
            subst hcc
            clear hlt
            go_wp2
            refine bodyPost_ret (v := .tuple #[.int .u64 (bb : Int), .bool true]) (by simp [results, Tryz.results38, go_sem]) rfl ⟨by rw [HBb.out], ⟨_, _, _, hp_eq (hp_set H1.out 0 _) (by rw [HDl.out]; rfl), ?_, ?_⟩, by (repeat' (first | exact Mod.refl _ _ | assumption | refine Mod.alloc ?_ _ | refine Mod.drew ?_ | refine Mod.drewN ?_ _ | refine Mod.setCell ?_ (by first | exact Or.inl rfl | (right; simp; done) | (right; simp; omega) | (left; simp; done)) _))⟩
            · rw [List.eq_nil_of_length_eq_zero (HDl.out.trans (Nat.sub_self _))]; exact Rd.nil _ _ _ _ _
            · rw [HDl.out]; omega
          · have hm5 : Mod (fun b => b = z) wr (wr.setCell ⟨z, 0, none⟩ (.slice (some ⟨b0, o0 + 4, none⟩) (n - 4) (c - 4))) := by (repeat' (first | exact Mod.refl _ _ | assumption | refine Mod.alloc ?_ _ | refine Mod.drew ?_ | refine Mod.drewN ?_ _ | refine Mod.setCell ?_ (by first | exact Or.inl rfl | (right; simp; done) | (right; simp; omega) | (left; simp; done)) _))
            have HM5 := Lib.hid hm5
            have HZ := Lib.hid (fun b hb => hz b hb)
            clear hm5
            go_wp2
            refine bodyPost_ret (v := .tuple #[.int .u64 (bb : Int), .bool true]) (by simp [results, Tryz.results38, go_sem]) rfl ⟨by rw [HBb.out], ⟨_, _, _, hp_eq (hp_set H1.out 0 _) (by rw [HDl.out]; rfl), ?_, ?_⟩, by (repeat' (first | exact Mod.refl _ _ | assumption | refine Mod.alloc ?_ _ | refine Mod.drew ?_ | refine Mod.drewN ?_ _ | refine Mod.setCell ?_ (by first | exact Or.inl rfl | (right; simp; done) | (right; simp; omega) | (left; simp; done)) _))⟩
            · have h5 := (rd_drop HR.out (j := 4) (by rw [← HN.out]; omega)).mod HM5.out fun b hb => ⟨(HZ.out b hb).2, (HZ.out b hb).1⟩
              rw [Nat.mul_one] at h5
              exact h5
            · rw [HDl.out]; omega
        · obtain ⟨q, off, hq, -, hu⟩ := rdU (k := k) HR.out (by rw [← HN.out]; omega)
          injection hq with hq
          injection hq with hq1 hq2
          subst hq1 hq2
          have hl : decide ((k : Int) < 4) = true := by rw [decide_eq_true_eq]; omega
          have hk7 : k < 4 := by omega
          obtain ⟨c1, hc⟩ : ∃ c1, c1 = s[k]'(by rw [← HN.out]; omega) := ⟨_, rfl⟩
          rw [← hc] at hu
          have HC := Lib.hid hc
          have HE := Lib.hid (show beN (s.take (k + 1)) = 256 * beN (s.take k) + c1.toNat by rw [List.take_succ_eq_append_getElem (by rw [← HN.out]; omega), beN_snoc, HC.out])
          obtain ⟨m, hm⟩ : ∃ m, m = beN (s.take k) := ⟨_, rfl⟩
          rw [← hm] at HE ⊢
          clear hc hm
          have hlt2 : beN (s.take (k + 1)) < 18446744073709551616 := by
            have h1 := beN_lt (s.take (k + 1))
            have h2 : 256 ^ (s.take (k + 1)).length ≤ 256 ^ 8 := Nat.pow_le_pow_right (by decide) (by rw [List.length_take]; omega)
            omega
          rw [HE.out] at hlt2
          have HLt2 := Lib.hid hlt2
          clear hlt2
          go_wp2
          refine ⟨⟨k + 1, ?_, rfl, by omega, trivial⟩, ?_⟩
          · rw [u64_shl_or m c1.toNat c1.toNat_lt HLt2.out, HE.out]
          · show 4 - ((k : Int) + 1).toNat < 4 - (k : Int).toNat
            omega
  · show Calls Tryz.prog 38 #[.pointer (some ⟨z, 0, none⟩), .int .i64 8] w _
    by_cases hlt : s.length < 8
    · have ht : takeN 8 s = none := by unfold takeN; rw [if_pos hlt]
      rw [ht]
      obtain ⟨n, hn⟩ : ∃ n, n = s.length := ⟨_, rfl⟩
      rw [← hn] at x0 hlt
      have i1 : decide ((n : Int) < 8) = true := decide_eq_true (by omega)
      clear h1 h2 hn ht
      go_enter Tryz.func38, Tryz.ntmps38
      go_wp2
      refine bodyPost_ret (v := .tuple #[.int .u64 0, .bool false]) (by simp [results, Tryz.results38, go_sem]) rfl ⟨rfl, rfl⟩
    · have ht : takeN 8 s = some (beN (s.take 8), s.drop 8) := by unfold takeN; rw [if_neg hlt]
      rw [ht]
      obtain ⟨b0, o0, rfl, hb0, -⟩ := h2 (by omega)
      have HR := Lib.hid h2
      have H1 := Lib.hid h1
      obtain ⟨n, hn⟩ : ∃ n, n = s.length := ⟨_, rfl⟩
      rw [← hn] at x0 hlt h3
      have HN := Lib.hid hn
      have i1 : decide ((n : Int) < 8) = false := decide_eq_false (by omega)
      have hc4 : 8 ≤ c := by omega
      have f0 : w.frozen? ⟨z, 0, none⟩ = false := hp_free h1 0
      clear h1 h2 hn ht
      go_enter Tryz.func38, Tryz.ntmps38
      go_wp2
      go_loopw [4, 20] (fun v i wr => ∃ k : Nat, v = .int .u64 (beN (s.take k) : Nat) ∧ i = .int .i64 (k : Int) ∧ k ≤ 8 ∧ wr = w) (fun _ i _ => 8 - (intOf i).toNat)
      case atStart => exact ⟨0, rfl, rfl, by omega, rfl⟩
      case round =>
        obtain ⟨k, rfl, rfl, hk, rfl⟩ := hrel
        by_cases hk8 : k = 8
        · subst hk8
          have hdl : (s.drop 8).length = n - 8 := by rw [List.length_drop, ← HN.out]
          have HDl := Lib.hid hdl
          obtain ⟨bb, hbb⟩ : ∃ bb, bb = beN (s.take 8) := ⟨_, rfl⟩
          rw [← hbb]
          have HBb := Lib.hid hbb
          clear hdl hk hbb
          by_cases hcc : c = 8
          · obtain rfl : n = 8 := by omega
            subst hcc
            clear hlt
            go_wp2
            refine bodyPost_ret (v := .tuple #[.int .u64 (bb : Int), .bool true]) (by simp [results, Tryz.results38, go_sem]) rfl ⟨by rw [HBb.out], ⟨_, _, _, hp_eq (hp_set H1.out 0 _) (by rw [HDl.out]; rfl), ?_, ?_⟩, by (repeat' (first | exact Mod.refl _ _ | assumption | refine Mod.alloc ?_ _ | refine Mod.drew ?_ | refine Mod.drewN ?_ _ | refine Mod.setCell ?_ (by first | exact Or.inl rfl | (right; simp; done) | (right; simp; omega) | (left; simp; done)) _))⟩
            · rw [List.eq_nil_of_length_eq_zero (HDl.out.trans (Nat.sub_self _))]; exact Rd.nil _ _ _ _ _
            · rw [HDl.out]; omega
          · have hm5 : Mod (fun b => b = z) wr (wr.setCell ⟨z, 0, none⟩ (.slice (some ⟨b0, o0 + 8, none⟩) (n - 8) (c - 8))) := by (repeat' (first | exact Mod.refl _ _ | assumption | refine Mod.alloc ?_ _ | refine Mod.drew ?_ | refine Mod.drewN ?_ _ | refine Mod.setCell ?_ (by first | exact Or.inl rfl | (right; simp; done) | (right; simp; omega) | (left; simp; done)) _))
            have HM5 := Lib.hid hm5
            have HZ := Lib.hid (fun b hb => hz b hb)
            clear hm5
            go_wp2
            refine bodyPost_ret (v := .tuple #[.int .u64 (bb : Int), .bool true]) (by simp [results, Tryz.results38, go_sem]) rfl ⟨by rw [HBb.out], ⟨_, _, _, hp_eq (hp_set H1.out 0 _) (by rw [HDl.out]; rfl), ?_, ?_⟩, by (repeat' (first | exact Mod.refl _ _ | assumption | refine Mod.alloc ?_ _ | refine Mod.drew ?_ | refine Mod.drewN ?_ _ | refine Mod.setCell ?_ (by first | exact Or.inl rfl | (right; simp; done) | (right; simp; omega) | (left; simp; done)) _))⟩
            · have h5 := (rd_drop HR.out (j := 8) (by rw [← HN.out]; omega)).mod HM5.out fun b hb => ⟨(HZ.out b hb).2, (HZ.out b hb).1⟩
              rw [Nat.mul_one] at h5
              exact h5
            · rw [HDl.out]; omega
        · obtain ⟨q, off, hq, -, hu⟩ := rdU (k := k) HR.out (by rw [← HN.out]; omega)
          injection hq with hq
          injection hq with hq1 hq2
          subst hq1 hq2
          have hl : decide ((k : Int) < 8) = true := by rw [decide_eq_true_eq]; omega
          have hk7 : k < 8 := by omega
          obtain ⟨c1, hc⟩ : ∃ c1, c1 = s[k]'(by rw [← HN.out]; omega) := ⟨_, rfl⟩
          rw [← hc] at hu
          have HC := Lib.hid hc
          have HE := Lib.hid (show beN (s.take (k + 1)) = 256 * beN (s.take k) + c1.toNat by rw [List.take_succ_eq_append_getElem (by rw [← HN.out]; omega), beN_snoc, HC.out])
          obtain ⟨m, hm⟩ : ∃ m, m = beN (s.take k) := ⟨_, rfl⟩
          rw [← hm] at HE ⊢
          clear hc hm
          have hlt2 : beN (s.take (k + 1)) < 18446744073709551616 := by
            have h1 := beN_lt (s.take (k + 1))
            have h2 : 256 ^ (s.take (k + 1)).length ≤ 256 ^ 8 := Nat.pow_le_pow_right (by decide) (by rw [List.length_take]; omega)
            omega
          rw [HE.out] at hlt2
          have HLt2 := Lib.hid hlt2
          clear hlt2
          go_wp2
          refine ⟨⟨k + 1, ?_, rfl, by omega, trivial⟩, ?_⟩
          · rw [u64_shl_or m c1.toNat c1.toNat_lt HLt2.out, HE.out]
          · show 8 - ((k : Int) + 1).toNat < 8 - (k : Int).toNat
            omega
end Go.Proofs.YtmalclclopnlnaaGreat
/-
  A drawn region in a round of a range over a function, walked under a condition that each operation keeps (loads are taken first).
-/
namespace Go.Proofs.YtmalclclopnlnaaGreat
open Go.RowKit

/-- Q, but nothing where a machine grew out of its memory. -/
def NoOut (Q : Exit → Act → World → Prop) : Exit → Act → World → Prop
  | .outgrown, _, _ => False
  | e, a, w => Q e a w
theorem NoOut.imp {Q : Exit → Act → World → Prop} : ∀ (e : Exit) (a : Act) (w : World), NoOut Q e a w → Q e a w := fun e a w h => by
  cases e <;> first | exact h | exact (h : False).elim
theorem NoOut.normal {Q : Exit → Act → World → Prop} {a : Act} {w : World} (h : Q .normal a w) : NoOut Q .normal a w := h
theorem noLet {Q : Exit → Act → World → Prop} : ¬ LetsOut (NoOut Q) := fun ⟨_, _, h⟩ => h
section
variable {n : Nat} {P : Program} {ops : Array Oper} {md : Region.Mode} {Q : Exit → Act → World → Prop}
theorem rows_wide {row : String} {args : Array Value} {w : World} {R : Value → World → Prop} (h : Rows P row args w R) : RowsIn Fence.wide n P row args w R := fun c cs _ => by
  obtain ⟨v, w', r, s⟩ := h c cs
  exact ⟨v, w', r, stepsIn_wide.2 s⟩
theorem upon_wide {o : Oper} {a : Act} {K : Act → World → Prop} (hQ : ¬ LetsOut Q) (r : Result Next) (h : o.upon P a K Q r) : o.uponIn Fence.wide n P a K Q r := by
  cases r with
  | ok x w =>
    cases x
    case value => exact h
    case skip => exact h
    case defer => exact h
    case enter f args => exact ⟨fun hf => by simp [Fence.wide] at hf, callsIn_wide.2 h⟩
    case row => exact ⟨fun hf => by simp [Fence.wide] at hf, rows_wide h⟩
    all_goals exact (h : False).elim
  | halt x w => cases x <;> first | exact h | exact (h : False).elim
theorem oper_wide {o : Oper} {a : Act} {w : World} {K : Act → World → Prop} (hQ : ¬ LetsOut Q) (h : o.wp P a w K Q) : o.wpIn Fence.wide n P a w K Q := by
  unfold Oper.wp at h
  unfold Oper.wpIn
  refine ⟨fun _ _ => trivial, ?_⟩
  rw [show Fence.wide.round = none from rfl, Oper.semAt_none]
  exact upon_wide hQ _ h
theorem any_wide (hQ : ¬ LetsOut Q) : ∀ (fuel : Nat) (listed : Array Bool) (a : Act) (w : World), wpAny P md ops Q fuel listed a w → wpAnyIn Fence.wide n P md ops Q fuel listed a w
  | 0, _, _, _, h => h
  | fuel + 1, _, _, _, h => ⟨h.1, fun i hi => by
    have h1 := h.2 i hi
    unfold wpOp at h1
    unfold wpOpIn
    split
    · rename_i ho
      simp only [ho] at h1
      exact any_wide hQ fuel _ _ _ h1
    · rename_i o ho
      simp only [ho] at h1
      split
      · rename_i hw
        rw [if_pos hw] at h1
        rcases h1 with h1 | ⟨-, h1⟩
        · exact oper_wide hQ (Oper.wp_mono (fun a' w' h' => any_wide hQ fuel _ a' w' h') h1)
        · exact absurd h1 hQ
      · rename_i hw
        rw [if_neg hw] at h1
        exact ⟨fun _ _ => trivial, any_wide hQ fuel _ _ _ h1⟩⟩
/-- In a round. -/
theorem round_held {l id : Nat} {S : World → Prop} {a : Act} {w : World} {L : List Oper} (hm : P.follows .mixedOrders = true) (hd : L.all notDefer = true) (hS : S w.drew)
    (h : S w.drew → wpAnyH P .any L.toArray (NoOut Q) S L.toArray.size (Array.replicate L.toArray.size false) a w.drew) : (Code.region id L.toArray true).wpIn (Fence.wide.inRound l) n P Q a w :=
  Code.wpIn_mono NoOut.imp (wpIn_region_any hm (any_round rfl (all_notDefer hd) _ _ _ _ (any_wide noLet _ _ _ _ (wpAny_of_held _ _ _ _ (h hS)))))
/-- In the wide fence. -/
theorem wide_held {id : Nat} {S : World → Prop} {a : Act} {w : World} {L : List Oper} (hm : P.follows .mixedOrders = true) (hS : S w.drew)
    (h : S w.drew → wpAnyH P .any L.toArray (NoOut Q) S L.toArray.size (Array.replicate L.toArray.size false) a w.drew) : (Code.region id L.toArray true).wpIn Fence.wide n P Q a w :=
  Code.wpIn_mono NoOut.imp (wpIn_region_any hm (any_wide noLet _ _ _ _ (wpAny_of_held _ _ _ _ (h hS))))
end
end Go.Proofs.YtmalclclopnlnaaGreat
/-
  The package clients: a table's bytes.
-/
namespace Go.Proofs.YtmalclclopnlnaaGreat
open Go.RowKit Go.Shelf
attribute [local go_sem] Oper.semAt_some

theorem rowsV_take {L : List Told} {k : Nat} {x : Told} (hx : L[k]? = some x) : rowsV (L.take (k + 1)) = rowsV (L.take k) ++ rowV x := by
  obtain ⟨hk, hx⟩ := List.getElem?_eq_some_iff.1 hx
  unfold rowsV
  rw [List.take_succ_eq_append_getElem hk, List.flatMap_append, hx]
  simp
theorem rowV_len {x : Told} (hm : mayR x.r = true) : (rowV x).length ≤ 4200020 := by
  have := resV_len hm
  unfold rowV
  simp only [List.length_append, be_len]
  omega
theorem rowsV_len : ∀ {L : List Told}, (∀ x ∈ L, mayR x.r = true) → (rowsV L).length ≤ 4200020 * L.length
  | [], _ => by simp [rowsV]
  | x :: L, h => by
    have h1 := rowV_len (h x (by simp))
    have h2 := rowsV_len (L := L) fun y hy => h y (List.mem_cons_of_mem _ hy)
    have : rowsV (x :: L) = rowV x ++ rowsV L := rfl
    rw [this, List.length_append, List.length_cons]
    omega
/-- What is laid behind k clients: the bytes in a block of their own, the slice in the box zb. -/
def byI (base zb : Nat) (L : List Told) (k : Nat) (C : Nat → Prop) (W : World) : Prop :=
  ∃ A c m, W.heap[zb]? = some (.cells #[.slice A m c] 35 (0, 0)) ∧ m = (be 4 L.length ++ rowsV (L.take k)).length ∧ OwnS base 5 1 csU W (.slice A m c) (be 4 L.length ++ rowsV (L.take k)) ∧ (Value.slice A m c).ownBlock ≠ some zb ∧ C = fun b => b = zb ∨ (Value.slice A m c).ownBlock = some b
theorem byI_stab (base zb : Nat) (L : List Told) : Stab (byI base zb L) := fun k C X Y ⟨A, c, m, h1, h2, h3, h4, h5⟩ hA => ⟨A, c, m, hp_agree h1 hA (by rw [h5]; exact .inl rfl), h2, h3.keep (hA.mono fun b hb => by rw [h5]; exact .inr hb), h4, h5⟩
def noXB (_ : Code) (_ : Nat) (_ : Nat → Prop) (_ : World) : Prop := False
def byA (base zb : Nat) (L : List Told) (T enc : Array Value) (a' : Act) (k : Nat) (C : Nat → Prop) (W : World) : Prop :=
  ∃ x : Told, L[k]? = some x ∧ enc = #[.int .u64 (x.c : Int), .int .u64 (x.n : Int)] ∧ a' = { tmps := ((T.setIfInBounds 18 (.int .u64 (x.c : Int))).setIfInBounds 19 (.int .u64 (x.n : Int))).setIfInBounds 4 (.int .u64 (x.c : Int)), defers := [] } ∧ byI base zb L k C W
set_option maxRecDepth 100000 in
set_option maxHeartbeats 4000000 in
theorem tbytes_any (F : Nat → Prop) (p m T : Nat) (L : List Told) (ms : List TC) (w : World) (h : TabAt F p m T w L ms) :
    Calls Tryz.prog 18 #[.pointer (some ⟨p, 0, none⟩)] w fun e w' => ∃ A c, e = .returned (.slice A (tabV L).length c) ∧ OwnS w.heap.size 5 1 csU w' (.slice A (tabV L).length c) (tabV L) ∧ Mod (fun _ => False) w w' := by
  have HTh := Lib.hid (fun X (hX : Mod (fun _ => False) w X) => tthere_yes p m X (tab_len h X hX).1)
  have HLen := Lib.hid (fun X hX => tab_len h X hX)
  obtain ⟨N, hN⟩ : ∃ N, N = L.length := ⟨_, rfl⟩
  rw [← hN] at HLen
  have hN16 : N ≤ 16 := by rw [hN]; exact h.tab.2.1
  have HNu := Lib.hid (fun X => by have := tnumber_any (w.heap.size + 1) 4 N (.inl rfl) none [] 0 X (OwnS.nil _ _ _ _ _) (by simp); rwa [List.nil_append] at this : ∀ X : World, w.heap.size + 1 ≤ X.heap.size → Calls Tryz.prog 36 #[.slice none 0 0, .int .u64 (N : Int), .int .i64 4] X (NumbEnds (w.heap.size + 1) (.slice none 0 0) (be 4 N) X))
  have HAll := Lib.hid (fun X (hX : Mod (fun _ => False) w X) => ttall_any F p m T L ms X (h.mod hX id id fun _ _ => id))
  have HH := Lib.hid h
  have HN := Lib.hid hN
  have hB1 : (w.alloc (.cells #[.pointer (some ⟨p, 0, none⟩)] 25)).heap[w.heap.size]? = some (.cells #[.pointer (some ⟨p, 0, none⟩)] 25 (0, 0)) := hp_new _ _
  have HB1 := Lib.hid hB1
  clear h hN hB1
  refine callsIn_wide.1 (callsIn_of_wp_marks (n := 0) (F := Fence.wide) Tryz.func18 rfl trivial ?_ rfl)
  simp only [Tryz.ntmps18, List.size_toArray, List.length_cons, List.length_nil, Nat.reduceAdd, Nat.reduceSub, Array.replicate_succ, Array.replicate_zero, List.push_toArray, List.append_toArray, List.nil_append, List.cons_append]
  gi_wp2_with (first
    | ((refine ⟨trivial, rfl, ?_⟩; gi_at_call 24)
       (with_reducible refine ci (HTh.out _ (by (repeat' (with_reducible (first | exact Mod.refl _ _ | assumption | refine Mod.alloc ?_ _ | refine Mod.drew ?_ | refine Mod.drewN ?_ _ | refine Mod.setCell ?_ (by first | exact Or.inl rfl | (right; simp; done) | (right; simp; omega) | (left; simp; done)) _))))) ?_)
       rintro e w1 ⟨rfl, rfl⟩
       have x0 := (HLen.out (w.alloc (.cells #[.pointer (some ⟨p, 0, none⟩)] 25)) (by (repeat' (with_reducible (first | exact Mod.refl _ _ | assumption | refine Mod.alloc ?_ _ | refine Mod.drew ?_ | refine Mod.drewN ?_ _ | refine Mod.setCell ?_ (by first | exact Or.inl rfl | (right; simp; done) | (right; simp; omega) | (left; simp; done)) _))))).1
       have hln := (HLen.out (w.alloc (.cells #[.pointer (some ⟨p, 0, none⟩)] 25)) (by (repeat' (with_reducible (first | exact Mod.refl _ _ | assumption | refine Mod.alloc ?_ _ | refine Mod.drew ?_ | refine Mod.drewN ?_ _ | refine Mod.setCell ?_ (by first | exact Or.inl rfl | (right; simp; done) | (right; simp; omega) | (left; simp; done)) _))))).2)
    | ((refine ⟨trivial, rfl, ?_⟩; gi_at_call 36)
       (with_reducible refine ci (HNu.out _ (by simp)) ?_)
       rintro e w2 ⟨A2, c2, rfl, ho2, hm2, -⟩
       rw [be_len] at ho2 ⊢
       have hm2 : Mod (fun _ => False) _ w2 := hm2.mono fun b _ hb => by simp [Value.ownBlock] at hb
       have hz0 := hp_mod HB1.out hm2 id
       have z0 : w2.cell? ⟨w.heap.size, 0, none⟩ = some (.pointer (some ⟨p, 0, none⟩)) := by rw [hp_cell hz0]; rfl
       have HZ0 := Lib.hid hz0
       have M2 : Mod (fun _ => False) w w2 := ((Mod.refl _ w).alloc _).trans' hm2
       have HM2 := Lib.hid M2
       have HO2 := Lib.hid ho2
       have hs2 : w.heap.size + 1 ≤ w2.heap.size := by have := hm2.size; simpa using this
       have hs2l : w.heap.size < w2.heap.size := by omega
       clear hm2 hz0 M2 ho2)
    | ((refine ⟨trivial, rfl, ?_⟩; gi_at_call 16)
       (with_reducible refine ci (HAll.out _ (HM2.out.alloc _)) ?_)
       rintro e w3 ⟨rfl, hbt, hat, hsz, hm3⟩)
    | fail)
  obtain ⟨zb, hzb⟩ : ∃ z, z = w2.heap.size := ⟨_, rfl⟩
  have hsA : (w2.alloc (.cells #[.slice A2 4 c2] 35)).heap.size = zb + 1 := by rw [hzb]; simp
  rw [hsA] at hbt hat hsz
  rw [← hzb]
  have hb3 : w3.heap[zb]? = some (.cells #[.slice A2 4 c2] 35 (0, 0)) := hp_mod (by rw [hzb]; exact hp_new _ _) hm3 id
  have M3 : Mod (fun _ => False) w w3 := (HM2.out.alloc _).trans' hm3
  have HO3 := Lib.hid ((HO2.out.mod (C := fun _ => False) ((Mod.refl _ w2).alloc _) fun _ _ => id).mod hm3 fun _ _ => id)
  have hz3 := hp_mod (hp_alloc HZ0.out _) hm3 id
  have HZ3 := Lib.hid hz3
  have HM3 := Lib.hid M3
  have HFr := Lib.hid (show ∀ b, (Value.slice A2 4 c2).ownBlock = some b → w.heap.size + 1 ≤ b ∧ b < zb from fun b hb => by have := HO2.out.fresh b hb; omega)
  have hs3 : zb + 4 ≤ w3.heap.size := by omega
  have hs2' : w.heap.size + 1 ≤ zb := by omega
  have hit := ttall1_iter (zb + 1 + 2) (zb + 1 + 1) (zb + 1) F L ms (fun b => b = zb + 1 + 2 ∨ b = zb + 1 + 1 ∨ b = zb + 1) w3 hbt hat (.inl rfl) (.inr (.inl rfl)) (.inr (.inr rfl)) (fun b hb => by omega)
  clear hm3 hz3 M3 hzb hsA HO2 HZ0 z0 x0 hln
  refine wp_rangeG (gf := 33) (lb := #[.pointer (some ⟨zb + 1 + 2, 0, none⟩)]) rfl (enters_of Tryz.func33 (by kernel_rfl) rfl) tabIt_ok hit
    (fun b hb => by
      rcases hb with hb | h
      · have hb : b = zb + 1 + 2 ∨ b = zb + 1 + 1 ∨ b = zb + 1 := hb
        omega
      · exact h.elim) rfl
    (byI (w.heap.size + 1) zb L) noXB (byA (w.heap.size + 1) zb L) (byI_stab _ _ _) (fun c k C X Y h hA => h)
    (fun T enc a' k C X Y ⟨x, h0, h1, h2, h3⟩ hA => ⟨x, h0, h1, h2, byI_stab _ _ _ _ _ _ _ h3 hA⟩)
    (fun b => b = zb ∨ (Value.slice A2 4 c2).ownBlock = some b) (fun b hb => by
      have hb2 : b ≤ zb := by
        rcases hb with hb | hb
        · omega
        · have := HFr.out b hb; omega
      refine ⟨by omega, fun hd => ?_, id⟩
      have hd : b = zb + 1 + 2 ∨ b = zb + 1 + 1 ∨ b = zb + 1 := hd
      omega) ⟨A2, c2, 4, hb3, by rw [← HN.out]; simp [rowsV, be_len], by rw [← HN.out]; simpa [rowsV] using HO3.out, fun hb => by have := HFr.out _ hb; omega, rfl⟩ trivial ?assign ?body ?done (fun _ _ _ _ _ _ h => h.elim)
  case assign =>
    rintro l' k hk enc R C W' hi - ⟨x, hx, rfl⟩ - hm' hb'
    have HI := Lib.hid hi
    have HX := Lib.hid hx
    clear hi hx hb3
    gi_wp2
    exact ⟨C, ⟨x, HX.out, rfl, rfl, HI.out⟩, Mod.refl _ _, fun b hb => ⟨(hb' b hb).1, .inl hb⟩⟩
  case body =>
    rintro l' k hk enc R C a' W' ⟨x, hx, rfl, rfl, A, c, n, hb, hn, ho, hne, rfl⟩ - - - hm' hb' - - -
    have hM := hm'.mono (C' := fun b => b = zb ∨ (Value.slice A2 4 c2).ownBlock = some b) fun b _ h => h.elim id fun h => h.elim
    have hpl := HH.out.plt
    have hml := HH.out.mlt
    have hnc : ∀ b, b ≤ w.heap.size → ¬ (b = zb ∨ (Value.slice A2 4 c2).ownBlock = some b) := fun b hb h => by
      rcases h with h | h
      · omega
      · have := HFr.out b h; omega
    have htab : TabAt F p m T W' L ms := (HH.out.mod HM3.out id id fun _ _ => id).mod hM (hnc p (by omega)) (hnc m (by omega)) fun b hb => hnc b (by have := (HH.out.off b hb).1; omega)
    have hz0 := hp_mod HZ3.out hM (hnc _ (Nat.le_refl _))
    have z0 : W'.cell? ⟨w.heap.size, 0, none⟩ = some (.pointer (some ⟨p, 0, none⟩)) := by rw [hp_cell hz0]; rfl
    have p0 : W'.cell? ⟨p, 0, none⟩ = some (.map (some m)) := by rw [hp_cell htab.ptr]; rfl
    have hxL := List.mem_of_getElem? hx
    obtain ⟨t, ht, htx, hg⟩ : ∃ t ∈ ms, t.told = x ∧ mGet (x.c : Int) (ms.map TC.kv) = some t.val := by
      have hat := atT_of htab.tab.1 hxL
      rcases htab.get x.c with ⟨h1, h2⟩ | ⟨t, ht, htc, h1, h2⟩
      · rw [h2] at hat; cases hat
      · rw [h2] at hat
        injection hat with hat
        exact ⟨t, ht, hat, h1⟩
    have hlk := run_mget (P := Tryz.prog) (w := W') kvU_t Tryz.underlying45 (z := .agg #[.int .u64 0, .slice none 0 0]) (by kernel_rfl) htab.map (x.c : Int) false
    rw [hg] at hlk
    obtain ⟨kb, hkb⟩ : ∃ k, k = (resV x.r).length := ⟨_, rfl⟩
    have hrt := (htab.rd t ht)
    have htr : t.r = x.r := by rw [← htx]; rfl
    have htn : t.n = x.n := by rw [← htx]; rfl
    rw [htr] at hrt
    have hlk : (Instr.lookup 45 (.map (some m)) (.int .u64 (x.c : Int)) false).run Tryz.prog W' = .ok (.agg #[.int .u64 (x.n : Int), .slice t.A kb t.cap]) W' := by rw [hkb, ← htr, ← htn]; exact hlk
    have hmay := (htab.tab.2.2 x hxL).1
    have hkbl := resV_len hmay
    rw [← hkb] at hkbl
    have hll : (be 4 L.length ++ rowsV (L.take k)).length ≤ 80000000 := by
      have h1 := rowsV_len (L := L.take k) fun y hy => (htab.tab.2.2 y (List.mem_of_mem_take hy)).1
      rw [List.length_append, be_len]
      have h2 : (L.take k).length ≤ L.length := by rw [List.length_take]; omega
      have := HN.out
      omega
    have hrow := rowsV_take hx
    obtain ⟨l0, hl0⟩ : ∃ l, l = be 4 L.length ++ rowsV (L.take k) := ⟨_, rfl⟩
    rw [← hl0] at hn ho hll
    have hnext : be 4 L.length ++ rowsV (L.take (k + 1)) = ((l0 ++ be 8 x.c) ++ be 8 x.n ++ be 4 kb) ++ resV x.r := by rw [hrow, hl0, hkb]; unfold rowV; simp only [List.append_assoc]
    have q0 : W'.cell? ⟨zb, 0, none⟩ = some (.slice A n c) := by rw [hp_cell hb]; rfl
    have hzl := hp_lt hb
    have hzl0 := hp_lt hz0
    have hfo := ho.fresh
    have HNx := Lib.hid hnext
    have HB := Lib.hid hb
    have HO := Lib.hid ho
    have HNn := Lib.hid hn
    have HLl := Lib.hid hll
    have HTab := Lib.hid htab
    have HRt := Lib.hid hrt
    have HKb := Lib.hid hkb
    have HNe := Lib.hid hne
    have HFo := Lib.hid hfo
    have hWs := hM.size
    have h7 := fun X (hX : OwnS (w.heap.size + 1) 5 1 csU X (.slice A n c) l0) (hs : w.heap.size + 1 ≤ X.heap.size) => by
      have := tnumber_any (w.heap.size + 1) 8 x.c (.inr rfl) A l0 c X (by rw [← hn]; exact hX) (by omega) hs
      rw [← hn] at this
      exact this
    have H7 := Lib.hid (show ∀ X, OwnS (w.heap.size + 1) 5 1 csU X (.slice A n c) l0 → w.heap.size + 1 ≤ X.heap.size → Calls Tryz.prog 36 #[.slice A n c, .int .u64 (x.c : Int), .int .i64 8] X (NumbEnds (w.heap.size + 1) (.slice A n c) (l0 ++ be 8 x.c) X) from h7)
    clear hm' hM hnc htab hz0 hx hxL ht htx hg hrt htr htn hmay hrow hl0 hnext hb ho hn hll hkb hne hfo h7 hpl hml hb3 hit hb'
    gi_wp2
    obtain ⟨W6, hW6⟩ : ∃ W6, W6 = W'.alloc (.cells #[.int .u64 (x.n : Int), .slice t.A kb t.cap] 74) := ⟨_, rfl⟩
    obtain ⟨tb, htb⟩ : ∃ tb, tb = W'.heap.size := ⟨_, rfl⟩
    have hb6 : W6.heap[tb]? = some (.cells #[.int .u64 (x.n : Int), .slice t.A kb t.cap] 74 (0, 0)) := by rw [hW6, htb]; exact hp_new _ _
    have hm6 : Mod (fun _ => False) W' W6 := by rw [hW6]; (repeat' (first | exact Mod.refl _ _ | assumption | refine Mod.alloc ?_ _ | refine Mod.drew ?_ | refine Mod.drewN ?_ _ | refine Mod.setCell ?_ (by first | exact Or.inl rfl | (right; simp; done) | (right; simp; omega) | (left; simp; done)) _))
    have hs6 : W6.heap.size = tb + 1 := by rw [hW6, htb]; simp
    rw [← hW6, ← htb]
    have q6 := cell_modC q0 hm6 id
    have k0 : W6.cell? ⟨tb, 0, none⟩ = some (.int .u64 (x.n : Int)) := by rw [hp_cell hb6]; rfl
    have k1 : W6.cell? ⟨tb, 1, none⟩ = some (.slice t.A kb t.cap) := by rw [hp_cell hb6]; rfl
    have HO6 := Lib.hid ((HO.out.mod hm6 fun _ _ => id).mod (C := fun _ => False) (Mod.refl _ W6).drew fun _ _ => id)
    have HM6 := Lib.hid hm6
    have HB6 := Lib.hid hb6
    have HTB := Lib.hid htb
    have hzt : zb < tb := by omega
    have htz : ¬ tb = zb := by omega
    have hzt' : ¬ zb = tb := by omega
    clear hW6 htb hb6 hm6 z0 p0 hlk q0 hbt hat
    refine round_held (S := fun X => X.cell? ⟨tb, 0, none⟩ = some (.int .u64 (x.n : Int)) ∧ X.cell? ⟨tb, 1, none⟩ = some (.slice t.A kb t.cap)) (by kernel_rfl) (by kernel_rfl) ⟨k0, k1⟩ (fun hHeld => ?_)
    (refine wpAnyH_take (i := 1) (v := ?_) rfl (by kernel_rfl) (by kernel_rfl) (by kernel_rfl) (fun _ _ _ h => h) (Or.inl ⟨by rfl, ?_⟩) hHeld ?_; rotate_left; (focus (intro w hSw; (try dsimp only at hSw); go_simp; try with_reducible rfl)); try simp only [Act.put, List.setIfInBounds_toArray, List.set_cons_zero, List.set_cons_succ])
    (refine wpAnyH_take (i := 3) (v := ?_) rfl (by kernel_rfl) (by kernel_rfl) (by kernel_rfl) (fun _ _ _ h => h) (Or.inl ⟨by rfl, ?_⟩) hHeld ?_; rotate_left; (focus (intro w hSw; (try dsimp only at hSw); go_simp; try with_reducible rfl)); try simp only [Act.put, List.setIfInBounds_toArray, List.set_cons_zero, List.set_cons_succ])
    (refine wpAnyH_take (i := 4) (v := ?_) rfl (by kernel_rfl) (by kernel_rfl) (by kernel_rfl) (fun _ _ _ h => h) (Or.inl ⟨by rfl, ?_⟩) hHeld ?_; rotate_left; (focus (intro w hSw; (try dsimp only at hSw); go_simp; try with_reducible rfl)); try simp only [Act.put, List.setIfInBounds_toArray, List.set_cons_zero, List.set_cons_succ])
    (refine wpAnyH_ready (rs := [0]) (by kernel_rfl) (by simp) ?_; refine AllReadyH.cons rfl (fun K hK => ?_) AllReadyH.nil)
    go_simp
    (refine hK.out _ _ (by first | exact hHeld) (fun hHeld => ?_); clear hK K; try simp only [Act.put, List.setIfInBounds_toArray, List.set_cons_zero, List.set_cons_succ])
    (refine wpAnyH_ready (rs := [2]) (by kernel_rfl) (by simp) ?_; refine AllReadyH.cons rfl (fun K hK => ?_) AllReadyH.nil)
    go_simp
    with_reducible refine (H7.out _ HO6.out (by simp; omega)).mono ?_
    rintro e w7 ⟨A7, c7, rfl, ho7, hm7, hat7⟩
    obtain ⟨n7, hn7⟩ : ∃ k, k = (l0 ++ be 8 x.c).length := ⟨_, rfl⟩
    rw [← hn7] at ho7 hat7 ⊢
    have hC7 : ¬ (Value.slice A n c).ownBlock = some tb := fun h => by have := (HFo.out tb h).2; have := HTB.out; omega
    have hs7 : tb + 1 ≤ w7.heap.size := by have := hm7.size; simp [hs6] at this; exact this
    have hsub7 : ∀ b, (Value.slice A7 n7 c7).ownBlock = some b → (Value.slice A n c).ownBlock = some b ∨ tb + 1 ≤ b := fun b hb => by
      rcases hat7 with e | e
      · exact .inl (e ▸ hb)
      · have := e b hb; simp [hs6] at this; exact .inr this
    have HB7 := Lib.hid (hp_mod (hp_drew HB6.out) hm7 hC7)
    have HZ7 := Lib.hid (hp_mod (hp_drew (hp_mod HB.out HM6.out id)) hm7 HNe.out)
    have M7 := Lib.hid ((HM6.out.drew.mono (C' := fun b => (Value.slice A n c).ownBlock = some b) fun _ _ h => h.elim).trans' hm7)
    have HL7 := Lib.hid (show n7 = n + 8 by rw [hn7, List.length_append, be_len, HNn.out])
    have h8 := tnumber_any (w.heap.size + 1) 8 x.n (.inr rfl) A7 (l0 ++ be 8 x.c) c7 w7 (by rw [← hn7]; exact ho7) (by have := HLl.out; rw [List.length_append, be_len]; omega) (by omega)
    rw [← hn7] at h8
    have H8 := Lib.hid (show Calls Tryz.prog 36 #[.slice A7 n7 c7, .int .u64 (x.n : Int), .int .i64 8] w7 (NumbEnds (w.heap.size + 1) (.slice A7 n7 c7) (l0 ++ be 8 x.c ++ be 8 x.n) w7) from h8)
    have HS7 := Lib.hid hsub7
    have k0' : w7.cell? ⟨tb, 0, none⟩ = some (.int .u64 (x.n : Int)) := by rw [hp_cell HB7.out]; rfl
    have k1' : w7.cell? ⟨tb, 1, none⟩ = some (.slice t.A kb t.cap) := by rw [hp_cell HB7.out]; rfl
    clear ho7 hm7 hat7 h8 hC7 hsub7 hn7
    (refine hK.out _ _ (by first | exact ⟨k0', k1'⟩) (fun hHeld => ?_); clear hK K; try simp only [Act.put, List.setIfInBounds_toArray, List.set_cons_zero, List.set_cons_succ])
    (refine wpAnyH_ready (rs := [5]) (by kernel_rfl) (by simp) ?_; refine AllReadyH.cons rfl (fun K hK => ?_) AllReadyH.nil)
    go_simp
    with_reducible refine H8.out.mono ?_
    rintro e w8 ⟨A8, c8, rfl, ho8, hm8, hat8⟩
    obtain ⟨n8, hn8⟩ : ∃ k, k = (l0 ++ be 8 x.c ++ be 8 x.n).length := ⟨_, rfl⟩
    rw [← hn8] at ho8 hat8 ⊢
    have hC8 : ¬ (Value.slice A7 n7 c7).ownBlock = some tb := fun h => by
      rcases HS7.out tb h with h | h
      · have := (HFo.out tb h).2; have := HTB.out; omega
      · omega
    have hC8z : ¬ (Value.slice A7 n7 c7).ownBlock = some zb := fun h => by
      rcases HS7.out zb h with h | h
      · exact HNe.out h
      · omega
    have hs8 : tb + 1 ≤ w8.heap.size := by have := hm8.size; omega
    have hsub8 : ∀ b, (Value.slice A8 n8 c8).ownBlock = some b → (Value.slice A n c).ownBlock = some b ∨ tb + 1 ≤ b := fun b hb => by
      rcases hat8 with e | e
      · exact HS7.out b (e ▸ hb)
      · have := e b hb; exact .inr (by omega)
    have HB8 := Lib.hid (hp_mod HB7.out hm8 hC8)
    have HZ8 := Lib.hid (hp_mod HZ7.out hm8 hC8z)
    have M8 := Lib.hid (M7.out.trans hm8 fun b hb => (HS7.out b hb).imp id fun h => by have := HTB.out; omega)
    have HL8 := Lib.hid (show n8 = n7 + 8 by rw [hn8, List.length_append, List.length_append, be_len, be_len, HL7.out, HNn.out])
    have HO8 := Lib.hid ho8
    have HN8 := Lib.hid hn8
    have HS8 := Lib.hid hsub8
    have k0'' : w8.cell? ⟨tb, 0, none⟩ = some (.int .u64 (x.n : Int)) := by rw [hp_cell HB8.out]; rfl
    have k1'' : w8.cell? ⟨tb, 1, none⟩ = some (.slice t.A kb t.cap) := by rw [hp_cell HB8.out]; rfl
    have q8 : w8.cell? ⟨zb, 0, none⟩ = some (.slice A n c) := by rw [hp_cell HZ8.out]; rfl
    have f8 : w8.frozen? ⟨zb, 0, none⟩ = false := hp_free HZ8.out 0
    have hZ9 := hp_eq (cs' := #[.slice A8 n8 c8]) (hp_set HZ8.out 0 (.slice A8 n8 c8)) rfl
    have hB9 := hp_far HB8.out (p := ⟨zb, 0, none⟩) htz (.slice A8 n8 c8)
    have hm9 : Mod (fun b => b = zb) w8 (w8.setCell ⟨zb, 0, none⟩ (.slice A8 n8 c8)) := by (repeat' (first | exact Mod.refl _ _ | assumption | refine Mod.alloc ?_ _ | refine Mod.drew ?_ | refine Mod.drewN ?_ _ | refine Mod.setCell ?_ (by first | exact Or.inl rfl | (right; simp; done) | (right; simp; omega) | (left; simp; done)) _))
    clear ho8 hm8 hat8 hC8 hsub8 hn8 k0' k1' q6 k0 k1 hC8z
    (refine hK.out _ _ (by first | exact ⟨k0'', k1''⟩) (fun hHeld => ?_); clear hK K; try simp only [Act.put, List.setIfInBounds_toArray, List.set_cons_zero, List.set_cons_succ])
    (refine wpAnyH_ready (rs := [6]) (by kernel_rfl) (by simp) ?_; refine AllReadyH.cons rfl (fun K hK => ?_) AllReadyH.nil)
    go_simp
    obtain ⟨W9, hW9⟩ : ∃ W9, W9 = w8.setCell ⟨zb, 0, none⟩ (.slice A8 n8 c8) := ⟨_, rfl⟩
    rw [← hW9] at hZ9 hB9 hm9 ⊢
    have k0 : W9.cell? ⟨tb, 0, none⟩ = some (.int .u64 (x.n : Int)) := by rw [hp_cell hB9]; rfl
    have k1 : W9.cell? ⟨tb, 1, none⟩ = some (.slice t.A kb t.cap) := by rw [hp_cell hB9]; rfl
    have q9 : W9.cell? ⟨zb, 0, none⟩ = some (.slice A8 n8 c8) := by rw [hp_cell hZ9]; rfl
    have HZ9 := Lib.hid hZ9
    have HB9 := Lib.hid hB9
    have M9 := Lib.hid ((M8.out.mono (C' := fun b => b = zb ∨ (Value.slice A n c).ownBlock = some b) fun b _ h => .inr h).trans hm9 fun b hb => .inl (.inl hb))
    have hs9 : tb + 1 ≤ W9.heap.size := by have := hm9.size; omega
    have HO9 := Lib.hid (HO8.out.mod hm9 fun b hb e => by
      rcases HS8.out b hb with h | h
      · exact HNe.out (e ▸ h)
      · omega)
    clear hW9 hZ9 hB9 hm9 k0'' k1'' q8 f8 HB8 HZ8 HB7 HZ7 HO8
    (refine hK.out _ _ (by first | exact ⟨k0, k1⟩) (fun hHeld => ?_); clear hK K; try simp only [Act.put, List.setIfInBounds_toArray, List.set_cons_zero, List.set_cons_succ])
    (refine wpAnyH_done (by kernel_rfl) ?_ _; refine NoOut.normal ?_)
    gi_wp2
    have hkw : IntKind.u64.wrap (kb : Int) = (kb : Int) := wrap_u64 kb (by omega)
    have h10 := fun X (hX : OwnS (w.heap.size + 1) 5 1 csU X (.slice A8 n8 c8) (l0 ++ be 8 x.c ++ be 8 x.n)) (hs : w.heap.size + 1 ≤ X.heap.size) => by
      have := tnumber_any (w.heap.size + 1) 4 kb (.inl rfl) A8 (l0 ++ be 8 x.c ++ be 8 x.n) c8 X (by rw [← HN8.out]; exact hX) (by have := HLl.out; simp only [List.length_append, be_len]; omega) hs
      rw [← HN8.out] at this
      exact this
    have H10 := Lib.hid (show ∀ X, OwnS (w.heap.size + 1) 5 1 csU X (.slice A8 n8 c8) (l0 ++ be 8 x.c ++ be 8 x.n) → w.heap.size + 1 ≤ X.heap.size → Calls Tryz.prog 36 #[.slice A8 n8 c8, .int .u64 (kb : Int), .int .i64 4] X (NumbEnds (w.heap.size + 1) (.slice A8 n8 c8) (l0 ++ be 8 x.c ++ be 8 x.n ++ be 4 kb) X) from h10)
    have HO9d := Lib.hid (HO9.out.mod (C := fun _ => False) (Mod.refl _ W9).drew fun _ _ => id)
    clear h10
    refine round_held (S := fun X => X.cell? ⟨tb, 0, none⟩ = some (.int .u64 (x.n : Int)) ∧ X.cell? ⟨tb, 1, none⟩ = some (.slice t.A kb t.cap)) (by kernel_rfl) (by kernel_rfl) ⟨k0, k1⟩ (fun hHeld => ?_)
    (refine wpAnyH_take (i := 1) (v := ?_) rfl (by kernel_rfl) (by kernel_rfl) (by kernel_rfl) (fun _ _ _ h => h) (Or.inl ⟨by rfl, ?_⟩) hHeld ?_; rotate_left; (focus (intro w hSw; (try dsimp only at hSw); go_simp; try with_reducible rfl)); try simp only [Act.put, List.setIfInBounds_toArray, List.set_cons_zero, List.set_cons_succ])
    (refine wpAnyH_take (i := 2) (v := ?_) rfl (by kernel_rfl) (by kernel_rfl) (by kernel_rfl) (fun _ _ _ h => h) (Or.inl ⟨by rfl, ?_⟩) hHeld ?_; rotate_left; (focus (intro w hSw; (try dsimp only at hSw); go_simp; try with_reducible rfl)); try simp only [Act.put, List.setIfInBounds_toArray, List.set_cons_zero, List.set_cons_succ])
    (refine wpAnyH_take (i := 3) (v := ?_) rfl (by kernel_rfl) (by kernel_rfl) (by kernel_rfl) (fun _ _ _ h => h) (Or.inl ⟨by rfl, ?_⟩) hHeld ?_; rotate_left; (focus (intro w hSw; (try dsimp only at hSw); go_simp; try with_reducible rfl)); try simp only [Act.put, List.setIfInBounds_toArray, List.set_cons_zero, List.set_cons_succ])
    (refine wpAnyH_take (i := 4) (v := ?_) rfl (by kernel_rfl) (by kernel_rfl) (by kernel_rfl) (fun _ _ _ h => h) (Or.inl ⟨by rfl, ?_⟩) hHeld ?_; rotate_left; (focus (intro w hSw; (try dsimp only at hSw); go_simp; try with_reducible rfl)); try simp only [Act.put, List.setIfInBounds_toArray, List.set_cons_zero, List.set_cons_succ])
    (refine wpAnyH_take (i := 6) (v := ?_) rfl (by kernel_rfl) (by kernel_rfl) (by kernel_rfl) (fun _ _ _ h => h) (Or.inl ⟨by rfl, ?_⟩) hHeld ?_; rotate_left; (focus (intro w hSw; (try dsimp only at hSw); go_simp; try with_reducible rfl)); try simp only [Act.put, List.setIfInBounds_toArray, List.set_cons_zero, List.set_cons_succ])
    (refine wpAnyH_take (i := 7) (v := ?_) rfl (by kernel_rfl) (by kernel_rfl) (by kernel_rfl) (fun _ _ _ h => h) (Or.inl ⟨by rfl, ?_⟩) hHeld ?_; rotate_left; (focus (intro w hSw; (try dsimp only at hSw); go_simp; try with_reducible rfl)); try simp only [Act.put, List.setIfInBounds_toArray, List.set_cons_zero, List.set_cons_succ])
    (refine wpAnyH_ready (rs := [0]) (by kernel_rfl) (by simp) ?_; refine AllReadyH.cons rfl (fun K hK => ?_) AllReadyH.nil)
    go_simp
    (refine hK.out _ _ (by first | exact hHeld) (fun hHeld => ?_); clear hK K; try simp only [Act.put, List.setIfInBounds_toArray, List.set_cons_zero, List.set_cons_succ])
    (refine wpAnyH_ready (rs := [5]) (by kernel_rfl) (by simp) ?_; refine AllReadyH.cons rfl (fun K hK => ?_) AllReadyH.nil)
    go_simp
    with_reducible refine (H10.out _ HO9d.out (by simp; omega)).mono ?_
    rintro e w10 ⟨A10, c10, rfl, ho10, hm10, hat10⟩
    obtain ⟨n10, hn10⟩ : ∃ k, k = (l0 ++ be 8 x.c ++ be 8 x.n ++ be 4 kb).length := ⟨_, rfl⟩
    rw [← hn10] at ho10 hat10 ⊢
    have hC10 : ¬ (Value.slice A8 n8 c8).ownBlock = some tb := fun h => by
      rcases HS8.out tb h with h | h
      · have := (HFo.out tb h).2; have := HTB.out; omega
      · omega
    have hC10z : ¬ (Value.slice A8 n8 c8).ownBlock = some zb := fun h => by
      rcases HS8.out zb h with h | h
      · exact HNe.out h
      · omega
    have hs10 : tb + 1 ≤ w10.heap.size := by have := hm10.size; simp at this; omega
    have hsub10 : ∀ b, (Value.slice A10 n10 c10).ownBlock = some b → (Value.slice A n c).ownBlock = some b ∨ tb + 1 ≤ b := fun b hb => by
      rcases hat10 with e | e
      · exact HS8.out b (e ▸ hb)
      · have := e b hb; simp at this; exact .inr (by omega)
    have HB10 := Lib.hid (hp_mod (hp_drew HB9.out) hm10 hC10)
    have HZ10 := Lib.hid (hp_mod (hp_drew HZ9.out) hm10 hC10z)
    have M10 := Lib.hid (M9.out.drew.trans hm10 fun b hb => (HS8.out b hb).imp .inr fun h => by have := HTB.out; omega)
    have HL10 := Lib.hid (show n10 = n8 + 4 by rw [hn10, List.length_append, be_len, HN8.out])
    have HO10 := Lib.hid ho10
    have HN10 := Lib.hid hn10
    have HS10 := Lib.hid hsub10
    have k0' : w10.cell? ⟨tb, 0, none⟩ = some (.int .u64 (x.n : Int)) := by rw [hp_cell HB10.out]; rfl
    have k1' : w10.cell? ⟨tb, 1, none⟩ = some (.slice t.A kb t.cap) := by rw [hp_cell HB10.out]; rfl
    have HR10 := Lib.hid (HRt.out.1.mod M10.out fun b hb => by
      have h1 := (HH.out.off b hb).1
      refine ⟨by omega, fun h => ?_⟩
      rcases h with h | h
      · omega
      · have := (HFo.out b h).1; omega)
    clear ho10 hm10 hat10 hC10 hsub10 hn10 k0 k1 hC10z
    (refine hK.out _ _ (by first | exact ⟨k0', k1'⟩) (fun hHeld => ?_); clear hK K; try simp only [Act.put, List.setIfInBounds_toArray, List.set_cons_zero, List.set_cons_succ])
    (refine wpAnyH_ready (rs := [8]) (by kernel_rfl) (by simp) ?_; refine AllReadyH.cons rfl (fun K hK => ?_) AllReadyH.nil)
    refine step_app (base := w.heap.size + 1) (xs := l0 ++ be 8 x.c ++ be 8 x.n ++ be 4 kb) (ys := resV x.r) (v := .slice A10 n10 c10) rfl (.tmp 37) (.tmp 39) rfl u8s_t csU_len csU_one rfl HO10.out t.cap rfl HKb.out HR10.out ?_ ?_ (by omega) ?_
    · rw [← HN10.out, ← HKb.out]; have := HL10.out; have := HL8.out; have := HL7.out; have := HNn.out; have := HLl.out; simp [maxLen]; omega
    · rw [← HN10.out, ← HKb.out]; have := HL10.out; have := HL8.out; have := HL7.out; have := HNn.out; have := HLl.out; omega
    intro v11 w11 ho11 hm11 hat11
    obtain ⟨A11, c11, hv11, -, -, -⟩ := OwnS.rd ho11 csU_len
    obtain ⟨n11, hn11⟩ : ∃ k, k = (l0 ++ be 8 x.c ++ be 8 x.n ++ be 4 kb ++ resV x.r).length := ⟨_, rfl⟩
    rw [← hn11] at hv11
    subst hv11
    have hC11 : ¬ (Value.slice A10 n10 c10).ownBlock = some tb := fun h => by
      rcases HS10.out tb h with h | h
      · have := (HFo.out tb h).2; have := HTB.out; omega
      · omega
    have hC11z : ¬ (Value.slice A10 n10 c10).ownBlock = some zb := fun h => by
      rcases HS10.out zb h with h | h
      · exact HNe.out h
      · omega
    have hs11 : tb + 1 ≤ w11.heap.size := by have := hm11.size; omega
    have hsub11 : ∀ b, (Value.slice A11 n11 c11).ownBlock = some b → (Value.slice A n c).ownBlock = some b ∨ tb + 1 ≤ b := fun b hb => by
      rcases hat11 with e | e
      · exact HS10.out b (e ▸ hb)
      · rw [e] at hb
        injection hb with hb
        exact .inr (by omega)
    have HB11 := Lib.hid (hp_mod HB10.out hm11 hC11)
    have HZ11 := Lib.hid (hp_mod HZ10.out hm11 hC11z)
    have M11 := Lib.hid (M10.out.trans hm11 fun b hb => (HS10.out b hb).imp .inr fun h => by have := HTB.out; omega)
    have HO11 := Lib.hid ho11
    have HN11 := Lib.hid hn11
    have HS11 := Lib.hid hsub11
    have k0'' : w11.cell? ⟨tb, 0, none⟩ = some (.int .u64 (x.n : Int)) := by rw [hp_cell HB11.out]; rfl
    have k1'' : w11.cell? ⟨tb, 1, none⟩ = some (.slice t.A kb t.cap) := by rw [hp_cell HB11.out]; rfl
    have q11 : w11.cell? ⟨zb, 0, none⟩ = some (.slice A8 n8 c8) := by rw [hp_cell HZ11.out]; rfl
    have f11 : w11.frozen? ⟨zb, 0, none⟩ = false := hp_free HZ11.out 0
    have hZ12 := hp_eq (cs' := #[.slice A11 n11 c11]) (hp_set HZ11.out 0 (.slice A11 n11 c11)) rfl
    have hB12 := hp_far HB11.out (p := ⟨zb, 0, none⟩) htz (.slice A11 n11 c11)
    have hm12 : Mod (fun b => b = zb) w11 (w11.setCell ⟨zb, 0, none⟩ (.slice A11 n11 c11)) := by (repeat' (first | exact Mod.refl _ _ | assumption | refine Mod.alloc ?_ _ | refine Mod.drew ?_ | refine Mod.drewN ?_ _ | refine Mod.setCell ?_ (by first | exact Or.inl rfl | (right; simp; done) | (right; simp; omega) | (left; simp; done)) _))
    clear ho11 hm11 hat11 hC11 hsub11 hn11 k0' k1' hC11z q9
    (refine hK.out _ _ (by first | exact ⟨k0'', k1''⟩) (fun hHeld => ?_); clear hK K; try simp only [Act.put, List.setIfInBounds_toArray, List.set_cons_zero, List.set_cons_succ])
    (refine wpAnyH_ready (rs := [9]) (by kernel_rfl) (by simp) ?_; refine AllReadyH.cons rfl (fun K hK => ?_) AllReadyH.nil)
    go_simp
    obtain ⟨W12, hW12⟩ : ∃ W12, W12 = w11.setCell ⟨zb, 0, none⟩ (.slice A11 n11 c11) := ⟨_, rfl⟩
    rw [← hW12] at hZ12 hB12 hm12 ⊢
    have k0 : W12.cell? ⟨tb, 0, none⟩ = some (.int .u64 (x.n : Int)) := by rw [hp_cell hB12]; rfl
    have k1 : W12.cell? ⟨tb, 1, none⟩ = some (.slice t.A kb t.cap) := by rw [hp_cell hB12]; rfl
    have HZ12 := Lib.hid hZ12
    have M12 := Lib.hid (M11.out.trans hm12 fun b hb => .inl (.inl hb))
    have hs12 := hm12.size
    have HO12 := Lib.hid (HO11.out.mod hm12 fun b hb e => by
      rcases HS11.out b hb with h | h
      · exact HNe.out (e ▸ h)
      · omega)
    clear hW12 hZ12 hB12 hm12 k0'' k1'' q11 f11
    (refine hK.out _ _ (by first | exact ⟨k0, k1⟩) (fun hHeld => ?_); clear hK K; try simp only [Act.put, List.setIfInBounds_toArray, List.set_cons_zero, List.set_cons_succ])
    (refine wpAnyH_done (by kernel_rfl) ?_ _; refine NoOut.normal ?_)
    gi_wp2
    refine ⟨fun b => b = zb ∨ (Value.slice A11 n11 c11).ownBlock = some b, ⟨A11, c11, n11, HZ12.out, by rw [HNx.out]; exact HN11.out, by rw [HNx.out]; exact HO12.out, fun e => ?_, rfl⟩, M12.out, fun b hb => ?_⟩
    · rcases HS11.out zb e with h | h
      · exact HNe.out h
      · omega
    · rcases hb with rfl | hb
      · exact ⟨by omega, .inl (.inl rfl)⟩
      · refine ⟨(HO12.out.fresh b hb).2, ?_⟩
        rcases HS11.out b hb with h | h
        · exact .inl (.inr h)
        · exact .inr (by have := HTB.out; omega)
  case done =>
    rintro W' C' ⟨A, c, n, hb, hn, ho, hne, rfl⟩ _ hm' hb' hK hn'
    have e : be 4 L.length ++ rowsV (L.take L.length) = tabV L := by rw [List.take_length]; rfl
    replace hn : n = (be 4 L.length ++ rowsV (L.take L.length)).length := hn
    replace ho : OwnS (w.heap.size + 1) 5 1 csU W' (.slice A n c) (be 4 L.length ++ rowsV (L.take L.length)) := ho
    rw [e] at hn ho
    have q0 : W'.cell? ⟨zb, 0, none⟩ = some (.slice A n c) := by rw [hp_cell hb]; rfl
    have HO := Lib.hid ho
    have HNn := Lib.hid hn
    have HM' := Lib.hid hm'
    have HN' := Lib.hid hn'
    clear hb hn ho hm' hb' e hb3 hit hat hbt hn'
    gi_wp2
    have hpo : Mod (fun b => b = w3.heap.size) W' (W'.putObj w3.heap.size (.deferred none)) := (Mod.refl (fun b => b = w3.heap.size) W').putObj (l := w3.heap.size) (.inl rfl) _
    have ho := HO.out.mod hpo fun b hb e => HN'.out (by rw [← e]; exact .inr hb)
    rw [HNn.out] at ho
    refine retM1 rfl hK (results_tmp rfl _ _ _) ⟨A, c, by rw [← HNn.out]; rfl, ho.less (by omega), ?_⟩
    refine (HM3.out.trans HM'.out fun b hb => ?_).putObj (.inr HM3.out.size) _
    rcases hb with (h | h) | h
    · right; omega
    · right; have := HFr.out b h; omega
    · exact h.elim
end Go.Proofs.YtmalclclopnlnaaGreat
