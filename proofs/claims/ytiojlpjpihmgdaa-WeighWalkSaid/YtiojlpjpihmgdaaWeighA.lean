/-
  Weights of collation elements: what the functions of the package weigh compute.
-/
import Derived.Test.YtiojlpjpihmgdaaProg
import Derived.Test.YtiojlpjpihmgdaaBase
namespace Go.Proofs.Ytiojlpjpihmgdaa
open Go.RowKit Go.Shelf
attribute [local go_sem] Oper.semAt_some

structure El where
  P : Nat
  S : Nat
  T : Nat
  V : Bool
def El.cs (e : El) : List Value := [.int .u16 e.P, .int .u16 e.S, .int .u16 e.T, .bool e.V]
def El.v (e : El) : Value := .agg #[.int .u16 e.P, .int .u16 e.S, .int .u16 e.T, .bool e.V]
structure Wt where
  a : Nat
  b : Nat
  c : Nat
  d : Nat
  deriving DecidableEq
def Wt.cs (x : Wt) : List Value := [.int .u16 x.a, .int .u16 x.b, .int .u16 x.c, .int .u16 x.d]
theorem Wt.cs_len (x : Wt) : x.cs.length = 4 := rfl
theorem Wt.cs_one (x : Wt) : ∀ u ∈ x.cs, u.oneCell' = true := by simp [Wt.cs, Value.oneCell']
theorem El.cs_len (x : El) : x.cs.length = 4 := rfl
theorem El.cs_one (x : El) : ∀ u ∈ x.cs, u.oneCell' = true := by simp [El.cs, Value.oneCell']
def Wt.v (x : Wt) : Value := .agg #[.int .u16 x.a, .int .u16 x.b, .int .u16 x.c, .int .u16 x.d]

def oneB (sh bh : Bool) (e : El) : Bool := if sh = false then bh else if e.P = 0 ∧ e.S = 0 ∧ e.T = 0 then bh else if e.V = true then true else if e.P ≠ 0 then false else bh
def oneW (sh bh : Bool) (e : El) : Wt := if sh = false then ⟨e.P, e.S, e.T, 0⟩ else if e.P = 0 ∧ e.S = 0 ∧ e.T = 0 then ⟨0, 0, 0, 0⟩ else if e.V = true then ⟨0, 0, 0, e.P⟩ else if e.P ≠ 0 then ⟨e.P, e.S, e.T, 65535⟩ else if bh = true then ⟨0, 0, 0, 0⟩ else ⟨0, e.S, e.T, 65535⟩

set_option maxHeartbeats 1000000 in
theorem one_any (b : Nat) (sh bh : Bool) (e : El) (w : World) (hb : w.heap[b]? = some (.cells #[.bool sh, .bool bh] 49 (0, 0))) :
    Calls Try.prog 16 #[.pointer (some ⟨b, 0, none⟩), e.v] w fun r w' => r = .returned (oneW sh bh e).v ∧ w'.heap[b]? = some (.cells #[.bool sh, .bool (oneB sh bh e)] 49 (0, 0)) ∧ Mod (fun k => k = b) w w' := by
  have hlt : b < w.heap.size := (Array.getElem?_eq_some_iff.1 hb).1
  have c0 : w.cell? ⟨b, 0, none⟩ = some (.bool sh) := by simp [World.cell?, hb]
  have c1 : w.cell? ⟨b, 1, none⟩ = some (.bool bh) := by simp [World.cell?, hb]
  have f1 : w.frozen? ⟨b, 1, none⟩ = false := by simp [World.frozen?, hb]
  have HB := Lib.hid hb
  clear hb
  unfold El.v
  go_enter Try.func16, Try.ntmps16
  go_wp2
  all_goals try (go_region; all_goals go_wp2)
  all_goals refine bodyPost_ret (v := (oneW sh bh e).v) ?_ rfl ⟨rfl, ?_, ?_⟩
  all_goals first
    | (show Mod _ _ _; (repeat' (first | exact Mod.refl _ _ | assumption | refine Mod.alloc ?_ _ | refine Mod.drew ?_ | refine Mod.drewN ?_ _ | refine Mod.setCell ?_ (by first | exact Or.inl rfl | (right; simp; done) | (right; simp; omega) | (left; simp; done)) _)); done)
    | (apply hp_eq
       focus (repeat' (first | exact HB.out | exact hp_new _ _ | refine hp_alloc ?_ _ | refine hp_drew ?_ | refine hp_drewN ?_ _ | apply hp_set | refine hp_far ?_ (by first | (simp; omega) | (simp; done)) _))
       clear c0 c1 f1 HB
       simp_all [oneB]; done)
    | (simp [results, Try.results16, go_sem]
       clear c0 c1 f1 HB
       simp_all [oneW, Wt.v]; done)
    | skip

theorem may_any (s : Bool) (n : Int) (w : World) :
    Calls Try.prog 14 #[.agg #[.bool s, .int .i64 n]] w fun e w' => e = .returned (.bool (decide (1 ≤ n) && decide (n ≤ 4))) ∧ w.alloc (.cells #[.bool s, .int .i64 n] 23) = w' := by
  go_enter Try.func14, Try.ntmps14
  go_wp2
  all_goals go_ret
  all_goals refine ⟨ret_bool ?_, rfl⟩
  all_goals (rw [Bool.eq_iff_iff]; simp; try omega)

theorem vals_any (A : Option Addr) (n c : Nat) (w : World) :
    Calls Try.prog 18 #[.slice A n c] w fun e w' => e = .returned (.func (.func 20) #[] #[.pointer (some ⟨w.heap.size, 0, none⟩)]) ∧ w.alloc (.cells #[.slice A n c] 24) = w' := by
  go_enter Try.func18, Try.ntmps18
  go_wp2
  go_ret
  exact ⟨rfl, rfl⟩

theorem walk_any (s : Bool) (n : Int) (f : Value) (hf : ∃ g lb, f = .func (.func g) #[] lb) (w : World) :
    Calls Try.prog 8 #[.agg #[.bool s, .int .i64 n], f] w fun e w' =>
      e = .returned (.func (.func 15) #[] #[.pointer (some ⟨w.heap.size + 1, 0, none⟩), .pointer (some ⟨w.heap.size, 0, none⟩)]) ∧
      (w.alloc (.cells #[.bool s, .int .i64 n] 23)).alloc (.cells #[f] 46) = w' := by
  obtain ⟨g, lb, rfl⟩ := hf
  go_enter Try.func8, Try.ntmps8
  go_wp2
  go_ret
  exact ⟨rfl, rfl⟩

/-! ### slices.Values over elements -/
set_option maxRecDepth 100000 in
set_option maxHeartbeats 1000000 in
theorem values1_iter (Bs : Nat) (A : Option Addr) (c : Nat) (xs : List El) (D : Nat → Prop) (w : World) (hl : xs.length ≤ maxLen)
    (hBs : w.cell? ⟨Bs, 0, none⟩ = some (.slice A xs.length c)) (hD : D Bs) (hDl : ∀ b, D b → b < w.heap.size) (hA : Rd D w 4 El.cs A xs) :
    Iter Try.prog 20 #[.pointer (some ⟨Bs, 0, none⟩)] (xs.map fun e => #[e.v]) D w := by
  intro l J Jx C0 W hAg hC hJ hJx hY h0
  unfold maxLen at hl
  have hBs' := (hAg.cell (p := ⟨Bs, 0, none⟩) hD).trans hBs
  have hA' := hA.keep hAg
  clear hA hBs
  obtain ⟨n, hn⟩ : ∃ n, n = xs.length := ⟨_, rfl⟩
  rw [← hn] at hl hBs'
  have HN := Lib.hid hn
  clear hn
  refine callsIn_wide.1 (callsIn_of_wp (n := 0) (F := Fence.wide) Try.func20 rfl trivial ?_ rfl)
  simp only [Try.ntmps20, List.size_toArray, List.length_cons, List.length_nil, Nat.reduceAdd, Nat.reduceSub, Array.replicate_succ, Array.replicate_zero, List.push_toArray, List.append_toArray, List.nil_append, List.cons_append]
  gi_wp2
  gi_loopw [7] (fun i wr => ∃ (k : Nat) (C : Nat → Prop), k ≤ n ∧ i = .int .i64 k ∧ J k C wr ∧ Mod C0 W wr ∧ (∀ b, C b → b < wr.heap.size ∧ (C0 b ∨ W.heap.size ≤ b)))
    (fun i _ => n - (intOf i).toNat)
  case atStart => exact ⟨0, C0, Nat.zero_le _, rfl, h0, Mod.refl _ _, fun b hb => ⟨(hC b hb).1, .inl hb⟩⟩
  case round =>
    obtain ⟨k, C, hk, rfl, hJs, hm, hb⟩ := hrel
    by_cases hlt : k < n
    · have hkl : k < xs.length := by rw [← HN.out]; exact hlt
      obtain ⟨b, off, rfl, hd, hc⟩ := hA'.keep (hm.agree fun b hb => ⟨by have := hDl b hb; have := hAg.size; omega, fun h => (hC b h).2 hb⟩) (by omega)
      have c0 : wr.cell? ⟨b, off + k * 4, none⟩ = some (.int .u16 xs[k].P) := hc k hkl 0 _ rfl
      have c1 : wr.cell? ⟨b, off + k * 4 + 1, none⟩ = some (.int .u16 xs[k].S) := hc k hkl 1 _ rfl
      have c2 : wr.cell? ⟨b, off + k * 4 + 2, none⟩ = some (.int .u16 xs[k].T) := hc k hkl 2 _ rfl
      have c3 : wr.cell? ⟨b, off + k * 4 + 3, none⟩ = some (.bool xs[k].V) := hc k hkl 3 _ rfl
      clear hc
      obtain ⟨fn, tmps, assign, body, hy, hR⟩ := hY k (by simpa using hkl) C (wr.alloc (.cells #[.int .u16 xs[k].P, .int .u16 xs[k].S, .int .u16 xs[k].T, .bool xs[k].V] 33))
        (hJ _ _ _ _ hJs (Agree.below ((Below.refl _ _).alloc (Nat.le_refl _) _) fun b h => (hb b h).1)) (hm.alloc _) (fun b h => ⟨by have := (hb b h).1; simp; omega, (hb b h).2⟩)
      simp only [List.getElem_map, El.v] at hy
      clear hY
      have HM := Lib.hid hm
      clear hm
      gi_wp2
      refine ⟨rfl, (hR _).mono ?_⟩
      rintro e W3 (⟨rfl, C', hJ3, hm3, hb3⟩ | ⟨rfl, C', hJ3, hm3, hb3⟩)
      · gi_wp2
        go_roundw
        case rel => exact ⟨k + 1, C', by omega, by simp, hJ3, (HM.out.alloc _).trans hm3 (fun b h => (hb b h).2), fun b h => ⟨(hb3 b h).1, (hb3 b h).2.elim (fun h => (hb b h).2) (fun h => .inr (by have := HM.out.size; simp at h; omega))⟩⟩
        case measure => simp [intOf]; omega
      · gi_wp2
        refine bodyPost_ret (results_none rfl _ _ _) rfl ?_
        exact ⟨⟨_, rfl⟩, .inr ⟨k + 1, by omega, by simp; omega, C', hJ3, (HM.out.alloc _).trans hm3 (fun b h => (hb b h).2), fun b h => ⟨(hb3 b h).1, (hb3 b h).2.elim (fun h => (hb b h).2) (fun h => .inr (by have := HM.out.size; simp at h; omega))⟩⟩⟩
    · obtain rfl : k = n := by omega
      gi_wp2
      go_end0
      refine ⟨⟨_, rfl⟩, .inl ⟨C, ?_, hm, hb⟩⟩
      rw [List.length_map, ← HN.out]
      exact hJs

theorem wts_t : SliceT Try.prog 35 38 4 8 := SliceT.mk' (z := .agg #[.int .u16 0, .int .u16 0, .int .u16 0, .int .u16 0]) Try.underlying35 (by kernel_rfl) rfl (by decide)
theorem els_t : SliceT Try.prog 24 33 4 8 := SliceT.mk' (z := .agg #[.int .u16 0, .int .u16 0, .int .u16 0, .bool false]) Try.underlying24 (by kernel_rfl) rfl (by decide)
end Go.Proofs.Ytiojlpjpihmgdaa
