/-
  The package ranges: the small functions.
-/
import Derived.Test.YtaohdhblnjoihaaProg
import Derived.Test.YtaohdhblnjoihaaOwn
import Derived.Test.YtaohdhblnjoihaaRangesP
namespace Go.Proofs.Ytaohdhblnjoihaa
open Go.RowKit Go.Shelf
attribute [local go_sem] Oper.semAt_some

def Rg.cs (x : Rg) : List Value := [.int .i32 x.lo, .int .i32 x.hi, .int .i64 x.v]
def Rg.val (x : Rg) : Value := .agg #[.int .i32 x.lo, .int .i32 x.hi, .int .i64 x.v]
theorem Rg.cs_len (x : Rg) : x.cs.length = 3 := rfl
theorem Rg.cs_one (x : Rg) : ∀ u ∈ x.cs, u.oneCell' = true := by simp [Rg.cs, Value.oneCell']
theorem rgs_t : SliceT Try.prog 22 24 3 16 := SliceT.mk' (z := .agg #[.int .i32 0, .int .i32 0, .int .i64 0]) Try.underlying22 (by kernel_rfl) rfl (by decide)

/-- The numbers fit. -/
def FitR (x : Rg) : Prop := -2147483648 ≤ x.lo ∧ x.lo ≤ 2147483647 ∧ -2147483648 ≤ x.hi ∧ x.hi ≤ 2147483647
/-- Block b is a map with the ranges xs. -/
def MapAt (w : World) (b : Nat) (xs : List Rg) : Prop :=
  ∃ A c, w.heap[b]? = some (.cells #[.slice A xs.length c, .bool true] 48 (0, 0)) ∧ Rd (fun b => b < w.heap.size) w 3 Rg.cs A xs
theorem MapAt.mod {w w' : World} {b : Nat} {xs : List Rg} (h : MapAt w b xs) (hm : Mod (fun _ => False) w w') : MapAt w' b xs := by
  obtain ⟨A, c, h1, h2⟩ := h
  exact ⟨A, c, hp_mod h1 hm id, (h2.mod hm (fun b hb => ⟨hb, id⟩)).mono (fun b hb => Nat.lt_of_lt_of_le hb hm.size)⟩

theorem num_any (n : Int) (w : World) : Calls Try.prog 10 #[.int .i64 n] w fun e w' => e = .returned (.int .i64 n) ∧ w = w' := by
  go_enter Try.func10, Try.ntmps10
  go_wp2
  go_ret
  exact ⟨rfl, rfl⟩

theorem there_some (b : Nat) (t : Value) (h : Bool) (w : World) (hb : w.heap[b]? = some (.cells #[t, .bool h] 48 (0, 0))) : Calls Try.prog 25 #[.pointer (some ⟨b, 0, none⟩)] w fun e w' => e = .returned (.bool h) ∧ w = w' := by
  have c1 := hp_cell hb 1
  clear hb
  go_enter Try.func25, Try.ntmps25
  go_wp2
  go_ret
  exact ⟨rfl, rfl⟩
theorem there_none (w : World) : Calls Try.prog 25 #[.pointer none] w fun e w' => e = .returned (.bool false) ∧ w = w' := by
  go_enter Try.func25, Try.ntmps25
  go_wp2
  go_ret
  exact ⟨rfl, rfl⟩

theorem rvals_any (A : Option Addr) (n c : Nat) (w : World) :
    Calls Try.prog 26 #[.slice A n c] w fun e w' => e = .returned (.func (.func 31) #[] #[.pointer (some ⟨w.heap.size, 0, none⟩)]) ∧ w.alloc (.cells #[.slice A n c] 22) = w' := by
  go_enter Try.func26, Try.ntmps26
  go_wp2
  go_ret
  exact ⟨rfl, rfl⟩

set_option maxRecDepth 100000 in
set_option maxHeartbeats 1000000 in
theorem rvalues1_iter (Bs : Nat) (A : Option Addr) (c : Nat) (xs : List Rg) (D : Nat → Prop) (w : World) (hl : xs.length ≤ maxLen)
    (hBs : w.cell? ⟨Bs, 0, none⟩ = some (.slice A xs.length c)) (hD : D Bs) (hDl : ∀ b, D b → b < w.heap.size) (hA : Rd D w 3 Rg.cs A xs) :
    Iter Try.prog 31 #[.pointer (some ⟨Bs, 0, none⟩)] (xs.map fun e => #[e.val]) D w := by
  intro l J Jx C0 W hAg hC hJ hJx hY h0
  unfold maxLen at hl
  have hBs' := (hAg.cell (p := ⟨Bs, 0, none⟩) hD).trans hBs
  have hA' := hA.keep hAg
  clear hA hBs
  obtain ⟨n, hn⟩ : ∃ n, n = xs.length := ⟨_, rfl⟩
  rw [← hn] at hl hBs'
  have HN := Lib.hid hn
  clear hn
  refine callsIn_wide.1 (callsIn_of_wp (n := 0) (F := Fence.wide) Try.func31 rfl trivial ?_ rfl)
  simp only [Try.ntmps31, List.size_toArray, List.length_cons, List.length_nil, Nat.reduceAdd, Nat.reduceSub, Array.replicate_succ, Array.replicate_zero, List.push_toArray, List.append_toArray, List.nil_append, List.cons_append]
  gi_wp2
  gi_loopw [7] (fun i wr => ∃ (k : Nat) (C : Nat → Prop), k ≤ n ∧ i = .int .i64 k ∧ J k C wr ∧ Mod C0 W wr ∧ (∀ b, C b → b < wr.heap.size ∧ (C0 b ∨ W.heap.size ≤ b)))
    (fun i _ => n - (intOf i).toNat)
  case atStart => exact ⟨0, C0, Nat.zero_le _, rfl, h0, Mod.refl _ _, fun b hb => ⟨(hC b hb).1, .inl hb⟩⟩
  case round =>
    obtain ⟨k, C, hk, rfl, hJs, hm, hb⟩ := hrel
    by_cases hlt : k < n
    · have hkl : k < xs.length := by rw [← HN.out]; exact hlt
      obtain ⟨b, off, rfl, hd, hc⟩ := hA'.keep (hm.agree fun b hb => ⟨by have := hDl b hb; have := hAg.size; omega, fun h => (hC b h).2 hb⟩) (by omega)
      have c0 : wr.cell? ⟨b, off + k * 3, none⟩ = some (.int .i32 xs[k].lo) := hc k hkl 0 _ rfl
      have c1 : wr.cell? ⟨b, off + k * 3 + 1, none⟩ = some (.int .i32 xs[k].hi) := hc k hkl 1 _ rfl
      have c2 : wr.cell? ⟨b, off + k * 3 + 2, none⟩ = some (.int .i64 xs[k].v) := hc k hkl 2 _ rfl
      clear hc
      obtain ⟨fn, tmps, assign, body, hy, hR⟩ := hY k (by simpa using hkl) C (wr.alloc (.cells #[.int .i32 xs[k].lo, .int .i32 xs[k].hi, .int .i64 xs[k].v] 24))
        (hJ _ _ _ _ hJs (Agree.below ((Below.refl _ _).alloc (Nat.le_refl _) _) fun b h => (hb b h).1)) (hm.alloc _) (fun b h => ⟨by have := (hb b h).1; simp; omega, (hb b h).2⟩)
      simp only [List.getElem_map, Rg.val] at hy
      clear hY
      have HM := Lib.hid hm
      clear hm
      gi_wp2
      refine ⟨rfl, (hR _).mono ?_⟩
      rintro e W3 (⟨rfl, C', hJ3, hm3, hb3⟩ | ⟨rfl, C', hJ3, hm3, hb3⟩)
      · gi_wp2
        go_roundw
        case rel => exact ⟨k + 1, C', by omega, by simp, hJ3, (HM.out.alloc _).trans hm3 (fun b h => (hb b h).2), fun b h => ⟨(hb3 b h).1, (hb3 b h).2.elim (fun h => (hb b h).2) (fun h => .inr (by have := HM.out.size; simp at h; omega))⟩⟩
        case measure => simp [intOf]; omega
      · gi_wp2
        refine bodyPost_ret (results_none rfl _ _ _) rfl ?_
        exact ⟨⟨_, rfl⟩, .inr ⟨k + 1, by omega, by simp; omega, C', hJ3, (HM.out.alloc _).trans hm3 (fun b h => (hb b h).2), fun b h => ⟨(hb3 b h).1, (hb3 b h).2.elim (fun h => (hb b h).2) (fun h => .inr (by have := HM.out.size; simp at h; omega))⟩⟩⟩
    · obtain rfl : k = n := by omega
      gi_wp2
      go_end0
      refine ⟨⟨_, rfl⟩, .inl ⟨C, ?_, hm, hb⟩⟩
      rw [List.length_map, ← HN.out]
      exact hJs

/-- All of a map that is there. -/
theorem all_some (b : Nat) (A : Option Addr) (n c : Nat) (w : World) (hb : w.heap[b]? = some (.cells #[.slice A n c, .bool true] 48 (0, 0))) :
    Calls Try.prog 14 #[.pointer (some ⟨b, 0, none⟩)] w fun e w' => e = .returned (.func (.func 31) #[] #[.pointer (some ⟨w.heap.size, 0, none⟩)]) ∧ w.alloc (.cells #[.slice A n c] 22) = w' := by
  have c0 := hp_cell hb 0
  have HT := Lib.hid (there_some b _ true w hb)
  clear hb
  go_enter Try.func14, Try.ntmps14
  go_wp2_with (first
    | (go_at_call 25; refine HT.out.mono ?_; rintro e w' ⟨rfl, rfl⟩)
    | (go_at_call 26; refine (rvals_any _ _ _ _).mono ?_; rintro e w' ⟨rfl, rfl⟩)
    | fail)
  go_ret
  exact ⟨rfl, rfl⟩
/-- .. and of one that isn't. -/
theorem all_not (p : Option Addr) (w : World) (hp : p = none ∨ ∃ b t, p = some ⟨b, 0, none⟩ ∧ w.heap[b]? = some (.cells #[t, .bool false] 48 (0, 0))) :
    Calls Try.prog 14 #[.pointer p] w fun e w' => e = .returned (.func (.func 31) #[] #[.pointer (some ⟨w.heap.size, 0, none⟩)]) ∧ w.alloc (.cells #[.slice none 0 0] 22) = w' := by
  have HT : Hid (Calls Try.prog 25 #[.pointer p] w fun e w' => e = .returned (.bool false) ∧ w = w') := by
    rcases hp with rfl | ⟨b, t, rfl, hb⟩
    · exact there_none w
    · exact there_some b t false w hb
  clear hp
  go_enter Try.func14, Try.ntmps14
  go_wp2_with (first
    | (go_at_call 25; refine HT.out.mono ?_; rintro e w' ⟨rfl, rfl⟩)
    | (go_at_call 26; refine (rvals_any _ _ _ _).mono ?_; rintro e w' ⟨rfl, rfl⟩)
    | fail)
  go_ret
  exact ⟨rfl, rfl⟩

theorem len_some (b : Nat) (A : Option Addr) (n c : Nat) (w : World) (hb : w.heap[b]? = some (.cells #[.slice A n c, .bool true] 48 (0, 0))) :
    Calls Try.prog 17 #[.pointer (some ⟨b, 0, none⟩)] w fun e w' => e = .returned (.int .i64 n) ∧ w = w' := by
  have c0 := hp_cell hb 0
  have HT := Lib.hid (there_some b _ true w hb)
  clear hb
  go_enter Try.func17, Try.ntmps17
  go_wp2_with (first
    | (go_at_call 25; refine HT.out.mono ?_; rintro e w' ⟨rfl, rfl⟩)
    | fail)
  go_ret
  exact ⟨rfl, rfl⟩
theorem len_none (w : World) : Calls Try.prog 17 #[.pointer none] w fun e w' => e = .returned (.int .i64 0) ∧ w = w' := by
  have HT := Lib.hid (there_none w)
  go_enter Try.func17, Try.ntmps17
  go_wp2_with (first
    | (go_at_call 25; refine HT.out.mono ?_; rintro e w' ⟨rfl, rfl⟩)
    | fail)
  go_ret
  exact ⟨rfl, rfl⟩

/-! ### The closures -/
theorem of1_any (x : Rg) (w : World) : Calls Try.prog 20 #[x.val] w fun e w' => e = .returned (.bool (badR x)) ∧ w.alloc (.cells #[.int .i32 x.lo, .int .i32 x.hi, .int .i64 x.v] 24) = w' := by
  unfold Rg.val
  have h1 : badR x = true ↔ x.lo < 0 ∨ x.hi < x.lo := by simp [badR]
  by_cases h0 : x.lo < 0
  · have hb : badR x = true := h1.2 (.inl h0)
    rw [hb]
    clear h1 hb
    go_enter Try.func20, Try.ntmps20
    go_wp2
    go_ret
    exact ⟨rfl, rfl⟩
  · obtain ⟨bb, hbb⟩ : ∃ bb, bb = badR x := ⟨_, rfl⟩
    have hd : decide (x.hi < x.lo) = bb := by rw [hbb]; simp [badR, h0]
    rw [← hbb]
    clear h1 hbb
    go_enter Try.func20, Try.ntmps20
    go_wp2
    go_ret
    exact ⟨by simp_all, rfl⟩

theorem nan_any (a : Int) (w : World) : Calls Try.prog 30 #[.int .i32 a] w fun e w' => e = .returned (.bool false) ∧ w = w' := by
  go_enter Try.func30, Try.ntmps30
  go_wp2
  go_ret
  exact ⟨by simp, rfl⟩
def cmpI (a b : Int) : Int := if a < b then -1 else if b < a then 1 else 0
theorem cmp_any (a b : Int) (w : World) : Calls Try.prog 24 #[.int .i32 a, .int .i32 b] w fun e w' => e = .returned (.int .i64 (cmpI a b)) ∧ w = w' := by
  by_cases h1 : a < b
  · have hc : cmpI a b = -1 := by simp [cmpI, h1]
    rw [hc]
    go_enter Try.func24, Try.ntmps24
    go_wp2_with (go_at_call 30; refine (nan_any _ _).mono ?_; rintro e w' ⟨rfl, rfl⟩)
    go_ret
    exact ⟨rfl, rfl⟩
  · by_cases h2 : b < a
    · have hc : cmpI a b = 1 := by simp [cmpI, h1, h2]
      rw [hc]
      go_enter Try.func24, Try.ntmps24
      go_wp2_with (go_at_call 30; refine (nan_any _ _).mono ?_; rintro e w' ⟨rfl, rfl⟩)
      go_ret
      exact ⟨rfl, rfl⟩
    · have hc : cmpI a b = 0 := by simp [cmpI, h1, h2]
      rw [hc]
      go_enter Try.func24, Try.ntmps24
      go_wp2_with (go_at_call 30; refine (nan_any _ _).mono ?_; rintro e w' ⟨rfl, rfl⟩)
      go_ret
      exact ⟨rfl, rfl⟩
theorem of2_any (x y : Rg) (w : World) : Calls Try.prog 23 #[x.val, y.val] w fun e w' => e = .returned (.int .i64 (cmpI x.lo y.lo)) ∧ (w.alloc (.cells #[.int .i32 x.lo, .int .i32 x.hi, .int .i64 x.v] 24)).alloc (.cells #[.int .i32 y.lo, .int .i32 y.hi, .int .i64 y.v] 24) = w' := by
  unfold Rg.val
  have H := Lib.hid (fun W => cmp_any x.lo y.lo W)
  obtain ⟨r, hr⟩ : ∃ r, r = cmpI x.lo y.lo := ⟨_, rfl⟩
  rw [← hr] at H ⊢
  clear hr
  go_enter Try.func23, Try.ntmps23
  go_wp2_with (go_at_call 24; refine (H.out _).mono ?_; rintro e w' ⟨rfl, rfl⟩)
  go_ret
  exact ⟨rfl, rfl⟩
end Go.Proofs.Ytaohdhblnjoihaa
