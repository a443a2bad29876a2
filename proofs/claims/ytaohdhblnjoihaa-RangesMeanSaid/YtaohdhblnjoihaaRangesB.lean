/-
  The package ranges: looking up, how many; the reference's lookups; going over a map.
-/
import Derived.Test.YtaohdhblnjoihaaRangesA
import Derived.Laws.StructEq
import Derived.WalkMore
import Derived.Outline
import Derived.Deep.LoopGhost
namespace Go.Proofs.Ytaohdhblnjoihaa
open Go.RowKit Go.Shelf
attribute [local go_sem] Oper.semAt_some

/-- The cells of element k, at hand. -/
theorem rd3 {D : Nat → Prop} {w : World} {A : Option Addr} {xs : List Rg} (h : Rd D w 3 Rg.cs A xs) {k : Nat} (hk : k < xs.length) :
    ∃ b off, A = some ⟨b, off, none⟩ ∧ D b ∧ w.cell? ⟨b, off + k * 3, none⟩ = some (.int .i32 xs[k].lo) ∧ w.cell? ⟨b, off + k * 3 + 1, none⟩ = some (.int .i32 xs[k].hi) ∧ w.cell? ⟨b, off + k * 3 + 2, none⟩ = some (.int .i64 xs[k].v) := by
  obtain ⟨b, off, rfl, hd, hc⟩ := h (by omega)
  exact ⟨b, off, rfl, hd, hc k hk 0 _ rfl, hc k hk 1 _ rfl, hc k hk 2 _ rfl⟩

def getV (l : List Rg) (r : Int) : Value := match val l r with | some v => .tuple #[.int .i64 v, .bool true] | none => .tuple #[.int .i64 0, .bool false]
theorem getV_some {l : List Rg} {r v : Int} (h : val l r = some v) : getV l r = .tuple #[.int .i64 v, .bool true] := by unfold getV; rw [h]
theorem getV_none {l : List Rg} {r : Int} (h : val l r = none) : getV l r = .tuple #[.int .i64 0, .bool false] := by unfold getV; rw [h]

set_option maxHeartbeats 1000000 in
theorem get_some (b : Nat) (A : Option Addr) (c : Nat) (xs : List Rg) (r : Int) (w : World) (hb : w.heap[b]? = some (.cells #[.slice A xs.length c, .bool true] 48 (0, 0)))
    (hA : Rd (fun b => b < w.heap.size) w 3 Rg.cs A xs) (hl : xs.length ≤ 4611686018427387904) (hc : Canon xs) :
    Calls Try.prog 15 #[.pointer (some ⟨b, 0, none⟩), .int .i32 r] w fun e w' => e = .returned (getV xs r) ∧ ∃ q, w.drewN q = w' := by
  have c0 := hp_cell hb 0
  have HT := Lib.hid (there_some b _ true w hb)
  clear hb
  obtain ⟨n, hn⟩ : ∃ n, n = xs.length := ⟨_, rfl⟩
  rw [← hn] at hl c0
  have HN := Lib.hid hn
  have HC := Lib.hid hc
  clear hn hc
  go_enter Try.func15, Try.ntmps15
  go_wp2
  go_step3
  go_wp2_with (first
    | (go_at_call 25; refine HT.out.mono ?_; rintro e w' ⟨rfl, rfl⟩)
    | fail)
  go_quiet (fail)
  go_wp2
  go_step3
  go_wp2
  have HA := Lib.hid hA
  clear hA
  go_loop [6, 7] (fun i j => ∃ lo hi : Nat, lo ≤ hi ∧ hi ≤ n ∧ i = .int .i64 lo ∧ j = .int .i64 hi ∧ (∀ k (h : k < xs.length), k < lo → xs[k].hi < r) ∧ (∀ k (h : k < xs.length), hi ≤ k → r < xs[k].lo)) (fun i j => (intOf j - intOf i).toNat)
  case atStart => exact ⟨0, n, Nat.zero_le _, Nat.le_refl _, rfl, rfl, fun k h h0 => by omega, fun k h h0 => by have := HN.out; omega⟩
  case round =>
    obtain ⟨lo, hi, hlh, hhn, rfl, rfl, h1, h2⟩ := hrel
    have H1 := Lib.hid h1
    have H2 := Lib.hid h2
    clear h1 h2
    by_cases he : lo = hi
    · obtain rfl := he
      have hv : val xs r = none := val_none.2 fun z hz => by
        obtain ⟨k, hk, rfl⟩ := List.getElem_of_mem hz
        rcases Nat.lt_or_ge k lo with h | h
        · have := H1.out k hk h; simp [inR]; omega
        · have := H2.out k hk h; simp [inR]; omega
      have HV := Lib.hid hv
      clear hv
      go_wp2
      try rw [Exit.noGoto_ret]
      go_ret2
      exact ⟨by rw [getV_none HV.out]; rfl, _, rfl⟩
    · have hlt : lo < hi := by omega
      obtain ⟨mid, hmid⟩ : ∃ mid, mid = (lo + hi) / 2 := ⟨_, rfl⟩
      have hm1 : lo ≤ mid := by omega
      have hm2 : mid < hi := by omega
      have hkx : mid < xs.length := by rw [← HN.out]; omega
      have hdiv : ((lo : Int) + (hi : Int)) / 2 = (mid : Int) := by rw [hmid]; omega
      clear hmid he
      obtain ⟨b', off, rfl, -, k0, k1, k2⟩ := rd3 HA.out hkx
      obtain ⟨g, hg⟩ : ∃ g, g = xs[mid] := ⟨_, rfl⟩
      rw [← hg] at k0 k1 k2
      have HG := Lib.hid hg
      clear hg
      by_cases hlo : r < g.lo
      · go_wp2
        go_round
        case rel =>
          refine ⟨lo, mid, hm1, by omega, rfl, by rw [hdiv], H1.out, fun k hk hge => ?_⟩
          rcases Nat.eq_or_lt_of_le hge with h | h
          · subst h; rw [← HG.out]; exact hlo
          · have := List.pairwise_iff_getElem.1 (canon_asc HC.out) mid k hkx hk h
            have := HC.out.1 xs[mid] (List.getElem_mem _)
            rw [HG.out] at hlo
            omega
        case measure => simp only [intOf]; omega
      · by_cases hhi : g.hi < r
        · go_wp2
          go_round
          case rel =>
            refine ⟨mid + 1, hi, hm2, hhn, by go_num, rfl, fun k hk hle => ?_, H2.out⟩
            rcases Nat.eq_or_lt_of_le (Nat.le_of_lt_succ hle) with h | h
            · subst h; rw [← HG.out]; exact hhi
            · have := List.pairwise_iff_getElem.1 (canon_asc HC.out) k mid hk hkx h
              have := HC.out.1 xs[mid] (List.getElem_mem _)
              rw [HG.out] at hhi
              omega
          case measure => simp only [intOf]; omega
        · have HV := Lib.hid (show val xs r = some g.v by rw [HG.out]; exact val_mem (canon_apart HC.out) (List.getElem_mem _) (by rw [← HG.out]; simp [inR]; omega))
          go_wp2
          try rw [Exit.noGoto_ret]
          go_ret2
          exact ⟨by rw [getV_some HV.out]; rfl, _, rfl⟩

theorem val_first {xs : List Rg} {k : Nat} {r : Int} (hk : k < xs.length) (h : ∀ j (hj : j < xs.length), j < k → inR xs[j] r = false) (hr : inR xs[k] r = true) : val xs r = some xs[k].v := by
  have e : xs = xs.take k ++ xs[k] :: xs.drop (k + 1) := by
    rw [List.getElem_cons_drop, List.take_append_drop]
  have hn : val (xs.take k) r = none := val_none.2 fun z hz => by
    obtain ⟨i, hi, rfl⟩ := List.getElem_of_mem hz
    rw [List.getElem_take]
    simp at hi
    exact h i (by omega) (by omega)
  have : val (xs.take k ++ xs[k] :: xs.drop (k + 1)) r = some xs[k].v := by
    rw [val_append, hn, val_cons, if_pos hr]; rfl
  rwa [← e] at this

set_option maxHeartbeats 1000000 in
theorem rrget_any (D : Nat → Prop) (A : Option Addr) (c : Nat) (xs : List Rg) (r : Int) (w : World) (hA : Rd D w 3 Rg.cs A xs) (hl : xs.length ≤ maxLen) :
    Calls Try.prog 16 #[.slice A xs.length c, .int .i32 r] w fun e w' => e = .returned (getV xs r) ∧ w = w' := by
  unfold maxLen at hl
  obtain ⟨n, hn⟩ : ∃ n, n = xs.length := ⟨_, rfl⟩
  rw [← hn] at hl ⊢
  have HN := Lib.hid hn
  have HA := Lib.hid hA
  clear hn hA
  go_enter Try.func16, Try.ntmps16
  go_wp2
  go_loop [6] (fun i => ∃ k : Nat, k ≤ n ∧ i = .int .i64 k ∧ ∀ j (hj : j < xs.length), j < k → inR xs[j] r = false) (fun i => n - (intOf i).toNat)
  case atStart => exact ⟨0, Nat.zero_le _, rfl, fun j hj h => by omega⟩
  case round =>
    obtain ⟨k, hk, rfl, h1⟩ := hrel
    have H1 := Lib.hid h1
    clear h1
    by_cases hlt : k < n
    · have hkx : k < xs.length := by rw [← HN.out]; exact hlt
      obtain ⟨b', off, rfl, -, k0, k1, k2⟩ := rd3 HA.out hkx
      obtain ⟨g, hg⟩ : ∃ g, g = xs[k] := ⟨_, rfl⟩
      rw [← hg] at k0 k1 k2
      have HG := Lib.hid hg
      clear hg
      by_cases hlo : g.lo ≤ r
      · by_cases hhi : r ≤ g.hi
        · have HV := Lib.hid (show val xs r = some g.v by rw [HG.out]; exact val_first hkx H1.out (by rw [← HG.out]; simp [inR]; omega))
          go_wp2
          go_ret2
          exact ⟨by rw [getV_some HV.out]; rfl, rfl⟩
        · have HV := Lib.hid (show inR g r = false by simp [inR]; omega)
          go_wp2
          go_round
          case rel =>
            refine ⟨k + 1, by omega, by go_num, fun j hj hjk => ?_⟩
            rcases Nat.eq_or_lt_of_le (Nat.le_of_lt_succ hjk) with h | h
            · subst h; rw [← HG.out]; exact HV.out
            · exact H1.out j hj h
          case measure => simp only [intOf]; omega
      · have HV := Lib.hid (show inR g r = false by simp [inR]; omega)
        go_wp2
        go_round
        case rel =>
          refine ⟨k + 1, by omega, by go_num, fun j hj hjk => ?_⟩
          rcases Nat.eq_or_lt_of_le (Nat.le_of_lt_succ hjk) with h | h
          · subst h; rw [← HG.out]; exact HV.out
          · exact H1.out j hj h
        case measure => simp only [intOf]; omega
    · have HV := Lib.hid (show val xs r = none from val_none.2 fun z hz => by
        obtain ⟨j, hj, rfl⟩ := List.getElem_of_mem hz
        exact H1.out j hj (by have := HN.out; omega))
      go_wp2
      go_ret2
      exact ⟨by rw [getV_none HV.out]; rfl, rfl⟩

theorem tot_bd (xs : List Rg) (hf : ∀ x ∈ xs, FitR x) : -(4294967297 * xs.length : Int) ≤ tot xs ∧ tot xs ≤ 4294967297 * xs.length := by
  induction xs with
  | nil => simp [tot]
  | cons x l ih =>
    have h1 := ih fun z hz => hf z (by simp [hz])
    have h2 := hf x (by simp)
    unfold FitR at h2
    rw [tot_cons, List.length_cons]
    omega
theorem tot_take {xs : List Rg} {k : Nat} (hk : k < xs.length) : tot (xs.take (k + 1)) = tot (xs.take k) + (xs[k].hi - xs[k].lo + 1) := by
  rw [List.take_succ_eq_append_getElem hk, tot_append, tot_cons]; (have t0 : tot [] = 0 := rfl); omega

set_option maxHeartbeats 1000000 in
theorem rrmany_any (D : Nat → Prop) (A : Option Addr) (c : Nat) (xs : List Rg) (w : World) (hA : Rd D w 3 Rg.cs A xs) (hl : xs.length ≤ 1000000) (hf : ∀ x ∈ xs, FitR x) :
    Calls Try.prog 18 #[.slice A xs.length c] w fun e w' => e = .returned (.int .i64 (tot xs)) ∧ ∃ q, w.drewN q = w' := by
  obtain ⟨n, hn⟩ : ∃ n, n = xs.length := ⟨_, rfl⟩
  rw [← hn] at hl ⊢
  have HN := Lib.hid hn
  have HA := Lib.hid hA
  have HF := Lib.hid hf
  clear hn hA hf
  go_enter Try.func18, Try.ntmps18
  go_wp2
  go_loopw [3, 4] (fun a i wr => ∃ k : Nat, k ≤ n ∧ i = .int .i64 k ∧ a = .int .i64 (tot (xs.take k)) ∧ ∃ q, wr = w.drewN q) (fun _ i _ => n - (intOf i).toNat)
  case atStart => exact ⟨0, Nat.zero_le _, rfl, rfl, 0, rfl⟩
  case round =>
    obtain ⟨k, hk, rfl, rfl, q, rfl⟩ := hrel
    have hb := tot_bd (xs.take k) fun x hx => HF.out x (List.mem_of_mem_take hx)
    obtain ⟨t, ht⟩ : ∃ t, t = tot (xs.take k) := ⟨_, rfl⟩
    rw [← ht] at hb ⊢
    rw [List.length_take] at hb
    have HT := Lib.hid ht
    have hb1 : -4294967297000000 ≤ t := by omega
    have hb2 : t ≤ 4294967297000000 := by omega
    clear ht hb
    by_cases hlt : k < n
    · have hkx : k < xs.length := by rw [← HN.out]; exact hlt
      obtain ⟨b', off, rfl, -, k0, k1, k2⟩ := rd3 HA.out hkx
      have hfx := HF.out xs[k] (List.getElem_mem _)
      have HS := Lib.hid (tot_take hkx)
      obtain ⟨g, hg⟩ : ∃ g, g = xs[k] := ⟨_, rfl⟩
      rw [← hg] at k0 k1 k2 hfx HS
      have HG := Lib.hid hg
      clear hg
      unfold FitR at hfx
      obtain ⟨f1, f2, f3, f4⟩ := hfx
      go_wp2
      go_quiet (fail)
      go_wp2
      go_roundw
      case rel => exact ⟨k + 1, by omega, by go_num, by rw [HS.out, ← HT.out]; go_num, _, rfl⟩
      case measure => simp only [intOf]; omega
    · have HE := Lib.hid (show t = tot xs by rw [HT.out, List.take_of_length_le (by have := HN.out; omega)])
      go_wp2
      go_ret
      exact ⟨by rw [← HE.out]; rfl, q, rfl⟩
end Go.Proofs.Ytaohdhblnjoihaa
