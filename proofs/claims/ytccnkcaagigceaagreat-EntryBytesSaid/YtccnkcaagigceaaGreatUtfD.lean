/-
  The document's layer 1: a rune's bytes, the first rune.
-/
import Derived.Test.YtccnkcaagigceaaGreatUtfC
import Derived.Test.YtccnkcaagigceaaGreatApp1
import Derived.Test.YtccnkcaagigceaaGreatStr
namespace Go.Proofs.YtccnkcaagigceaaGreat
open Go.RowKit Go.Shelf
attribute [local go_sem] Oper.semAt_some

/-- A contract that leaves the world as it is, in a region that only reads. -/
theorem quiet_eq {P : Program} {f : FuncId} {args : Array Value} {w : World} {n : Nat} {v : Value}
    (h : Calls P f args (w.drewN n) fun e w' => e = .returned v ∧ w.drewN n = w') : Calls P f args (w.drewN n) fun e w'' => e = .returned v ∧ ∃ m, w'' = w.drewN m :=
  Calls.quiet_of_same (h.mono fun _ _ ⟨he, hm⟩ => ⟨he, hm.symm⟩)
def putV (r : Nat) : Array Value := ((putN r).map fun b : Nat => Value.int .u8 (b : Int)).toArray
theorem wrap_u8' (n : Int) (h0 : 0 ≤ n) (h : n < 256) : IntKind.u8.wrap n = n := by
  obtain ⟨m, rfl⟩ := Int.eq_ofNat_of_zero_le h0
  exact wrap_u8 m (by omega)
set_option maxRecDepth 100000 in
set_option maxHeartbeats 1000000 in
theorem rput_any (r : Nat) (w : World) (hr : r ≤ 1114111) : Calls Tryz.prog 93 #[.int .i32 r] w fun e w' => e = .returned (.slice (some ⟨w.heap.size, 0, none⟩) (putN r).length (putN r).length) ∧ w.alloc (.cells (putV r) 5 (0, 0)) = w' := by
  by_cases h1 : r ≤ 127
  · have hp : putN r = [r] := by unfold putN; rw [if_pos h1]
    unfold putV
    rw [hp]
    clear hp
    go_enter Tryz.func93, Tryz.ntmps93
    go_wp2
    go_ret
    exact ⟨rfl, rfl⟩
  by_cases h2 : r ≤ 2047
  · have hp : putN r = [192 + r / 64, 128 + r % 64] := by unfold putN; rw [if_neg h1, if_pos h2]
    unfold putV
    rw [hp]
    clear hp
    go_enter Tryz.func93, Tryz.ntmps93
    go_wp2
    go_ret
    exact ⟨rfl, rfl⟩
  by_cases h3 : r ≤ 65535
  · have hp : putN r = [224 + r / 4096, 128 + r / 64 % 64, 128 + r % 64] := by unfold putN; rw [if_neg h1, if_neg h2, if_pos h3]
    unfold putV
    rw [hp]
    clear hp
    go_enter Tryz.func93, Tryz.ntmps93
    go_wp2
    go_ret
    exact ⟨rfl, rfl⟩
  · have hp : putN r = [240 + r / 262144, 128 + r / 4096 % 64, 128 + r / 64 % 64, 128 + r % 64] := by unfold putN; rw [if_neg h1, if_neg h2, if_neg h3]
    unfold putV
    rw [hp]
    clear hp
    go_enter Tryz.func93, Tryz.ntmps93
    go_wp2
    go_ret
    exact ⟨rfl, rfl⟩

/-- The number of the first i of n bytes. -/
def partR (n : Nat) : Nat → List Nat → Nat
  | 0, _ => 0
  | _ + 1, [] => 0
  | i + 1, a :: s => (s.take i).foldl (fun x b => 64 * x + b % 64) (firstM n a)
theorem partR_num (n : Nat) (s : List Nat) (h : 0 < n) : partR n n s = numR n s := by
  obtain ⟨k, rfl⟩ : ∃ k, n = k + 1 := ⟨n - 1, by omega⟩
  cases s with
  | nil => rfl
  | cons a s => rfl
theorem partR_one (n : Nat) (s : List Nat) (h : 0 < s.length) : partR n 1 s = firstM n s[0] := by
  cases s with
  | nil => simp at h
  | cons a s => rfl
theorem partR_succ (n i : Nat) (s : List Nat) (h : i + 1 < s.length) : partR n (i + 2) s = 64 * partR n (i + 1) s + s[i + 1] % 64 := by
  cases s with
  | nil => simp at h
  | cons a s =>
    simp only [List.length_cons] at h
    simp only [partR, List.getElem_cons_succ]
    rw [List.take_succ_eq_append_getElem (by omega), List.foldl_append]
    rfl
theorem fold_lt (s : List Nat) (x M : Nat) (h : x < M) : s.foldl (fun x b => 64 * x + b % 64) x < M * 64 ^ s.length := by
  induction s generalizing x M with
  | nil => simpa using h
  | cons b s ih =>
    rw [List.foldl_cons, List.length_cons, Nat.pow_succ, Nat.mul_comm (64 ^ s.length) 64, ← Nat.mul_assoc]
    exact ih (64 * x + b % 64) (M * 64) (by omega)
theorem partR_le (n i : Nat) (s : List Nat) (hn : n ≤ 4) (hi : i ≤ n) (hs : ∀ x ∈ s, x < 256) : partR n i s ≤ 2097151 := by
  cases i with
  | zero => simp [partR]
  | succ i =>
    cases s with
    | nil => simp [partR]
    | cons a s =>
      have ha : a < 256 := hs a (by simp)
      have hl : (s.take i).length ≤ i := List.length_take_le _ _
      have hk := Nat.pow_le_pow_right (show 0 < 64 by decide) hl
      simp only [partR]
      have hb : ∀ M j, firstM n a < M → i ≤ j → (s.take i).foldl (fun x b => 64 * x + b % 64) (firstM n a) < M * 64 ^ j := fun M j hM hj =>
        Nat.lt_of_lt_of_le (fold_lt (s.take i) _ M hM) (Nat.mul_le_mul_left _ (Nat.pow_le_pow_right (by decide) (by omega)))
      rcases (show n = 1 ∨ n = 2 ∨ n = 3 ∨ n = 4 by omega) with rfl | rfl | rfl | rfl
      · have := hb 256 0 (by simp only [firstM]; omega) (by omega); omega
      · have := hb 32 1 (by simp only [firstM]; omega) (by omega); omega
      · have := hb 16 2 (by simp only [firstM]; omega) (by omega); omega
      · have := hb 8 3 (by simp only [firstM]; omega) (by omega); omega
theorem putN_lt (r : Nat) (hr : r ≤ 1114111) : ∀ b ∈ putN r, b < 256 := by
  intro b hb
  unfold putN at hb
  split at hb
  · simp at hb; omega
  · split at hb
    · simp at hb; omega
    · split at hb
      · simp at hb; omega
      · simp at hb; omega
theorem putN_pos (r : Nat) : 0 < (putN r).length ∧ (putN r).length ≤ 4 := by
  unfold putN
  split
  · simp
  · split
    · simp
    · split <;> simp
def putB (r : Nat) : Bs := (putN r).map UInt8.ofNat
theorem natB_putB (r : Nat) (hr : r ≤ 1114111) : natB (putB r) = putN r := by
  unfold natB putB
  rw [List.map_map]
  have : (putN r).map (UInt8.toNat ∘ UInt8.ofNat) = (putN r).map id := List.map_congr_left fun b hb => by
    have := putN_lt r hr b hb
    simp only [Function.comp, UInt8.toNat_ofNat', id]
    omega
  rw [this, List.map_id]
theorem natB_inj {a b : Bs} : natB a = natB b ↔ a = b := by
  constructor
  · intro h
    exact List.map_inj_right (fun _ _ h => UInt8.toNat_inj.1 h) |>.1 h
  · rintro rfl; rfl
theorem natB_take (s : Bs) (n : Nat) : natB (s.take n) = (natB s).take n := List.map_take
theorem putB_eq (r n : Nat) (s : Bs) (hr : r ≤ 1114111) : decide (putB r = s.take n) = decide (putN r = (natB s).take n) := by
  rw [decide_eq_decide, ← natB_inj, natB_putB r hr, natB_take]
theorem putV_eq (r : Nat) (hr : r ≤ 1114111) : (putV r).toList = (putB r).flatMap csU := by
  unfold putV
  rw [← natB_putB r hr]
  unfold natB csU
  induction putB r with
  | nil => rfl
  | cons b l ih => simp at ih ⊢; exact ih
theorem putB_len (r : Nat) : (putB r).length = (putN r).length := by simp [putB]
theorem put_str (r : Nat) (hr : r ≤ 1114111) (X : World) (c : Nat) : (convert 25 9 (.slice (some ⟨X.heap.size, 0, none⟩) (putN r).length c)).run Tryz.prog (X.alloc (.cells (putV r) 5 (0, 0))).drew = .ok (.string ⟨(putB r).toArray⟩) (X.alloc (.cells (putV r) 5 (0, 0))).drew := by
  rw [← putB_len]
  refine run_str_of (D := fun b => b = X.heap.size) (xs := putB r) ?_ c
  exact Rd.blk csU_len (hp_drew (hp_new X _)) (putV_eq r hr)
theorem nextU_take4 (s : Bs) : nextU (s.take 4) = nextU s := by
  rcases s with _ | ⟨a, s⟩
  · rfl
  · rw [List.take_succ_cons]
    simp only [nextU]
    cases hh : headN a.toNat with
    | none => rfl
    | some p =>
      obtain ⟨r, n⟩ := p
      have hn := headN_le hh
      simp only
      rw [List.take_take, Nat.min_eq_left hn.1]
      by_cases hl : s.length < n
      · rw [if_pos hl, if_pos (by rw [List.length_take]; omega)]
      · rw [if_neg hl, if_neg (by rw [List.length_take]; omega)]
def nextP (l : Bs) : Nat × Nat := (nextU l).getD (0, 0)
theorem tryR_hit {s : List Nat} {f n : Nat} (h : hitR n s = true) : tryR s (f + 1) n = some (numR n s, n) := by rw [tryR_go, if_pos h]
theorem tryR_no {s : List Nat} {f n : Nat} (h : hitR n s = false) : tryR s (f + 1) n = tryR s f (n + 1) := by rw [tryR_go, if_neg (by simp [h])]
theorem tryR_short {s : List Nat} : ∀ {f n : Nat}, s.length < n → tryR s f n = none
  | 0, _, _ => rfl
  | f + 1, n, h => by rw [tryR_no (hit_short h)]; exact tryR_short (by omega)
end Go.Proofs.YtccnkcaagigceaaGreat
