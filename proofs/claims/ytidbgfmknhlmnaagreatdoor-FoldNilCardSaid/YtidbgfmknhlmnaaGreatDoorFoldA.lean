/-
  Foldings: surrogates, clashes.
-/
import Derived.Test.YtidbgfmknhlmnaaGreatDoorFieldsS
import Derived.Test.YtidbgfmknhlmnaaGreatDoorFoldP
import Derived.Test.YtidbgfmknhlmnaaGreatDoorKeys
import Derived.Test.YtidbgfmknhlmnaaGreatDoorQt
namespace Go.Proofs.YtidbgfmknhlmnaaGreatDoor
open Go.RowKit Go.Shelf
attribute [local go_sem] Oper.semAt_some

def surI (r : Int) : Bool := decide (55296 ≤ r) && decide (r ≤ 57343)
theorem surI_nat (r : Nat) : surI (r : Int) = surN r := by
  unfold surI surN
  rw [Bool.eq_iff_iff]
  simp only [Bool.and_eq_true, decide_eq_true_eq]
  omega
theorem fsur_any (r : Int) (w : World) : Calls Tryz.prog 49 #[.int .i32 r] w fun e w' => e = .returned (.bool (surI r)) ∧ w' = w := by
  obtain ⟨x, hx⟩ : ∃ x, decide (55296 ≤ r) = x := ⟨_, rfl⟩
  obtain ⟨y, hy⟩ : ∃ y, decide (r ≤ 57343) = y := ⟨_, rfl⟩
  have HS := Lib.hid (show surI r = (x && y) by unfold surI; rw [hx, hy])
  cases x
  all_goals
    go_enter Tryz.func49, Tryz.ntmps49
    go_wp2
    go_ret
    exact ⟨by rw [HS.out]; rfl, rfl⟩
theorem gsur_any (r : Int) (w : World) : Calls Tryz.prog 55 #[.int .i32 r] w fun e w' => e = .returned (.bool (surI r)) ∧ w' = w := by
  obtain ⟨x, hx⟩ : ∃ x, decide (55296 ≤ r) = x := ⟨_, rfl⟩
  obtain ⟨y, hy⟩ : ∃ y, decide (r ≤ 57343) = y := ⟨_, rfl⟩
  have HS := Lib.hid (show surI r = (x && y) by unfold surI; rw [hx, hy])
  cases x
  all_goals
    go_enter Tryz.func55, Tryz.ntmps55
    go_wp2
    go_ret
    exact ⟨by rw [HS.out]; rfl, rfl⟩
set_option maxRecDepth 100000 in
set_option maxHeartbeats 1000000 in
/-- slices.IndexFunc(l, surrogate). -/
theorem fidx_any (D : Nat → Prop) (A : Option Addr) (c : Nat) (xs : List Int) (w : World) (hA : Rd D w 1 csI A xs) (hl : xs.length ≤ 1000000000) :
    Calls Tryz.prog 73 #[.slice A xs.length c, .func (.func 49) #[] #[]] w fun e w' => ∃ z : Int, e = .returned (.int .i64 z) ∧ decide (0 ≤ z) = xs.any surI ∧ w' = w := by
  obtain ⟨n, hn⟩ : ∃ n, n = xs.length := ⟨_, rfl⟩
  rw [← hn] at hl ⊢
  have HN := Lib.hid hn
  have HA := Lib.hid hA
  have HS := Lib.hid (fun r => fsur_any r w)
  clear hn hA
  go_enter Tryz.func73, Tryz.ntmps73
  go_wp2
  go_loopw [8] (fun i wr => ∃ k : Nat, k ≤ n ∧ i = .int .i64 k ∧ (xs.take k).any surI = false ∧ wr = w) (fun i _ => n - (intOf i).toNat)
  case atStart => exact ⟨0, Nat.zero_le _, rfl, rfl, rfl⟩
  case round =>
    obtain ⟨k, hk, rfl, ha, rfl⟩ := hrel
    have HAny := Lib.hid ha
    clear ha
    by_cases hlt : k < n
    · have hkx : k < xs.length := by rw [← HN.out]; exact hlt
      obtain ⟨b, off, rfl, -, q1⟩ := rdI HA.out hkx
      obtain ⟨x, hx⟩ : ∃ x, x = xs[k] := ⟨_, rfl⟩
      rw [← hx] at q1
      have HT := Lib.hid (show xs.take (k + 1) = xs.take k ++ [x] by rw [hx]; exact List.take_succ_eq_append_getElem hkx)
      have HX := Lib.hid (show x ∈ xs by rw [hx]; exact List.getElem_mem hkx)
      have hc := HS.out x
      obtain ⟨s, hs⟩ : ∃ s, s = surI x := ⟨_, rfl⟩
      rw [← hs] at hc
      have HC := Lib.hid hc
      have HSx := Lib.hid hs
      clear hx hc hs
      cases s
      · go_wp2_with (first | (go_at_call 49; (with_reducible refine HC.out.mono ?_); rintro e w2 ⟨rfl, rfl⟩) | fail)
        exact ⟨⟨k + 1, by omega, by go_num, by rw [HT.out, List.any_append, HAny.out, List.any_cons, ← HSx.out]; rfl, by first | rfl | trivial⟩, by simp only [intOf]; omega⟩
      · have HF := Lib.hid (show xs.any surI = true from List.any_eq_true.2 ⟨x, HX.out, HSx.out.symm⟩)
        go_wp2_with (first | (go_at_call 49; (with_reducible refine HC.out.mono ?_); rintro e w2 ⟨rfl, rfl⟩) | fail)
        go_ret
        exact ⟨(k : Int), rfl, by rw [HF.out]; simp, rfl⟩
    · obtain rfl : k = n := by omega
      have HF := Lib.hid (show xs.any surI = false by have := HAny.out; rwa [HN.out, List.take_length] at this)
      go_wp2
      go_ret
      exact ⟨-1, rfl, by rw [HF.out]; rfl, rfl⟩
theorem fcont_any (D : Nat → Prop) (A : Option Addr) (c : Nat) (xs : List Int) (w : World) (hA : Rd D w 1 csI A xs) (hl : xs.length ≤ 1000000000) :
    Calls Tryz.prog 50 #[.slice A xs.length c, .func (.func 49) #[] #[]] w fun e w' => e = .returned (.bool (xs.any surI)) ∧ w' = w := by
  have H := Lib.hid (fidx_any D A c xs w hA hl)
  obtain ⟨n, hn⟩ : ∃ n, n = xs.length := ⟨_, rfl⟩
  rw [← hn] at H ⊢
  obtain ⟨r, hr⟩ : ∃ r, r = xs.any surI := ⟨_, rfl⟩
  rw [← hr] at H ⊢
  clear hn hr hA hl
  go_enter Tryz.func50, Tryz.ntmps50
  go_wp2_with (first | (go_at_call 73; (with_reducible refine H.out.mono ?_); rintro e w2 ⟨z, rfl, hz, rfl⟩; have HZ := Lib.hid hz; clear hz) | fail)
  go_ret
  exact ⟨ret_bool HZ.out, rfl⟩
/-! ### Clashes -/
def stB (b : UInt8) : Prop := b = 67 ∨ b = 70 ∨ b = 83 ∨ b = 84
set_option maxRecDepth 100000 in
set_option maxHeartbeats 8000000 in
theorem fclash_any (l s : Bs) (w : World) (hl : ∀ b ∈ l, stB b) (hs : s = [67] ∨ s = [70] ∨ s = [83] ∨ s = [84]) (hll : l.length ≤ 1000000000) :
    Calls Tryz.prog 51 #[.string ⟨l.toArray⟩, .string ⟨s.toArray⟩] w fun e w' => e = .returned (.bool (l.any fun b => clashB b s)) ∧ Mod (fun _ => False) w w' := by
  obtain ⟨r, hr⟩ : ∃ r, r = l.any fun b => clashB b s := ⟨_, rfl⟩
  rw [← hr]
  have HR := Lib.hid hr
  have HL := Lib.hid hl
  have v1 : ∀ w, (convert 21 9 (.int .i32 67)).run Tryz.prog w = .ok (.string ⟨#[67]⟩) w := fun w => by kernel_rfl
  have v2 : ∀ w, (convert 21 9 (.int .i32 70)).run Tryz.prog w = .ok (.string ⟨#[70]⟩) w := fun w => by kernel_rfl
  have v3 : ∀ w, (convert 21 9 (.int .i32 83)).run Tryz.prog w = .ok (.string ⟨#[83]⟩) w := fun w => by kernel_rfl
  have v4 : ∀ w, (convert 21 9 (.int .i32 84)).run Tryz.prog w = .ok (.string ⟨#[84]⟩) w := fun w => by kernel_rfl
  clear hr hl
  have HSt : ∀ t : Bs, t = s → Hid (∀ (b : UInt8) (k : Nat), (l.take (k + 1) = l.take k ++ [b]) → ((l.take k).any fun b => clashB b t) = false → clashB b t = false → ((l.take (k + 1)).any fun b => clashB b t) = false) := fun t _ => Lib.hid fun b k e h h2 => by
    rw [e, List.any_append, h, List.any_cons, h2]; rfl
  rcases hs with rfl | rfl | rfl | rfl
  · have HSt := HSt _ rfl
    go_enter Tryz.func51, Tryz.ntmps51
    go_wp2
    go_loopw [6, 7] (fun _ _ wr => ∃ k : Nat, k ≤ l.length ∧ wr = w.iter ⟨l.toArray⟩ k ∧ ((l.take k).any fun b => clashB b [67]) = false) (fun _ _ wr => l.length - wr.iterPos w.heap.size)
    case atStart => exact ⟨0, Nat.zero_le _, rfl, rfl⟩
    case round =>
      obtain ⟨k, hk, rfl, ha⟩ := hrel
      have HA := Lib.hid ha
      clear ha
      by_cases hlt : k < l.length
      · obtain ⟨r', wd, hnx, hr1, hr2, hr3⟩ := next_at l k hlt w
        have hbb := HL.out _ (List.getElem_mem hlt)
        have HT := Lib.hid (show l.take (k + 1) = l.take k ++ [l[k]] from List.take_succ_eq_append_getElem hlt)
        have HY := Lib.hid (fun (h : clashB l[k] _ = true) => HR.out.trans (List.any_eq_true.2 ⟨l[k], List.getElem_mem _, h⟩))
        obtain ⟨b, hb⟩ : ∃ b, b = l[k] := ⟨_, rfl⟩
        rw [← hb] at hr1 hr2 hbb HT HY
        clear hb hr2 hr3
        rcases hbb with rfl | rfl | rfl | rfl
        all_goals
          obtain ⟨rfl, rfl⟩ := hr1 (by decide)
          clear hr1
          first
          | have HF := Lib.hid (HY.out (by decide))
            go_wp2
            go_ret
            exact ⟨by rw [HF.out]; rfl, iter_mod _ _ _⟩
          | go_wp2
            exact ⟨⟨k + 1, by omega, rfl, HSt.out _ _ HT.out HA.out (by decide)⟩, by simp only [World.iterPos_iter]; omega⟩
      · obtain rfl : k = l.length := by omega
        have hnx := fun ty => run_next_end (P := Tryz.prog) w ⟨l.toArray⟩ l.length ty (Nat.lt_irrefl _)
        have HF := Lib.hid (show r = false by rw [HR.out]; have := HA.out; rwa [List.take_length] at this)
        go_wp2
        go_ret
        exact ⟨by rw [HF.out]; rfl, iter_mod _ _ _⟩
  · have HSt := HSt _ rfl
    go_enter Tryz.func51, Tryz.ntmps51
    go_wp2
    go_loopw [6, 7] (fun _ _ wr => ∃ k : Nat, k ≤ l.length ∧ wr = w.iter ⟨l.toArray⟩ k ∧ ((l.take k).any fun b => clashB b [70]) = false) (fun _ _ wr => l.length - wr.iterPos w.heap.size)
    case atStart => exact ⟨0, Nat.zero_le _, rfl, rfl⟩
    case round =>
      obtain ⟨k, hk, rfl, ha⟩ := hrel
      have HA := Lib.hid ha
      clear ha
      by_cases hlt : k < l.length
      · obtain ⟨r', wd, hnx, hr1, hr2, hr3⟩ := next_at l k hlt w
        have hbb := HL.out _ (List.getElem_mem hlt)
        have HT := Lib.hid (show l.take (k + 1) = l.take k ++ [l[k]] from List.take_succ_eq_append_getElem hlt)
        have HY := Lib.hid (fun (h : clashB l[k] _ = true) => HR.out.trans (List.any_eq_true.2 ⟨l[k], List.getElem_mem _, h⟩))
        obtain ⟨b, hb⟩ : ∃ b, b = l[k] := ⟨_, rfl⟩
        rw [← hb] at hr1 hr2 hbb HT HY
        clear hb hr2 hr3
        rcases hbb with rfl | rfl | rfl | rfl
        all_goals
          obtain ⟨rfl, rfl⟩ := hr1 (by decide)
          clear hr1
          first
          | have HF := Lib.hid (HY.out (by decide))
            go_wp2
            go_ret
            exact ⟨by rw [HF.out]; rfl, iter_mod _ _ _⟩
          | go_wp2
            exact ⟨⟨k + 1, by omega, rfl, HSt.out _ _ HT.out HA.out (by decide)⟩, by simp only [World.iterPos_iter]; omega⟩
      · obtain rfl : k = l.length := by omega
        have hnx := fun ty => run_next_end (P := Tryz.prog) w ⟨l.toArray⟩ l.length ty (Nat.lt_irrefl _)
        have HF := Lib.hid (show r = false by rw [HR.out]; have := HA.out; rwa [List.take_length] at this)
        go_wp2
        go_ret
        exact ⟨by rw [HF.out]; rfl, iter_mod _ _ _⟩
  · have HSt := HSt _ rfl
    go_enter Tryz.func51, Tryz.ntmps51
    go_wp2
    go_loopw [6, 7] (fun _ _ wr => ∃ k : Nat, k ≤ l.length ∧ wr = w.iter ⟨l.toArray⟩ k ∧ ((l.take k).any fun b => clashB b [83]) = false) (fun _ _ wr => l.length - wr.iterPos w.heap.size)
    case atStart => exact ⟨0, Nat.zero_le _, rfl, rfl⟩
    case round =>
      obtain ⟨k, hk, rfl, ha⟩ := hrel
      have HA := Lib.hid ha
      clear ha
      by_cases hlt : k < l.length
      · obtain ⟨r', wd, hnx, hr1, hr2, hr3⟩ := next_at l k hlt w
        have hbb := HL.out _ (List.getElem_mem hlt)
        have HT := Lib.hid (show l.take (k + 1) = l.take k ++ [l[k]] from List.take_succ_eq_append_getElem hlt)
        have HY := Lib.hid (fun (h : clashB l[k] _ = true) => HR.out.trans (List.any_eq_true.2 ⟨l[k], List.getElem_mem _, h⟩))
        obtain ⟨b, hb⟩ : ∃ b, b = l[k] := ⟨_, rfl⟩
        rw [← hb] at hr1 hr2 hbb HT HY
        clear hb hr2 hr3
        rcases hbb with rfl | rfl | rfl | rfl
        all_goals
          obtain ⟨rfl, rfl⟩ := hr1 (by decide)
          clear hr1
          first
          | have HF := Lib.hid (HY.out (by decide))
            go_wp2
            go_ret
            exact ⟨by rw [HF.out]; rfl, iter_mod _ _ _⟩
          | go_wp2
            exact ⟨⟨k + 1, by omega, rfl, HSt.out _ _ HT.out HA.out (by decide)⟩, by simp only [World.iterPos_iter]; omega⟩
      · obtain rfl : k = l.length := by omega
        have hnx := fun ty => run_next_end (P := Tryz.prog) w ⟨l.toArray⟩ l.length ty (Nat.lt_irrefl _)
        have HF := Lib.hid (show r = false by rw [HR.out]; have := HA.out; rwa [List.take_length] at this)
        go_wp2
        go_ret
        exact ⟨by rw [HF.out]; rfl, iter_mod _ _ _⟩
  · have HSt := HSt _ rfl
    go_enter Tryz.func51, Tryz.ntmps51
    go_wp2
    go_loopw [6, 7] (fun _ _ wr => ∃ k : Nat, k ≤ l.length ∧ wr = w.iter ⟨l.toArray⟩ k ∧ ((l.take k).any fun b => clashB b [84]) = false) (fun _ _ wr => l.length - wr.iterPos w.heap.size)
    case atStart => exact ⟨0, Nat.zero_le _, rfl, rfl⟩
    case round =>
      obtain ⟨k, hk, rfl, ha⟩ := hrel
      have HA := Lib.hid ha
      clear ha
      by_cases hlt : k < l.length
      · obtain ⟨r', wd, hnx, hr1, hr2, hr3⟩ := next_at l k hlt w
        have hbb := HL.out _ (List.getElem_mem hlt)
        have HT := Lib.hid (show l.take (k + 1) = l.take k ++ [l[k]] from List.take_succ_eq_append_getElem hlt)
        have HY := Lib.hid (fun (h : clashB l[k] _ = true) => HR.out.trans (List.any_eq_true.2 ⟨l[k], List.getElem_mem _, h⟩))
        obtain ⟨b, hb⟩ : ∃ b, b = l[k] := ⟨_, rfl⟩
        rw [← hb] at hr1 hr2 hbb HT HY
        clear hb hr2 hr3
        rcases hbb with rfl | rfl | rfl | rfl
        all_goals
          obtain ⟨rfl, rfl⟩ := hr1 (by decide)
          clear hr1
          first
          | have HF := Lib.hid (HY.out (by decide))
            go_wp2
            go_ret
            exact ⟨by rw [HF.out]; rfl, iter_mod _ _ _⟩
          | go_wp2
            exact ⟨⟨k + 1, by omega, rfl, HSt.out _ _ HT.out HA.out (by decide)⟩, by simp only [World.iterPos_iter]; omega⟩
      · obtain rfl : k = l.length := by omega
        have hnx := fun ty => run_next_end (P := Tryz.prog) w ⟨l.toArray⟩ l.length ty (Nat.lt_irrefl _)
        have HF := Lib.hid (show r = false by rw [HR.out]; have := HA.out; rwa [List.take_length] at this)
        go_wp2
        go_ret
        exact ⟨by rw [HF.out]; rfl, iter_mod _ _ _⟩
end Go.Proofs.YtidbgfmknhlmnaaGreatDoor
