/-
  The reference of the package tlv: a value, the first value.
-/
import Derived.Test.YtccnkcaagigceaaGreatTlvB
import Derived.BigQuiet
namespace Go.Proofs.YtccnkcaagigceaaGreat
open Go.RowKit Go.Shelf
attribute [local go_sem] Oper.semAt_some

section
variable {α : Type} {E sz : Nat} {cs : α → List Value} {base : Nat} {xs : List α} {w : World}
theorem own_of_cells' (hcs : ∀ x, (cs x).length = sz) {g c : Nat} {cur : Array Value} (hh : w.heap[g]? = some (.cells cur E (0, 0))) (hb : base ≤ g) (hc : xs.length ≤ c) (hm : c ≤ maxLen) (hsz : cur.size = c * sz)
    (h : ∀ k (hk : k < xs.length) j u, (cs xs[k])[j]? = some u → w.cell? ⟨g, 0 + k * sz + j, none⟩ = some u) : OwnS base E sz cs w (.slice (some ⟨g, 0, none⟩) xs.length c) xs := by
  refine ⟨flat_length hcs xs, .inr ⟨g, c, cur, rfl, hb, hh, hc, hm, hsz, ?_⟩⟩
  have hle : xs.length * sz ≤ c * sz := Nat.mul_le_mul_right _ hc
  refine flat_ext hcs _ (by have h0 : cur.toList.length = cur.size := Array.length_toList; rw [List.length_take, h0, hsz]; exact Nat.min_eq_left hle) fun k hk j hj => ?_
  have hlt : k * sz + j < xs.length * sz := by
    have : (k + 1) * sz ≤ xs.length * sz := Nat.mul_le_mul_right _ hk
    rw [Nat.succ_mul] at this; omega
  rw [List.getElem?_take_of_lt hlt]
  have hcl : j < (cs xs[k]).length := by rw [hcs]; exact hj
  have := h k hk j _ (List.getElem?_eq_getElem hcl)
  rw [Nat.zero_add, hp_cell hh] at this
  rw [Array.getElem?_toList, this, List.getElem?_eq_getElem hcl]
end
theorem head_cells2 (t : UInt8) (m : Nat) (hm : m ≤ 4194304) : [Value.int .u8 (t.toNat : Int), .int .u8 ((m : Int) / 16777216), .int .u8 ((m : Int) / 65536 % 256), .int .u8 ((m : Int) / 256 % 256), .int .u8 ((m : Int) % 256)] = (t :: lenB m).flatMap csU := by
  simp only [lenB, csU, List.flatMap_cons, List.flatMap_nil, List.cons_append, List.nil_append, UInt8.toNat_ofNat']
  have e1 : (m : Int) / 16777216 = ((m / 16777216 % 2 ^ 8 : Nat) : Int) := by omega
  have e2 : (m : Int) / 65536 % 256 = ((m / 65536 % 256 % 2 ^ 8 : Nat) : Int) := by omega
  have e3 : (m : Int) / 256 % 256 = ((m / 256 % 256 % 2 ^ 8 : Nat) : Int) := by omega
  have e4 : (m : Int) % 256 = ((m % 256 % 2 ^ 8 : Nat) : Int) := by omega
  rw [e1, e2, e3, e4]
set_option maxRecDepth 100000 in
set_option maxHeartbeats 4000000 in
theorem fvalue_any (t : UInt8) (D : Nat → Prop) (A : Option Addr) (c : Nat) (xs : Bs) (w : World) (hA : Rd D w 1 csU A xs) (hl : xs.length ≤ 4194304) :
    Calls Tryz.prog 32 #[.int .u8 (t.toNat : Int), .slice A xs.length c] w fun e w' => ∃ A' c', e = .returned (.slice A' (valV t xs).length c') ∧ OwnS w.heap.size 5 1 csU w' (.slice A' (valV t xs).length c') (valV t xs) ∧ Mod (fun _ => False) w w' := by
  obtain ⟨m, hm⟩ : ∃ m, m = xs.length := ⟨_, rfl⟩
  rw [← hm] at hl ⊢
  have HA := Lib.hid (show Rd (fun b => D b ∧ b < w.heap.size) w 1 csU A xs from hA.lt csU_len (by decide))
  have HM := Lib.hid hm
  have HCe := Lib.hid (head_cells2 t m hl)
  clear hm hA
  go_enter Tryz.func32, Tryz.ntmps32
  have HLn := Lib.hid (show (t :: lenB m).length = 5 from rfl)
  have hown : OwnS w.heap.size 5 1 csU (w.alloc (.cells #[.int .u8 (t.toNat : Int), .int .u8 ((m : Int) / 16777216), .int .u8 ((m : Int) / 65536 % 256), .int .u8 ((m : Int) / 256 % 256), .int .u8 ((m : Int) % 256)] 5)) (.slice (some ⟨w.heap.size, 0, none⟩) 5 5) (t :: lenB m) := by
    have hb := hp_new w (.cells #[.int .u8 (t.toNat : Int), .int .u8 ((m : Int) / 16777216), .int .u8 ((m : Int) / 65536 % 256), .int .u8 ((m : Int) / 256 % 256), .int .u8 ((m : Int) % 256)] 5 (0, 0))
    have h := own_of_cells' (xs := t :: lenB m) (cs := csU) csU_len (c := 5) hb (Nat.le_refl _) (Nat.le_refl _) (by simp [maxLen]) rfl (fun k hk j u hu => by
      have hr := Rd.blk csU_len hb HCe.out (by rw [HLn.out]; omega)
      obtain ⟨b', off', he, _, hc⟩ := hr
      injection he with he
      injection he with e1 e2
      subst e1 e2
      have := hc k hk j u hu
      rw [Nat.zero_add] at this ⊢
      exact this)
    exact h
  have HOwn := Lib.hid hown
  clear hown
  go_wp2_with (at_builtin
               refine wpList_app (base := w.heap.size) (xs := t :: lenB m) (ys := xs) (D := fun b => D b ∧ b < w.heap.size) (v := .slice (some ⟨w.heap.size, 0, none⟩) 5 5) rfl (.tmp 25) (.tmp 26) rfl u8s_t csU_len csU_one rfl HOwn.out c rfl HM.out (HA.out.below ((Below.refl _ w).alloc (Nat.le_refl _) _) fun b h => h.2) ?_ ?_ ?_ ?_
               · rw [HLn.out, ← HM.out]; simp [maxLen]; omega
               · rw [HLn.out, ← HM.out]; omega
               · simp
               intro v' w2 hown2 hm2 hat2
               have hown2 : OwnS w.heap.size 5 1 csU w2 v' (valV t xs) := by unfold valV; rw [← HM.out]; exact hown2
               obtain ⟨A2, c2, hv2, -, hfr2, hml2⟩ := OwnS.rd hown2 csU_len
               obtain ⟨n2, hn2⟩ : ∃ n, n = (valV t xs).length := ⟨_, rfl⟩
               rw [← hn2] at hv2
               subst hv2
               have HN2 := Lib.hid hn2
               have HO2 := Lib.hid hown2
               have M2 := Lib.hid (((Mod.refl (fun _ => False) w).alloc (.cells #[.int .u8 (t.toNat : Int), .int .u8 ((m : Int) / 16777216), .int .u8 ((m : Int) / 65536 % 256), .int .u8 ((m : Int) / 256 % 256), .int .u8 ((m : Int) % 256)] 5)).trans hm2 (fun b hb => by simp [Value.ownBlock] at hb; right; omega))
               clear hm2 hown2 hat2 hfr2 hml2 hn2)
  go_ret
  exact ⟨A2, c2, by rw [HN2.out]; rfl, by rw [← HN2.out]; exact HO2.out, M2.out⟩
/-- Where a slice that was made by the language begins. -/
def SlA (A : Option Addr) (c : Nat) : Prop := (A = none ∧ c = 0) ∨ ∃ b o, A = some ⟨b, o, none⟩
/-- What First answers. -/
def FFirstEnds (D : Nat → Prop) (s : Bs) (w : World) (e : Ending) (w' : World) : Prop :=
  (match firstV s with
    | none => e = .returned (.tuple #[.int .u8 0, .slice none 0 0, .int .i64 0])
    | some (t, b, n) => ∃ (g o c' : Nat), e = .returned (.tuple #[.int .u8 (t.toNat : Int), .slice (some ⟨g, o, none⟩) b.length c', .int .i64 (n : Int)]) ∧ b.length ≤ c' ∧ Rd D w 1 csU (some ⟨g, o, none⟩) b) ∧ ∃ q, w.drewN q = w'
end Go.Proofs.YtccnkcaagigceaaGreat
/-
  The reference of the package tlv: the first value.
-/
namespace Go.Proofs.YtccnkcaagigceaaGreat
open Go.RowKit Go.Shelf
attribute [local go_sem] Oper.semAt_some

theorem sums4 (a b0 c0 d : UInt8) : wrap64 (16777216 * (a.toNat : Int)) = 16777216 * (a.toNat : Int) ∧ wrap64 (65536 * (b0.toNat : Int)) = 65536 * (b0.toNat : Int) ∧ wrap64 (256 * (c0.toNat : Int)) = 256 * (c0.toNat : Int) ∧
    wrap64 (16777216 * (a.toNat : Int) + 65536 * (b0.toNat : Int)) = 16777216 * (a.toNat : Int) + 65536 * (b0.toNat : Int) ∧
    wrap64 (16777216 * (a.toNat : Int) + 65536 * (b0.toNat : Int) + 256 * (c0.toNat : Int)) = 16777216 * (a.toNat : Int) + 65536 * (b0.toNat : Int) + 256 * (c0.toNat : Int) ∧
    wrap64 (16777216 * (a.toNat : Int) + 65536 * (b0.toNat : Int) + 256 * (c0.toNat : Int) + (d.toNat : Int)) = ((numV [a, b0, c0, d] : Nat) : Int) := by
  have la := a.toNat_lt
  have lb := b0.toNat_lt
  have lc := c0.toNat_lt
  have ld := d.toNat_lt
  refine ⟨wrap64_in _ ⟨?_, ?_⟩, wrap64_in _ ⟨?_, ?_⟩, wrap64_in _ ⟨?_, ?_⟩, wrap64_in _ ⟨?_, ?_⟩, wrap64_in _ ⟨?_, ?_⟩, ?_⟩
  all_goals try omega
  rw [wrap64_in _ ⟨by omega, by omega⟩]
  show _ = ((16777216 * a.toNat + 65536 * b0.toNat + 256 * c0.toNat + d.toNat : Nat) : Int)
  omega
theorem wrap8 (a : UInt8) : wrap64 (a.toNat : Int) = a.toNat := wrap64_in _ (by have := a.toNat_lt; constructor <;> omega)
set_option maxRecDepth 100000 in
set_option maxHeartbeats 4000000 in
theorem ffirst_any (D : Nat → Prop) (A : Option Addr) (c : Nat) (s : Bs) (w : World) (hA : Rd D w 1 csU A s) (hl : s.length ≤ 1099511627776) (hc : s.length ≤ c) :
    Calls Tryz.prog 64 #[.slice A s.length c] w (FFirstEnds D s w) := by
  obtain ⟨n, hn⟩ : ∃ n, n = s.length := ⟨_, rfl⟩
  rw [← hn] at hl hc ⊢
  have HN := Lib.hid hn
  have HA := Lib.hid hA
  by_cases h5 : n < 5
  · have hno := Lib.hid (show firstV s = none by
      rcases s with _ | ⟨t0, _ | ⟨a, _ | ⟨b0, _ | ⟨c', _ | ⟨d, s⟩⟩⟩⟩⟩
      all_goals first | rfl | (simp at hn; omega))
    clear hn hA
    go_enter Tryz.func64, Tryz.ntmps64
    go_wp2
    refine bodyPost_ret (v := .tuple #[.int .u8 0, .slice none 0 0, .int .i64 0]) (by simp [results, Tryz.results64, go_sem]) rfl ⟨?_, 0, rfl⟩
    rw [hno.out]
  · rcases s with _ | ⟨t0, _ | ⟨a, _ | ⟨b0, _ | ⟨c0, _ | ⟨d, s⟩⟩⟩⟩⟩
    all_goals try (exfalso; simp at hn; omega)
    obtain ⟨b1, o1, rfl, -, q0⟩ := rdU (k := 0) hA (by simp)
    obtain ⟨b1', o1', he1, -, q1⟩ := rdU (k := 1) hA (by simp)
    obtain ⟨b2', o2', he2, -, q2⟩ := rdU (k := 2) hA (by simp)
    obtain ⟨b3', o3', he3, -, q3⟩ := rdU (k := 3) hA (by simp)
    obtain ⟨b4', o4', he4, -, q4⟩ := rdU (k := 4) hA (by simp)
    cases he1; cases he2; cases he3; cases he4
    simp only [List.getElem_cons_zero, List.getElem_cons_succ, Nat.add_zero] at q0 q1 q2 q3 q4
    obtain ⟨m, hm⟩ : ∃ m, m = numV [a, b0, c0, d] := ⟨_, rfl⟩
    obtain ⟨wa2, wb2, wc2, ws1, ws2, ws3⟩ := sums4 a b0 c0 d
    rw [← hm] at ws3
    have wa := wrap8 a
    have wb := wrap8 b0
    have wc := wrap8 c0
    have wd := wrap8 d
    have hns1 : n ≤ 5 + s.length := by rw [hn]; simp; omega
    have hns2 : 5 + s.length ≤ n := by rw [hn]; simp; omega
    have HF := Lib.hid (show firstV (t0 :: a :: b0 :: c0 :: d :: s) = if t0 = 0 then none else if 4194304 < m ∨ s.length < m then none else some (t0, s.take m, 5 + m) by rw [hm]; rfl)
    clear hn hA hm
    by_cases ht : t0 = 0
    · have ht1 : ((t0.toNat : Int) == 0) = true := by rw [ht]; rfl
      have hno := Lib.hid (show firstV (t0 :: a :: b0 :: c0 :: d :: s) = none by rw [HF.out, if_pos ht])
      clear ht
      go_enter Tryz.func64, Tryz.ntmps64
      go_wp2
      refine bodyPost_ret (v := .tuple #[.int .u8 0, .slice none 0 0, .int .i64 0]) (by simp [results, Tryz.results64, go_sem]) rfl ⟨?_, 0, rfl⟩
      rw [hno.out]
    · have ht1 : ((t0.toNat : Int) == 0) = false := by
        rw [beq_eq_false_iff_ne]; intro e; exact ht (UInt8.toNat_inj.1 (by show t0.toNat = 0; omega))
      have HF2 := Lib.hid (show firstV (t0 :: a :: b0 :: c0 :: d :: s) = if 4194304 < m ∨ s.length < m then none else some (t0, s.take m, 5 + m) by rw [HF.out, if_neg ht])
      clear ht HF
      by_cases hbad : 4194304 < m ∨ s.length < m
      · have hno := Lib.hid (show firstV (t0 :: a :: b0 :: c0 :: d :: s) = none by rw [HF2.out, if_pos hbad])
        rcases (show 4194304 < m ∨ (¬ 4194304 < m ∧ n - 5 < m) by omega) with h1 | ⟨h1, h2⟩
        case' inl => have x1 : decide ((4194304 : Int) < (m : Int)) = true := by rw [decide_eq_true_eq]; omega
        case' inr =>
          have x1 : decide ((4194304 : Int) < (m : Int)) = false := by rw [decide_eq_false_iff_not]; omega
          have x2 : decide ((n : Int) - 5 < (m : Int)) = true := by rw [decide_eq_true_eq]; omega
        all_goals
          clear hbad
          go_wp2
          go_quiet (fail)
          go_wp2
          refine bodyPost_ret (v := .tuple #[.int .u8 0, .slice none 0 0, .int .i64 0]) (by simp [results, Tryz.results64, go_sem]) rfl ⟨?_, _, rfl⟩
          rw [hno.out]
      · have h1 : ¬ 4194304 < m := by omega
        have h2 : ¬ n - 5 < m := by omega
        have hml : m ≤ s.length := by omega
        have HYes := Lib.hid (show firstV (t0 :: a :: b0 :: c0 :: d :: s) = some (t0, s.take m, 5 + m) by rw [HF2.out, if_neg hbad])
        have HLt := Lib.hid (show (s.take m).length = m by rw [List.length_take]; omega)
        have x1 : decide ((4194304 : Int) < (m : Int)) = false := by rw [decide_eq_false_iff_not]; omega
        have x2 : decide ((n : Int) - 5 < (m : Int)) = false := by rw [decide_eq_false_iff_not]; omega
        have HR := Lib.hid (show Rd D w 1 csU (some ⟨b1, o1 + 5, none⟩) (s.take m) from by
          have h := rd_take (rd_drop HA.out (j := 5) (by simp)) m
          rw [Nat.mul_one] at h
          exact h)
        clear hbad
        by_cases hc5 : c = 5
        · obtain rfl : m = 0 := by omega
          obtain rfl : c = 5 := hc5
          have hA0 := Lib.hid (show Rd D w 1 csU (some ⟨b1, o1, none⟩) (s.take 0) from by rw [List.take_zero]; exact Rd.nil _ _ _ _ _)
          go_wp2
          go_quiet (fail)
          go_wp2
          go_quiet (fail)
          go_ways
          go_wp2
          refine bodyPost_ret (v := .tuple #[.int .u8 t0.toNat, .slice (some ⟨b1, o1, none⟩) 0 0, .int .i64 5]) (by simp [results, Tryz.results64, go_sem]) rfl ⟨?_, _, (World.drewN_drewN ..).symm⟩
          rw [HYes.out]
          refine ⟨b1, o1, 0, ?_, ?_, hA0.out⟩
          · rw [HLt.out]; rfl
          · rw [HLt.out]; exact Nat.le_refl _
        · have hm5 : ¬ 5 + m = 5 ∨ 5 + m = 5 := by omega
          go_wp2
          go_quiet (fail)
          go_wp2
          go_quiet (fail)
          go_ways
          go_wp2
          refine bodyPost_ret (v := .tuple #[.int .u8 t0.toNat, .slice (some ⟨b1, o1 + 5, none⟩) m (c - 5), .int .i64 ((5 + m : Nat) : Int)]) (by simp [results, Tryz.results64, go_sem]) rfl ⟨?_, _, (World.drewN_drewN ..).symm⟩
          rw [HYes.out]
          refine ⟨b1, o1 + 5, c - 5, ?_, ?_, HR.out⟩
          · rw [HLt.out]
          · rw [HLt.out]; omega
end Go.Proofs.YtccnkcaagigceaaGreat
