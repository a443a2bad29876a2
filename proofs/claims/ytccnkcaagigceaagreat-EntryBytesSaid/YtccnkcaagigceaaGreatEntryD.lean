/-
  Lists of attributes that may be, the document's way; entries that may be; two lists the same; how much is gone through.
-/
import Derived.Test.YtccnkcaagigceaaGreatEntryC
import Derived.Laws.StructEq
namespace Go.Proofs.YtccnkcaagigceaaGreat
open Go.RowKit Go.Shelf
attribute [local go_sem] Oper.semAt_some

set_option maxRecDepth 100000 in
set_option maxHeartbeats 4000000 in
theorem rmays_any (A : Option Addr) (c : Nat) (xs : List At) (w : World) (hA : Rd (fun b => b < w.heap.size) w 2 At.cs A xs) (hl : xs.length ≤ 1099511627776) (hf : ∀ a ∈ xs, FitA a) :
    Calls Tryz.prog 16 #[.slice A xs.length c] w fun e w' => e = .returned (.bool (mayAs xs)) ∧ Mod (fun _ => False) w w' := by
  obtain ⟨z, hz⟩ : ∃ z, z = mayAs xs := ⟨_, rfl⟩
  rw [← hz]
  have HZ := Lib.hid hz
  obtain ⟨n, hn⟩ : ∃ n, n = xs.length := ⟨_, rfl⟩
  rw [← hn] at hl ⊢
  have HN := Lib.hid hn
  by_cases h50 : 50 < n
  · obtain rfl : z = false := by rw [hz]; unfold mayAs; rw [Bool.and_eq_false_imp]; intro h; rw [decide_eq_true_eq] at h; omega
    clear hz HZ hn HN hf hA
    go_enter Tryz.func16, Tryz.ntmps16
    go_wp2
    go_ret
    exact ⟨rfl, Mod.refl _ _⟩
  have HF := Lib.hid hf
  have HA := Lib.hid (fun X (hX : Mod (fun _ => False) w X) => (hA.mod hX (fun b hb => ⟨hb, id⟩)))
  clear hA hz hn hf
  go_enter Tryz.func16, Tryz.ntmps16
  go_wp2
  go_loopw [3] (fun i wr => ∃ k : Nat, k ≤ n ∧ i = .int .i64 k ∧ (∀ i, i < k → okAt xs i = true) ∧ Mod (fun _ => False) w wr) (fun i _ => n - (intOf i).toNat)
  case atStart => exact ⟨0, by omega, rfl, fun i h => by omega, Mod.refl _ _⟩
  case round =>
    obtain ⟨k, hk, rfl, hok, hm⟩ := hrel
    have HOk := Lib.hid hok
    have HM := Lib.hid hm
    clear hok hm
    by_cases hlt : k < n
    · have hkx : k < xs.length := by rw [← HN.out]; exact hlt
      obtain ⟨b, off, rfl, hbl, k0, k1⟩ := rd2 (HA.out _ HM.out) hkx
      obtain ⟨x, hx⟩ : ∃ x, x = xs[k] := ⟨_, rfl⟩
      rw [← hx] at k0 k1
      have hfx := HF.out x (by rw [hx]; exact List.getElem_mem hkx)
      have HAt := Lib.hid (fun X => rattr_any x X hfx.1 hfx.2)
      have HO := Lib.hid (show okAt xs k = (mayA x && (decide (k = 0) || ltA (xs.getD (k - 1) ⟨[], []⟩) x)) by rw [okAt_at hkx, ← hx])
      have HX := Lib.hid hx
      clear hx hfx
      obtain ⟨m, hm⟩ : ∃ m, m = mayA x := ⟨_, rfl⟩
      rw [← hm] at HAt HO
      clear hm
      obtain ⟨xT, xV⟩ := x
      unfold At.val at HAt
      simp only at HAt k0 k1
      cases m
      · have hno := Lib.hid (show z = false by rw [HZ.out]; exact mayAs_no hkx (by rw [HO.out]; rfl))
        go_wp2
        have a0 := cell_regrown k0
        have a1 := cell_regrown k1
        refine wp_region_quiet_below (by kernel_rfl) (by kernel_rfl) ?_
        repeat (go_big_quiet_step ((first | (go_at_call 38; exact regM fun X _ => HAt.out X) | fail)))
        refine wpQuiet_nil ?_
        intro W1 hW1
        have HM1 := Lib.hid (HM.out.trans' (mod_of_regrown hW1))
        clear hW1 a0 a1
        have hzz := hno.out
        subst hzz
        go_wp2
        go_ret
        exact ⟨rfl, HM1.out⟩
      · obtain ⟨q0, hq0⟩ | ⟨j, rfl⟩ : (∃ q0 : Unit, k = 0) ∨ ∃ j, k = j + 1 := by
          cases k with
          | zero => exact .inl ⟨(), rfl⟩
          | succ j => exact .inr ⟨j, rfl⟩
        · subst hq0
          simp only [Nat.zero_mul, Nat.add_zero] at k0 k1
          have hyes := Lib.hid (show okAt xs 0 = true by rw [HO.out]; rfl)
          go_wp2
          have a0 := cell_regrown k0
          have a1 := cell_regrown k1
          refine wp_region_quiet_below (by kernel_rfl) (by kernel_rfl) ?_
          repeat (go_big_quiet_step ((first | (go_at_call 38; exact regM fun X _ => HAt.out X) | fail)))
          refine wpQuiet_nil ?_
          intro W1 hW1
          have HM1 := Lib.hid (HM.out.trans' (mod_of_regrown hW1))
          clear hW1 a0 a1
          go_wp2
          have hall : ∀ i, i < 1 → okAt xs i = true := fun i hi => by
            obtain rfl : i = 0 := by omega
            exact hyes.out
          exact ⟨⟨1, by omega, rfl, hall, HM1.out⟩, by simp only [intOf]; omega⟩
        · have hjx : j < xs.length := by omega
          obtain ⟨b', off', he, hbl', p0, p1⟩ := rd2 (HA.out _ HM.out) hjx
          injection he with he
          injection he with e1 e2
          subst e1 e2
          obtain ⟨y, hy⟩ : ∃ y, y = xs[j] := ⟨_, rfl⟩
          rw [← hy] at p0 p1
          have HO2 := Lib.hid (show okAt xs (j + 1) = ltA y ⟨xT, xV⟩ by
            rw [HO.out, Nat.add_sub_cancel, List.getD_eq_getElem?_getD, List.getElem?_eq_getElem hjx, Option.getD_some, ← hy]; simp)
          obtain ⟨yT, yV⟩ := y
          simp only at p0 p1
          have HC := Lib.hid (fun X => rless_any ⟨yT, yV⟩ ⟨xT, xV⟩ X)
          obtain ⟨lt, hlt2⟩ : ∃ lt, lt = ltA ⟨yT, yV⟩ ⟨xT, xV⟩ := ⟨_, rfl⟩
          unfold At.val at HC
          simp only at HC
          rw [← hlt2] at HC HO2
          clear hlt2 hy
          have hw1 : IntKind.i64.wrap (j : Int) = j := IntWalk.i64_in _ (by omega)
          go_wp2
          have a0 := cell_regrown k0
          have a1 := cell_regrown k1
          have b0 := cell_regrown p0
          have b1 := cell_regrown p1
          refine wp_region_quiet_below (by kernel_rfl) (by kernel_rfl) ?_
          repeat (go_big_quiet_step ((first | (go_at_call 38; exact regM fun X _ => HAt.out X) | (go_at_call 39; exact regM fun X _ => (HC.out X).mono fun _ _ ⟨he, hm⟩ => ⟨he, by rw [← hm]; (repeat' (first | exact Mod.refl _ _ | assumption | refine Mod.alloc ?_ _ | refine Mod.drew ?_ | refine Mod.drewN ?_ _ | refine Mod.setCell ?_ (by first | exact Or.inl rfl | (right; simp; done) | (right; simp; omega) | (left; simp; done)) _))⟩) | fail)))
          refine wpQuiet_nil ?_
          intro W1 hW1
          have HM1 := Lib.hid (HM.out.trans' (mod_of_regrown hW1))
          clear hW1 a0 a1 b0 b1
          cases lt
          · obtain rfl : z = false := by rw [HZ.out]; exact mayAs_no hkx HO2.out
            go_wp2
            go_ret
            exact ⟨rfl, HM1.out⟩
          · go_wp2
            have hall : ∀ i, i < j + 1 + 1 → okAt xs i = true := fun i hi => by
              rcases Nat.lt_or_ge i (j + 1) with h | h
              · exact HOk.out i h
              · obtain rfl : i = j + 1 := by omega
                exact HO2.out
            exact ⟨⟨j + 1 + 1, by omega, by go_num, hall, HM1.out⟩, by simp only [intOf]; omega⟩
    · obtain rfl : k = n := by omega
      have hz : z = decide (k ≤ 50) := by rw [HZ.out, HN.out]; exact mayAs_yes fun i hi => HOk.out i (by rw [HN.out]; exact hi)
      obtain rfl : z = true := by rw [hz, decide_eq_true_eq]; omega
      clear hz
      go_wp2
      go_ret
      exact ⟨rfl, HM.out⟩

theorem eql_at (x y : At) (w : World) : (binOp .eql 52 x.val y.val).run Tryz.prog w = .ok (.bool (decide (x = y))) w := by
  have u9 := Tryz.underlying9
  have a9 := Tryz.isAgg9
  have z9 := Tryz.sizeOf9
  have hS : Tryz.prog.underlying 52 = some (.struct (Tryz.prog.fieldsOf 52)) := by kernel_rfl
  have hp : Tryz.prog.stoodInHeld 52 = false := by kernel_rfl
  obtain ⟨xT, xV⟩ := x
  obtain ⟨yT, yV⟩ := y
  unfold At.val
  have he : decide ((⟨xT, xV⟩ : At) = ⟨yT, yV⟩) = (decide (xT = yT) && decide (xV = yV)) := by rw [Bool.eq_iff_iff]; simp
  rw [he, run_eql_struct, show (10000 : Nat) = 9999 + 1 from rfl, run_equalIn_agg w 9999 52 _ _ hS hp]
  simp only [Program.fieldsOf, Tryz.underlying52]
  by_cases h1 : xT = yT <;> by_cases h2 : xV = yV
  all_goals
    go_simp
    try simp [*]
theorem neq_at (x y : At) (w : World) : (binOp .neq 52 x.val y.val).run Tryz.prog w = .ok (.bool (!decide (x = y))) w := by
  have h := eql_at x y w
  unfold At.val at h ⊢
  rw [run_eql_struct] at h
  rw [run_neq_struct]
  generalize (Op.equalIn 10000 52 (.agg #[.string ⟨x.T.toArray⟩, .string ⟨x.V.toArray⟩]) (.agg #[.string ⟨y.T.toArray⟩, .string ⟨y.V.toArray⟩])).run Tryz.prog w = q at *
  cases q with
  | ok b w1 => simp only [Result.andThen_ok, Result.ok.injEq, Value.bool.injEq] at h ⊢; rw [h.1, h.2]; simp
  | halt x w1 => cases h
end Go.Proofs.YtccnkcaagigceaaGreat
