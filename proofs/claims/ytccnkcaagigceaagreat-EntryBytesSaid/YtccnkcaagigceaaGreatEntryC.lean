/-
  Lists of attributes that may be; entries that may be.
-/
import Derived.Test.YtccnkcaagigceaaGreatEntryB
import Derived.Test.YtccnkcaagigceaaGreatQb
namespace Go.Proofs.YtccnkcaagigceaaGreat
open Go.RowKit Go.Shelf
attribute [local go_sem] Oper.semAt_some

theorem wp_asE {P : Program} {c : Code} {Q : Exit → Act → World → Prop} {a : Act} {w : World} (Φ : World → Prop) (hΦ : Φ w) (h : ∀ W, Φ W → c.wp P Q a W) : c.wp P Q a w := h w hΦ
def FitA (a : At) : Prop := a.T.length ≤ 9223372036854775807 ∧ a.V.length ≤ 9223372036854775807
/-- The cells of element k, at hand. -/
theorem rd2 {D : Nat → Prop} {w : World} {A : Option Addr} {xs : List At} (h : Rd D w 2 At.cs A xs) {k : Nat} (hk : k < xs.length) :
    ∃ b off, A = some ⟨b, off, none⟩ ∧ D b ∧ w.cell? ⟨b, off + k * 2, none⟩ = some (.string ⟨xs[k].T.toArray⟩) ∧ w.cell? ⟨b, off + k * 2 + 1, none⟩ = some (.string ⟨xs[k].V.toArray⟩) := by
  obtain ⟨b, off, rfl, hd, hc⟩ := h (by omega)
  exact ⟨b, off, rfl, hd, hc k hk 0 _ rfl, hc k hk 1 _ rfl⟩
theorem mayAs_no {xs : List At} {k : Nat} (hk : k < xs.length) (h : okAt xs k = false) : mayAs xs = false := by
  cases hm : mayAs xs
  · rfl
  · unfold mayAs at hm
    rw [Bool.and_eq_true, List.all_eq_true] at hm
    rw [hm.2 k (List.mem_range.2 hk)] at h; cases h
theorem mayAs_yes {xs : List At} (h : ∀ i, i < xs.length → okAt xs i = true) : mayAs xs = decide (xs.length ≤ 50) := by
  unfold mayAs
  rw [List.all_eq_true.2 fun i hi => h i (List.mem_range.1 hi), Bool.and_true]
theorem ltA_cmp (a b : At) : decide (0 ≤ cmpA a b) = !ltA a b := by
  unfold ltA
  rcases cmpA_range a b with h | h | h <;> rw [h] <;> rfl
theorem rless_any (a b : At) (w : World) : Calls Tryz.prog 39 #[a.val, b.val] w fun e w' => e = .returned (.bool (ltA a b)) ∧ (w.alloc a.box).alloc b.box = w' := by
  obtain ⟨z, hz⟩ : ∃ z, z = ltA a b := ⟨_, rfl⟩
  rw [← hz]
  rw [ltA_less] at hz
  obtain ⟨aT, aV⟩ := a
  obtain ⟨bT, bV⟩ := b
  unfold At.val At.box
  simp only at hz ⊢
  obtain ⟨x1, e1⟩ : ∃ x, Op.bytesLess aT bT = x := ⟨_, rfl⟩
  obtain ⟨x2, e2⟩ : ∃ x, decide (aT = bT) = x := ⟨_, rfl⟩
  obtain ⟨x3, e3⟩ : ∃ x, Op.bytesLess aV bV = x := ⟨_, rfl⟩
  rw [e1, e2, e3] at hz
  subst hz
  have e2' : (aT == bT) = x2 := by rw [← e2, Bool.eq_iff_iff]; simp
  have t1 : (⟨aT.toArray⟩ : ByteArray).toList = aT := by simp
  have t2 : (⟨bT.toArray⟩ : ByteArray).toList = bT := by simp
  have t3 : (⟨aV.toArray⟩ : ByteArray).toList = aV := by simp
  have t4 : (⟨bV.toArray⟩ : ByteArray).toList = bV := by simp
  cases x1 <;> cases x2 <;> cases x3
  all_goals
    go_enter Tryz.func39, Tryz.ntmps39
    go_wp2
    go_ret
    exact ⟨rfl, rfl⟩
set_option maxRecDepth 100000 in
set_option maxHeartbeats 4000000 in
theorem emays_any (A : Option Addr) (c : Nat) (xs : List At) (w : World) (hA : Rd (fun b => b < w.heap.size) w 2 At.cs A xs) (hl : xs.length ≤ 1099511627776) (hf : ∀ a ∈ xs, FitA a) :
    Calls Tryz.prog 36 #[.slice A xs.length c] w fun e w' => e = .returned (.bool (mayAs xs)) ∧ Mod (fun _ => False) w w' := by
  obtain ⟨z, hz⟩ : ∃ z, z = mayAs xs := ⟨_, rfl⟩
  rw [← hz]
  have HZ := Lib.hid hz
  obtain ⟨n, hn⟩ : ∃ n, n = xs.length := ⟨_, rfl⟩
  rw [← hn] at hl ⊢
  have HN := Lib.hid hn
  have HF := Lib.hid hf
  have HA := Lib.hid (fun X (hX : Mod (fun _ => False) w X) => (hA.mod hX (fun b hb => ⟨hb, id⟩)))
  clear hA hz hn hf
  go_enter Tryz.func36, Tryz.ntmps36
  go_wp2
  go_loopw [7] (fun i wr => ∃ k : Nat, k ≤ n ∧ i = .int .i64 k ∧ (∀ i, i < k → okAt xs i = true) ∧ Mod (fun _ => False) w wr) (fun i _ => n - (intOf i).toNat)
  case atStart => exact ⟨0, by omega, rfl, fun i h => by omega, Mod.refl _ _⟩
  case round =>
    obtain ⟨k, hk, rfl, hok, hm⟩ := hrel
    have HOk := Lib.hid hok
    have HM := Lib.hid hm
    clear hok hm
    by_cases hlt : k < n
    · have hkx : k < xs.length := by rw [← HN.out]; exact hlt
      obtain ⟨b, off, rfl, hbl, k0, k1⟩ := rd2 (HA.out _ HM.out) hkx
      obtain ⟨x, hx⟩ : ∃ x, x = xs[k] := ⟨_, rfl⟩
      rw [← hx] at k0 k1
      have hfx := HF.out x (by rw [hx]; exact List.getElem_mem hkx)
      have HAt := Lib.hid (fun X => eattr_any x X hfx.1 hfx.2)
      have HO := Lib.hid (show okAt xs k = (mayA x && (decide (k = 0) || ltA (xs.getD (k - 1) ⟨[], []⟩) x)) by rw [okAt_at hkx, ← hx])
      have HX := Lib.hid hx
      clear hx hfx
      obtain ⟨m, hm⟩ : ∃ m, m = mayA x := ⟨_, rfl⟩
      rw [← hm] at HAt HO
      clear hm
      obtain ⟨xT, xV⟩ := x
      unfold At.val at HAt
      simp only at HAt k0 k1
      cases m
      · have hno := Lib.hid (show z = false by rw [HZ.out]; exact mayAs_no hkx (by rw [HO.out]; rfl))
        go_wp2
        refine wp_asE (fun W => W.heap[wr.heap.size]? = some (.cells #[.string ⟨xT.toArray⟩, .string ⟨xV.toArray⟩] 52 (0, 0)) ∧ Mod (fun _ => False) w W) ⟨by (repeat' (first | exact hp_new _ _ | exact hp_at _ _ (by simp; done) | refine hp_alloc ?_ _ | refine hp_drew ?_ | refine hp_drewN ?_ _ | apply hp_set | refine hp_far ?_ (by first | (simp; omega) | (simp; done)) _)), by have := HM.out; (repeat' (first | exact Mod.refl _ _ | assumption | refine Mod.alloc ?_ _ | refine Mod.drew ?_ | refine Mod.drewN ?_ _ | refine Mod.setCell ?_ (by first | exact Or.inl rfl | (right; simp; done) | (right; simp; omega) | (left; simp; done)) _))⟩ ?_
        rintro W ⟨hx0, hm0⟩
        have a0 := cell_regrown (hp_cell hx0 0)
        have a1 := cell_regrown (hp_cell hx0 1)
        have HM0 := Lib.hid hm0
        clear hx0 hm0
        refine wp_region_quiet_below (by kernel_rfl) (by kernel_rfl) ?_
        repeat (go_big_quiet_step ((first | (go_at_call 42; exact regM fun X _ => HAt.out X) | fail)))
        refine wpQuiet_nil ?_
        intro W1 hW1
        have HM1 := Lib.hid (HM0.out.trans' (mod_of_regrown hW1))
        clear hW1 a0 a1
        have hzz := hno.out
        subst hzz
        go_wp2
        go_ret
        exact ⟨rfl, HM1.out⟩
      · obtain ⟨q0, hq0⟩ | ⟨j, rfl⟩ : (∃ q0 : Unit, k = 0) ∨ ∃ j, k = j + 1 := by
          cases k with
          | zero => exact .inl ⟨(), rfl⟩
          | succ j => exact .inr ⟨j, rfl⟩
        · subst hq0
          simp only [Nat.zero_mul, Nat.add_zero] at k0 k1
          have hyes := Lib.hid (show okAt xs 0 = true by rw [HO.out]; rfl)
          go_wp2
          refine wp_asE (fun W => W.heap[wr.heap.size]? = some (.cells #[.string ⟨xT.toArray⟩, .string ⟨xV.toArray⟩] 52 (0, 0)) ∧ Mod (fun _ => False) w W) ⟨by (repeat' (first | exact hp_new _ _ | exact hp_at _ _ (by simp; done) | refine hp_alloc ?_ _ | refine hp_drew ?_ | refine hp_drewN ?_ _ | apply hp_set | refine hp_far ?_ (by first | (simp; omega) | (simp; done)) _)), by have := HM.out; (repeat' (first | exact Mod.refl _ _ | assumption | refine Mod.alloc ?_ _ | refine Mod.drew ?_ | refine Mod.drewN ?_ _ | refine Mod.setCell ?_ (by first | exact Or.inl rfl | (right; simp; done) | (right; simp; omega) | (left; simp; done)) _))⟩ ?_
          rintro W ⟨hx0, hm0⟩
          have a0 := cell_regrown (hp_cell hx0 0)
          have a1 := cell_regrown (hp_cell hx0 1)
          have HM0 := Lib.hid hm0
          clear hx0 hm0
          refine wp_region_quiet_below (by kernel_rfl) (by kernel_rfl) ?_
          repeat (go_big_quiet_step ((first | (go_at_call 42; exact regM fun X _ => HAt.out X) | fail)))
          refine wpQuiet_nil ?_
          intro W1 hW1
          have HM1 := Lib.hid (HM0.out.trans' (mod_of_regrown hW1))
          clear hW1 a0 a1
          go_wp2
          have hall : ∀ i, i < 1 → okAt xs i = true := fun i hi => by
            obtain rfl : i = 0 := by omega
            exact hyes.out
          exact ⟨⟨1, by omega, rfl, hall, HM1.out⟩, by simp only [intOf]; omega⟩
        · have hjx : j < xs.length := by omega
          obtain ⟨b', off', he, hbl', p0, p1⟩ := rd2 (HA.out _ HM.out) hjx
          injection he with he
          injection he with e1 e2
          subst e1 e2
          obtain ⟨y, hy⟩ : ∃ y, y = xs[j] := ⟨_, rfl⟩
          rw [← hy] at p0 p1
          have HO2 := Lib.hid (show okAt xs (j + 1) = ltA y ⟨xT, xV⟩ by
            rw [HO.out, Nat.add_sub_cancel, List.getD_eq_getElem?_getD, List.getElem?_eq_getElem hjx, Option.getD_some, ← hy]; simp)
          obtain ⟨yT, yV⟩ := y
          simp only at p0 p1
          have HC := Lib.hid (fun X => ecompare_any ⟨yT, yV⟩ ⟨xT, xV⟩ X)
          obtain ⟨q, hq⟩ : ∃ q, q = cmpA ⟨yT, yV⟩ ⟨xT, xV⟩ := ⟨_, rfl⟩
          obtain ⟨lt, hlt2⟩ : ∃ lt, lt = ltA ⟨yT, yV⟩ ⟨xT, xV⟩ := ⟨_, rfl⟩
          have hge : decide (0 ≤ q) = !lt := by rw [hq, hlt2]; exact ltA_cmp _ _
          unfold At.val at HC
          simp only at HC
          rw [← hq] at HC
          rw [← hlt2] at HO2
          clear hq hlt2 hy
          have hw1 : IntKind.i64.wrap (j : Int) = j := IntWalk.i64_in _ (by omega)
          go_wp2
          refine wp_asE (fun W => W.heap[wr.heap.size]? = some (.cells #[.string ⟨xT.toArray⟩, .string ⟨xV.toArray⟩] 52 (0, 0)) ∧ Mod (fun _ => False) wr W) ⟨by (repeat' (first | exact hp_new _ _ | exact hp_at _ _ (by simp; done) | refine hp_alloc ?_ _ | refine hp_drew ?_ | refine hp_drewN ?_ _ | apply hp_set | refine hp_far ?_ (by first | (simp; omega) | (simp; done)) _)), by (repeat' (first | exact Mod.refl _ _ | assumption | refine Mod.alloc ?_ _ | refine Mod.drew ?_ | refine Mod.drewN ?_ _ | refine Mod.setCell ?_ (by first | exact Or.inl rfl | (right; simp; done) | (right; simp; omega) | (left; simp; done)) _))⟩ ?_
          rintro W ⟨hx0, hm0⟩
          have a0 := cell_regrown (hp_cell hx0 0)
          have a1 := cell_regrown (hp_cell hx0 1)
          have b0 := cell_regrown ((hm0.cell (p := ⟨b, off + j * 2, none⟩) (World.block_lt_of_cell? wr _ p0) id).trans p0)
          have b1 := cell_regrown ((hm0.cell (p := ⟨b, off + j * 2 + 1, none⟩) (World.block_lt_of_cell? wr _ p1) id).trans p1)
          have HM0 := Lib.hid (HM.out.trans' hm0)
          clear hx0 hm0 p0 p1
          refine wp_region_quiet_below (by kernel_rfl) (by kernel_rfl) ?_
          repeat (go_big_quiet_step ((first | (go_at_call 42; exact regM fun X _ => HAt.out X) | (go_at_call 57; exact regM fun X _ => (HC.out X).mono fun _ _ ⟨he, hm⟩ => ⟨he, by rw [← hm]; (repeat' (first | exact Mod.refl _ _ | assumption | refine Mod.alloc ?_ _ | refine Mod.drew ?_ | refine Mod.drewN ?_ _ | refine Mod.setCell ?_ (by first | exact Or.inl rfl | (right; simp; done) | (right; simp; omega) | (left; simp; done)) _))⟩) | fail)))
          refine wpQuiet_nil ?_
          intro W1 hW1
          have HM1 := Lib.hid (HM0.out.trans' (mod_of_regrown hW1))
          clear hW1 a0 a1 b0 b1
          cases lt
          · obtain rfl : z = false := by rw [HZ.out]; exact mayAs_no hkx HO2.out
            go_wp2
            go_ret
            exact ⟨rfl, HM1.out⟩
          · go_wp2
            have hall : ∀ i, i < j + 1 + 1 → okAt xs i = true := fun i hi => by
              rcases Nat.lt_or_ge i (j + 1) with h | h
              · exact HOk.out i h
              · obtain rfl : i = j + 1 := by omega
                exact HO2.out
            exact ⟨⟨j + 1 + 1, by omega, by go_num, hall, HM1.out⟩, by simp only [intOf]; omega⟩
    · obtain rfl : k = n := by omega
      have hz : z = decide (k ≤ 50) := by rw [HZ.out, HN.out]; exact mayAs_yes fun i hi => HOk.out i (by rw [HN.out]; exact hi)
      have HZ2 := Lib.hid hz
      clear hz
      go_wp2
      go_ret
      refine ⟨ret_bool ?_, HM.out⟩
      rw [HZ2.out, decide_eq_decide]; omega
end Go.Proofs.YtccnkcaagigceaaGreat
