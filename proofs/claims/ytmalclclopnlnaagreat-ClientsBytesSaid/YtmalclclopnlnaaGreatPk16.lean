/-
  Texts of this claim, one behind the other: ResD, ResE, TabQ.
-/
import Derived.Test.YtmalclclopnlnaaGreatPk13
import Derived.Test.YtmalclclopnlnaaGreatPk15
/-
  Bytes that are equal.
-/
namespace Go.Proofs.YtmalclclopnlnaaGreat
open Go.RowKit Go.Shelf
attribute [local go_sem] Oper.semAt_some

set_option maxRecDepth 100000 in
set_option maxHeartbeats 1000000 in
theorem uequal_any (D1 D2 : Nat → Prop) (A B : Option Addr) (c d : Nat) (xs ys : Bs) (w : World) (hA : Rd D1 w 1 csU A xs) (hB : Rd D2 w 1 csU B ys) (hx : xs.length ≤ maxLen) (hy : ys.length ≤ maxLen) (h1 : ∀ b, D1 b → b < w.heap.size) (h2 : ∀ b, D2 b → b < w.heap.size) :
    Calls Tryz.prog 88 #[.slice A xs.length c, .slice B ys.length d] w fun e w' => e = .returned (.bool (decide (xs = ys))) ∧ Mod (fun _ => False) w w' := by
  unfold maxLen at hx hy
  obtain ⟨n, hn⟩ : ∃ n, n = xs.length := ⟨_, rfl⟩
  obtain ⟨m, hm⟩ : ∃ m, m = ys.length := ⟨_, rfl⟩
  rw [← hn] at hx ⊢
  rw [← hm] at hy ⊢
  have HN := Lib.hid hn
  have HM := Lib.hid hm
  have HA := Lib.hid hA
  have HB := Lib.hid hB
  have H1 := Lib.hid h1
  have H2 := Lib.hid h2
  obtain ⟨r, hr⟩ : ∃ r, r = decide (xs = ys) := ⟨_, rfl⟩
  rw [← hr]
  have HR := Lib.hid hr
  clear hn hm hA hB h1 h2 hr
  by_cases hnm : n = m
  · subst hnm
    have hne : ((n : Int) != (n : Int)) = false := by simp
    go_enter Tryz.func88, Tryz.ntmps88
    go_wp2
    go_loopw [13] (fun i wr => ∃ k : Nat, k ≤ n ∧ i = .int .i64 k ∧ xs.take k = ys.take k ∧ Mod (fun _ => False) w wr) (fun i _ => n - (intOf i).toNat)
    case atStart => exact ⟨0, Nat.zero_le _, rfl, by simp, Mod.refl _ _⟩
    case round =>
      obtain ⟨k, hk, rfl, he, hmw⟩ := hrel
      have HE := Lib.hid he
      have HMw := Lib.hid hmw
      clear he hmw
      by_cases hlt : k < n
      · have hkx : k < xs.length := by rw [← HN.out]; exact hlt
        have hky : k < ys.length := by rw [← HM.out]; exact hlt
        obtain ⟨b1, o1, rfl, -, q1⟩ := rdU (HA.out.mod HMw.out (fun b hb => ⟨H1.out b hb, id⟩)) hkx
        obtain ⟨b2, o2, rfl, -, q2⟩ := rdU (HB.out.mod HMw.out (fun b hb => ⟨H2.out b hb, id⟩)) hky
        obtain ⟨x, hx'⟩ : ∃ x, x = xs[k] := ⟨_, rfl⟩
        obtain ⟨y, hy'⟩ : ∃ y, y = ys[k] := ⟨_, rfl⟩
        rw [← hx'] at q1
        rw [← hy'] at q2
        have HTx := Lib.hid (show xs.take (k + 1) = xs.take k ++ [x] by rw [hx']; exact List.take_succ_eq_append_getElem hkx)
        have HTy := Lib.hid (show ys.take (k + 1) = ys.take k ++ [y] by rw [hy']; exact List.take_succ_eq_append_getElem hky)
        clear hx' hy'
        by_cases hxy : x = y
        · subst hxy
          have hne2 : ((x.toNat : Int) != (x.toNat : Int)) = false := by simp
          go_wp2
          go_quiet (fail)
          go_wp2
          exact ⟨⟨k + 1, by omega, by go_num, by rw [HTx.out, HTy.out, HE.out], HMw.out.drewN _⟩, by simp only [intOf]; omega⟩
        · have hne2 : ((x.toNat : Int) != (y.toNat : Int)) = true := by
            have : ¬ x.toNat = y.toNat := fun e => hxy (UInt8.toNat_inj.1 e)
            simp; omega
          have HF := Lib.hid (show r = false by
            rw [HR.out]
            simp only [decide_eq_false_iff_not]
            intro e
            subst e
            have := HTx.out.symm.trans HTy.out
            rw [List.append_cancel_left_eq] at this
            simp at this
            exact hxy this)
          clear hxy
          go_wp2
          go_quiet (fail)
          go_wp2
          go_ret
          exact ⟨by rw [HF.out]; rfl, HMw.out.drewN _⟩
      · obtain rfl : k = n := by omega
        have HT := Lib.hid (show r = true by
          rw [HR.out]
          have h := HE.out
          rw [HN.out, List.take_length] at h
          rw [← HN.out, HM.out, List.take_length] at h
          simpa using h)
        go_wp2
        go_ret
        exact ⟨by rw [HT.out]; rfl, HMw.out⟩
  · have hne : ((n : Int) != (m : Int)) = true := by simp; omega
    have HF := Lib.hid (show r = false by
      rw [HR.out]
      simp only [decide_eq_false_iff_not]
      intro e
      subst e
      exact hnm (HN.out.trans HM.out.symm))
    clear hnm
    go_enter Tryz.func88, Tryz.ntmps88
    go_wp2
    go_ret
    exact ⟨by rw [HF.out]; rfl, Mod.refl _ _⟩
theorem rdEn {D : Nat → Prop} {w : World} {A : Option Addr} {xs : List EnC} (h : Rd D w 2 EnC.cs A xs) {k : Nat} (hk : k < xs.length) :
    ∃ b off, A = some ⟨b, off, none⟩ ∧ D b ∧ w.cell? ⟨b, off + k * 2, none⟩ = some (.string ⟨(xs[k]).nm.toArray⟩) ∧ w.cell? ⟨b, off + k * 2 + 1, none⟩ = some (.slice (xs[k]).A (xs[k]).ats.length (xs[k]).c) := by
  obtain ⟨b, off, rfl, hd, hc⟩ := h (by omega)
  refine ⟨b, off, rfl, hd, ?_, ?_⟩
  · have := hc k hk 0 _ rfl
    simpa using this
  · exact hc k hk 1 _ rfl
theorem sameE_ent (x y : EnC) : sameE x.nm y.nm x.ats y.ats = decide (x.ent = y.ent) := by
  unfold sameE EnC.ent
  rw [Bool.eq_iff_iff]
  simp
set_option maxRecDepth 100000 in
set_option maxHeartbeats 2000000 in
theorem eequalF_any (A B : Option Addr) (c d : Nat) (xs ys : List EnC) (w : World) (hA : Rd (fun b => b < w.heap.size) w 2 EnC.cs A xs) (hB : Rd (fun b => b < w.heap.size) w 2 EnC.cs B ys) (hx : xs.length ≤ maxLen) (hy : ys.length ≤ maxLen)
    (ox : ∀ e ∈ xs, e.Ok (fun b => b < w.heap.size) w) (oy : ∀ e ∈ ys, e.Ok (fun b => b < w.heap.size) w) :
    Calls Tryz.prog 86 #[.slice A xs.length c, .slice B ys.length d, .func (.func 87) #[] #[]] w fun e w' => e = .returned (.bool (decide (xs.map EnC.ent = ys.map EnC.ent))) ∧ Mod (fun _ => False) w w' := by
  unfold maxLen at hx hy
  obtain ⟨n, hn⟩ : ∃ n, n = xs.length := ⟨_, rfl⟩
  obtain ⟨m, hm⟩ : ∃ m, m = ys.length := ⟨_, rfl⟩
  rw [← hn] at hx ⊢
  rw [← hm] at hy ⊢
  have HN := Lib.hid hn
  have HM := Lib.hid hm
  have HA := Lib.hid (fun X (hX : Mod (fun _ => False) w X) => hA.mod hX (fun b hb => ⟨hb, id⟩))
  have HB := Lib.hid (fun X (hX : Mod (fun _ => False) w X) => hB.mod hX (fun b hb => ⟨hb, id⟩))
  have HOx := Lib.hid (fun X (hX : Mod (fun _ => False) w X) e he => (ox e he).mod hX (fun b hb => ⟨hb, id⟩))
  have HOy := Lib.hid (fun X (hX : Mod (fun _ => False) w X) e he => (oy e he).mod hX (fun b hb => ⟨hb, id⟩))
  obtain ⟨r, hr⟩ : ∃ r, r = decide (xs.map EnC.ent = ys.map EnC.ent) := ⟨_, rfl⟩
  rw [← hr]
  have HR := Lib.hid hr
  clear hn hm hA hB hr ox oy
  by_cases hnm : n = m
  · subst hnm
    have hne : ((n : Int) != (n : Int)) = false := by simp
    go_enter Tryz.func86, Tryz.ntmps86
    go_wp2
    go_loopw [17] (fun i wr => ∃ k : Nat, k ≤ n ∧ i = .int .i64 k ∧ (xs.take k).map EnC.ent = (ys.take k).map EnC.ent ∧ Mod (fun _ => False) w wr) (fun i _ => n - (intOf i).toNat)
    case atStart => exact ⟨0, Nat.zero_le _, rfl, by simp, Mod.refl _ _⟩
    case round =>
      obtain ⟨k, hk, rfl, he, hmw⟩ := hrel
      have HE := Lib.hid he
      have HMw := Lib.hid hmw
      clear he hmw
      by_cases hlt : k < n
      · have hkx : k < xs.length := by rw [← HN.out]; exact hlt
        have hky : k < ys.length := by rw [← HM.out]; exact hlt
        obtain ⟨b1, o1, rfl, -, p0, p1⟩ := rdEn (HA.out _ HMw.out) hkx
        obtain ⟨b2, o2, rfl, hb2, q0, q1⟩ := rdEn (HB.out _ HMw.out) hky
        have hb2 : b2 < wr.heap.size := Nat.lt_of_lt_of_le hb2 HMw.out.size
        obtain ⟨x, hx'⟩ : ∃ x, x = xs[k] := ⟨_, rfl⟩
        obtain ⟨y, hy'⟩ : ∃ y, y = ys[k] := ⟨_, rfl⟩
        rw [← hx'] at p0 p1
        rw [← hy'] at q0 q1
        have HTx := Lib.hid (show xs.take (k + 1) = xs.take k ++ [x] by rw [hx']; exact List.take_succ_eq_append_getElem hkx)
        have HTy := Lib.hid (show ys.take (k + 1) = ys.take k ++ [y] by rw [hy']; exact List.take_succ_eq_append_getElem hky)
        have HS := Lib.hid (fun X (hX : Mod (fun _ => False) w X) => esame_any x.nm y.nm x.A y.A x.c y.c x.ats y.ats X ((HOx.out X hX x (by rw [hx']; exact List.getElem_mem _)).rd.mono fun b hb => Nat.lt_of_lt_of_le hb hX.size) ((HOy.out X hX y (by rw [hy']; exact List.getElem_mem _)).rd.mono fun b hb => Nat.lt_of_lt_of_le hb hX.size)
          (HOx.out X hX x (by rw [hx']; exact List.getElem_mem _)).ats (HOy.out X hX y (by rw [hy']; exact List.getElem_mem _)).ats)
        clear hx' hy'
        have q0' := (World.cell?_alloc_lt wr (.cells #[.string ⟨x.nm.toArray⟩, .slice x.A x.ats.length x.c] 68) ⟨b2, o2 + k * 2, none⟩ hb2).trans q0
        have q1' := (World.cell?_alloc_lt wr (.cells #[.string ⟨x.nm.toArray⟩, .slice x.A x.ats.length x.c] 68) ⟨b2, o2 + k * 2 + 1, none⟩ hb2).trans q1
        obtain ⟨z, hz⟩ : ∃ z, z = sameE x.nm y.nm x.ats y.ats := ⟨_, rfl⟩
        rw [← hz] at HS
        have hz2 := hz.trans (sameE_ent x y)
        clear hz
        have HM1 := Lib.hid (HMw.out)
        cases z
        · have HF := Lib.hid (show r = false by
            rw [HR.out]
            simp only [decide_eq_false_iff_not]
            intro e
            have h1 : (xs.take (k + 1)).map EnC.ent = (ys.take (k + 1)).map EnC.ent := by rw [List.map_take, List.map_take, e]
            rw [HTx.out, HTy.out, List.map_append, List.map_append, HE.out, List.append_cancel_left_eq] at h1
            simp only [List.map_cons, List.map_nil, List.cons.injEq, and_true] at h1
            rw [decide_eq_true h1] at hz2
            cases hz2)
          clear hz2
          go_wp2_with (first
            | (go_at_call 87
               refine (HS.out _ ((HMw.out.alloc _).alloc _)).mono ?_
               rintro e w2 ⟨rfl, hm2⟩
               have HM2 := Lib.hid (((HMw.out.alloc _).alloc _).trans' hm2)
               clear hm2)
            | fail)
          go_ret
          exact ⟨by rw [HF.out]; rfl, HM2.out⟩
        · have hz3 : x.ent = y.ent := of_decide_eq_true hz2.symm
          have HG := Lib.hid (show (xs.take (k + 1)).map EnC.ent = (ys.take (k + 1)).map EnC.ent by rw [HTx.out, HTy.out, List.map_append, List.map_append, HE.out]; simp [hz3])
          clear hz2 hz3
          go_wp2_with (first
            | (go_at_call 87
               refine (HS.out _ ((HMw.out.alloc _).alloc _)).mono ?_
               rintro e w2 ⟨rfl, hm2⟩
               have HM2 := Lib.hid (((HMw.out.alloc _).alloc _).trans' hm2)
               clear hm2)
            | fail)
          exact ⟨⟨k + 1, by omega, by go_num, HG.out, HM2.out⟩, by simp only [intOf]; omega⟩
      · obtain rfl : k = n := by omega
        have HT := Lib.hid (show r = true by
          rw [HR.out]
          have h := HE.out
          rw [HN.out, List.take_length] at h
          rw [← HN.out, HM.out, List.take_length] at h
          simpa using h)
        go_wp2
        go_ret
        exact ⟨by rw [HT.out]; rfl, HMw.out⟩
  · have hne : ((n : Int) != (m : Int)) = true := by simp; omega
    have HF := Lib.hid (show r = false by
      rw [HR.out]
      simp only [decide_eq_false_iff_not]
      intro e
      have := congrArg List.length e
      rw [List.length_map, List.length_map] at this
      exact hnm (HN.out.trans (this.trans HM.out.symm)))
    clear hnm
    go_enter Tryz.func86, Tryz.ntmps86
    go_wp2
    go_ret
    exact ⟨by rw [HF.out]; rfl, Mod.refl _ _⟩
end Go.Proofs.YtmalclclopnlnaaGreat
/-
  The package message: two results the same.
-/
namespace Go.Proofs.YtmalclclopnlnaaGreat
open Go.RowKit Go.Shelf
attribute [local go_sem] Oper.semAt_some

theorem res_dec (x y : RC) : decide (x.res = y.res) = ((x.code == y.code) && ((x.yes == y.yes) && (decide (x.es.map EnC.ent = y.es.map EnC.ent) && decide (x.cur = y.cur)))) := by
  rw [Bool.eq_iff_iff]
  unfold RC.res
  simp
set_option maxRecDepth 100000 in
set_option maxHeartbeats 4000000 in
theorem msame_any (x y : RC) (w : World) (hx : x.Ok (fun b => b < w.heap.size) w) (hy : y.Ok (fun b => b < w.heap.size) w) :
    Calls Tryz.prog 63 #[x.val, y.val] w fun e w' => e = .returned (.bool (decide (x.res = y.res))) ∧ Mod (fun _ => False) w w' := by
  have hE := fun X (hX : Mod (fun _ => False) w X) => eequalF_any x.A y.A x.cA y.cA x.es y.es X ((hx.rdE.mod hX fun b hb => ⟨hb, id⟩).mono fun b hb => Nat.lt_of_lt_of_le hb hX.size) ((hy.rdE.mod hX fun b hb => ⟨hb, id⟩).mono fun b hb => Nat.lt_of_lt_of_le hb hX.size) hx.esl hy.esl
    (fun e he => ((hx.ok e he).mod hX fun b hb => ⟨hb, id⟩).mono fun b hb => Nat.lt_of_lt_of_le hb hX.size) (fun e he => ((hy.ok e he).mod hX fun b hb => ⟨hb, id⟩).mono fun b hb => Nat.lt_of_lt_of_le hb hX.size)
  have hC := fun X (hX : Mod (fun _ => False) w X) => uequal_any _ _ x.B y.B x.cB y.cB x.cur y.cur X (hx.rdC.mod hX fun b hb => ⟨hb, id⟩) (hy.rdC.mod hX fun b hb => ⟨hb, id⟩) hx.cul hy.cul (fun b hb => Nat.lt_of_lt_of_le hb hX.size) (fun b hb => Nat.lt_of_lt_of_le hb hX.size)
  rw [res_dec]
  obtain ⟨d0, h0⟩ : ∃ d, (x.code == y.code) = d := ⟨_, rfl⟩
  obtain ⟨d1, h1⟩ : ∃ d, (x.yes == y.yes) = d := ⟨_, rfl⟩
  obtain ⟨d2, h2⟩ : ∃ d, decide (x.es.map EnC.ent = y.es.map EnC.ent) = d := ⟨_, rfl⟩
  obtain ⟨d3, h3⟩ : ∃ d, decide (x.cur = y.cur) = d := ⟨_, rfl⟩
  rw [h2] at hE
  rw [h3] at hC
  rw [h0, h1, h2, h3]
  clear h2 h3 hx hy
  have HE := Lib.hid hE
  have HC := Lib.hid hC
  clear hE hC
  obtain ⟨code, yes, A, es, cA, B, cur, cB⟩ := x
  obtain ⟨code', yes', A', es', cA', B', cur', cB'⟩ := y
  have h0 : (code == code') = d0 := h0
  have h1 : (yes == yes') = d1 := h1
  show Calls Tryz.prog 63 #[.agg #[.int .i64 code, .bool yes, .slice A es.length cA, .slice B cur.length cB], .agg #[.int .i64 code', .bool yes', .slice A' es'.length cA', .slice B' cur'.length cB']] w _
  have HE := Lib.hid (show ∀ X, Mod (fun _ => False) w X → Calls Tryz.prog 86 #[.slice A es.length cA, .slice A' es'.length cA', .func (.func 87) #[] #[]] X fun e w' => e = .returned (.bool d2) ∧ Mod (fun _ => False) X w' from HE.out)
  have HC := Lib.hid (show ∀ X, Mod (fun _ => False) w X → Calls Tryz.prog 88 #[.slice B cur.length cB, .slice B' cur'.length cB'] X fun e w' => e = .returned (.bool d3) ∧ Mod (fun _ => False) X w' from HC.out)
  obtain ⟨n, hn⟩ : ∃ n, n = es.length := ⟨_, rfl⟩
  obtain ⟨m, hm⟩ : ∃ m, m = cur.length := ⟨_, rfl⟩
  obtain ⟨n', hn'⟩ : ∃ n, n = es'.length := ⟨_, rfl⟩
  obtain ⟨m', hm'⟩ : ∃ m, m = cur'.length := ⟨_, rfl⟩
  rw [← hn, ← hn'] at HE
  rw [← hm, ← hm'] at HC
  rw [← hn, ← hn', ← hm, ← hm']
  clear hn hm hn' hm'
  cases d0
  · go_enter Tryz.func63, Tryz.ntmps63
    go_wp2
    go_ret
    exact ⟨rfl, by (repeat' (first | exact Mod.refl _ _ | assumption | refine Mod.alloc ?_ _ | refine Mod.drew ?_ | refine Mod.drewN ?_ _ | refine Mod.setCell ?_ (by first | exact Or.inl rfl | (right; simp; done) | (right; simp; omega) | (left; simp; done)) _))⟩
  · cases d1
    · go_enter Tryz.func63, Tryz.ntmps63
      go_wp2
      go_ret
      exact ⟨rfl, by (repeat' (first | exact Mod.refl _ _ | assumption | refine Mod.alloc ?_ _ | refine Mod.drew ?_ | refine Mod.drewN ?_ _ | refine Mod.setCell ?_ (by first | exact Or.inl rfl | (right; simp; done) | (right; simp; omega) | (left; simp; done)) _))⟩
    · cases d2
      · go_enter Tryz.func63, Tryz.ntmps63
        go_wp2_with (first
          | (go_at_call 86; refine (HE.out _ (by (repeat' (first | exact Mod.refl _ _ | assumption | refine Mod.alloc ?_ _ | refine Mod.drew ?_ | refine Mod.drewN ?_ _ | refine Mod.setCell ?_ (by first | exact Or.inl rfl | (right; simp; done) | (right; simp; omega) | (left; simp; done)) _)))).mono ?_; rintro e w1 ⟨rfl, hm1⟩; have HM1 := Lib.hid ((((Mod.refl _ w).alloc _).alloc _).trans' hm1); clear hm1)
          | fail)
        go_ret
        exact ⟨rfl, HM1.out⟩
      · cases d3
        all_goals
          go_enter Tryz.func63, Tryz.ntmps63
          go_wp2_with (first
            | (go_at_call 86
               refine (HE.out _ (by (repeat' (first | exact Mod.refl _ _ | assumption | refine Mod.alloc ?_ _ | refine Mod.drew ?_ | refine Mod.drewN ?_ _ | refine Mod.setCell ?_ (by first | exact Or.inl rfl | (right; simp; done) | (right; simp; omega) | (left; simp; done)) _)))).mono ?_
               rintro e w1 ⟨rfl, hm1⟩
               have hbx : w1.heap[w.heap.size]? = some (.cells #[.int .i64 code, .bool yes, .slice A n cA, .slice B m cB] 37 (0, 0)) := hp_mod (hp_alloc (hp_new w _) _) hm1 id
               have hby : w1.heap[w.heap.size + 1]? = some (.cells #[.int .i64 code', .bool yes', .slice A' n' cA', .slice B' m' cB'] 37 (0, 0)) := hp_mod (hp_at _ _ (by simp)) hm1 id
               have x3 : w1.cell? ⟨w.heap.size, 0 + 3, none⟩ = some (.slice B m cB) := hp_cell hbx 3
               have x3' : w1.cell? ⟨w.heap.size, 3, none⟩ = some (.slice B m cB) := hp_cell hbx 3
               have y3 : w1.cell? ⟨w.heap.size + 1, 0 + 3, none⟩ = some (.slice B' m' cB') := hp_cell hby 3
               have y3' : w1.cell? ⟨w.heap.size + 1, 3, none⟩ = some (.slice B' m' cB') := hp_cell hby 3
               have HM1 := Lib.hid ((((Mod.refl _ w).alloc _).alloc _).trans' hm1)
               clear hm1 hbx hby)
            | (go_at_call 88
               refine (HC.out _ HM1.out).mono ?_
               rintro e w2 ⟨rfl, hm2⟩
               have HM2 := Lib.hid (HM1.out.trans' hm2)
               clear hm2)
            | fail)
          go_ret
          exact ⟨rfl, HM2.out⟩
end Go.Proofs.YtmalclclopnlnaaGreat
/-
  Plain theory: a table put by the document's loop; a map's list of the same clients in some order.
-/
namespace Go.Proofs.YtmalclclopnlnaaGreat

section
variable {α β : Type}
/-- Put into a rising list by a key. -/
def insK (key : α → Nat) (x : α) : List α → List α
  | [] => [x]
  | y :: l => if key x ≤ key y then (if key x = key y then x :: l else x :: y :: l) else y :: insK key x l
/-- Put in place, or behind. -/
def updK (key : α → Nat) (x : α) : List α → List α
  | [] => [x]
  | y :: l => if key x = key y then x :: l else y :: updK key x l
/-- One step of the document's loop, and its end. -/
def stpK (key : α → Nat) (x : α) (s : List α × Bool) (y : α) : List α × Bool :=
  (if key y = key x then (if s.2 = false ∧ key x ≤ key y then (s.1 ++ [x], true) else s).1 else (if s.2 = false ∧ key x ≤ key y then (s.1 ++ [x], true) else s).1 ++ [y], (if s.2 = false ∧ key x ≤ key y then (s.1 ++ [x], true) else s).2)
def finK (x : α) (s : List α × Bool) : List α := if s.2 = true then s.1 else s.1 ++ [x]
theorem stp_true (key : α → Nat) (x : α) : ∀ (L l : List α), (∀ y ∈ L, key x < key y) → L.foldl (stpK key x) (l, true) = (l ++ L, true)
  | [], l, _ => by simp
  | y :: L, l, h => by
    have hy := h y (by simp)
    have e : stpK key x (l, true) y = (l ++ [y], true) := by
      unfold stpK
      rw [if_neg (show ¬ key y = key x by omega)]
      simp
    rw [List.foldl_cons, e, stp_true key x L _ fun z hz => h z (by simp [hz])]
    simp
theorem ins_fold (key : α → Nat) (x : α) : ∀ (L l : List α), (L.Pairwise fun a b => key a < key b) → finK x (L.foldl (stpK key x) (l, false)) = l ++ insK key x L
  | [], l, _ => by simp [finK, insK]
  | y :: L, l, h => by
    have h2 := List.pairwise_cons.1 h
    rw [List.foldl_cons]
    simp only [insK]
    by_cases hle : key x ≤ key y
    · rw [if_pos hle]
      by_cases he : key x = key y
      · have e : stpK key x (l, false) y = (l ++ [x], true) := by
          unfold stpK
          rw [if_pos he.symm, if_pos (show (l, false).2 = false ∧ key x ≤ key y from ⟨rfl, hle⟩)]
        rw [e, stp_true key x L _ fun z hz => by have := h2.1 z hz; omega, if_pos he]
        simp [finK]
      · have e : stpK key x (l, false) y = (l ++ [x] ++ [y], true) := by
          unfold stpK
          rw [if_neg (Ne.symm he), if_pos (show (l, false).2 = false ∧ key x ≤ key y from ⟨rfl, hle⟩)]
        rw [e, stp_true key x L _ fun z hz => by have := h2.1 z hz; omega, if_neg he]
        simp [finK]
    · have e : stpK key x (l, false) y = (l ++ [y], false) := by
        unfold stpK
        rw [if_neg (show ¬ key y = key x by omega), if_neg (show ¬ ((l, false).2 = false ∧ key x ≤ key y) from fun h => hle h.2)]
      rw [if_neg hle, e, ins_fold key x L _ h2.2]
      simp
theorem insK_map (f : α → β) (key : α → Nat) (key' : β → Nat) (hk : ∀ a, key' (f a) = key a) (x : α) : ∀ L : List α, (insK key x L).map f = insK key' (f x) (L.map f)
  | [] => rfl
  | y :: l => by
    simp only [insK, List.map_cons, hk]
    split
    · split <;> rfl
    · rw [List.map_cons, insK_map f key key' hk x l]
theorem updK_map (f : α → β) (key : α → Nat) (key' : β → Nat) (hk : ∀ a, key' (f a) = key a) (x : α) : ∀ L : List α, (updK key x L).map f = updK key' (f x) (L.map f)
  | [] => rfl
  | y :: l => by
    simp only [updK, List.map_cons, hk]
    split
    · rfl
    · rw [List.map_cons, updK_map f key key' hk x l]
def offK (key : α → Nat) (x : α) (L : List α) : List α := L.filter fun y => decide (key y ≠ key x)
theorem off_all {key : α → Nat} {x : α} {L : List α} (h : ∀ y ∈ L, key y ≠ key x) : offK key x L = L := List.filter_eq_self.2 fun y hy => by simpa using h y hy
theorem insK_perm (key : α → Nat) (x : α) : ∀ {L : List α}, (L.Pairwise fun a b => key a < key b) → (insK key x L).Perm (x :: offK key x L)
  | [], _ => .refl _
  | y :: l, h => by
    have h2 := List.pairwise_cons.1 h
    simp only [insK]
    split
    · split
      · rename_i e
        have : offK key x (y :: l) = l := by
          unfold offK
          rw [List.filter_cons_of_neg (by simp [e])]
          exact off_all fun z hz => by have := h2.1 z hz; omega
        rw [this]
      · rw [off_all fun z hz => ?_]
        rcases List.mem_cons.1 hz with rfl | hz
        · omega
        · have := h2.1 z hz; omega
    · have : offK key x (y :: l) = y :: offK key x l := by
        unfold offK
        rw [List.filter_cons_of_pos (by simp; omega)]
      rw [this]
      exact ((insK_perm key x h2.2).cons y).trans (.swap _ _ _)
theorem updK_perm (key : α → Nat) (x : α) : ∀ {L : List α}, (L.map key).Nodup → (updK key x L).Perm (x :: offK key x L)
  | [], _ => .refl _
  | y :: l, h => by
    have h2 := List.nodup_cons.1 h
    simp only [updK]
    split
    · rename_i e
      have : offK key x (y :: l) = l := by
        unfold offK
        rw [List.filter_cons_of_neg (by simp [e])]
        exact off_all fun z hz e2 => h2.1 (by rw [← e, ← e2]; exact List.mem_map_of_mem hz)
      rw [this]
    · have : offK key x (y :: l) = y :: offK key x l := by
        unfold offK
        rw [List.filter_cons_of_pos (by simp; omega)]
      rw [this]
      exact ((updK_perm key x h2.2).cons y).trans (.swap _ _ _)
theorem ins_upd (key : α → Nat) (x : α) {L M : List α} (hs : L.Pairwise fun a b => key a < key b) (hp : M.Perm L) : (updK key x M).Perm (insK key x L) := by
  have hn : (M.map key).Nodup := (hp.map key).nodup_iff.2 (List.pairwise_map.2 (hs.imp fun h => by omega))
  exact (updK_perm key x hn).trans (((hp.filter _).cons x).trans (insK_perm key x hs).symm)
end
theorem putT_ins (x : Told) : ∀ L : List Told, putT x L = insK Told.c x L
  | [] => rfl
  | y :: l => by simp only [putT, insK, putT_ins x l]
/-- The place of a client; -1: there is none. -/
def idxT (c : Nat) (L : List Told) : Int := match L.findIdx? fun x => decide (x.c = c) with
  | some i => (i : Int)
  | none => -1
theorem idxT_none {c : Nat} {L : List Told} (h : atT c L = none) : idxT c L = -1 := by
  unfold idxT
  rw [List.findIdx?_eq_none_iff.2 fun x hx => by
    have := List.find?_eq_none.1 h x hx
    simpa using this]
theorem idxT_some {c : Nat} {L : List Told} {x : Told} (h : atT c L = some x) : ∃ i : Nat, ∃ hi : i < L.length, idxT c L = (i : Int) ∧ L[i] = x := by
  unfold atT at h
  unfold idxT
  cases e : L.findIdx? fun x => decide (x.c = c) with
  | none =>
    have h1 := List.findIdx?_eq_none_iff.1 e
    have h2 := List.mem_of_find?_eq_some h
    have h3 := List.find?_some h
    have := h1 x h2
    rw [this] at h3
    cases h3
  | some i =>
    obtain ⟨hi, h1, h2⟩ := List.findIdx?_eq_some_iff_getElem.1 e
    refine ⟨i, hi, rfl, ?_⟩
    have : L.find? (fun x => decide (x.c = c)) = some L[i] := List.find?_eq_some_iff_getElem.2 ⟨h1, i, hi, rfl, fun j hj => by simpa using h2 j hj⟩
    rw [this] at h
    injection h
/-- How a request is, and what its result is. -/
def res0 : Res := ⟨0, false, [], []⟩
def askT (c n : Nat) (L : List Told) : Nat × Res := match atT c L with
  | none => (1, res0)
  | some x => if x.n < n then (1, res0) else if n < x.n then (3, res0) else (2, x.r)
theorem perm_at {L M : List Told} (hs : SrtT L) (hp : M.Perm L) (c : Nat) : atT c M = atT c L := by
  cases h : atT c L with
  | none =>
    unfold atT at h ⊢
    rw [List.find?_eq_none] at h ⊢
    exact fun x hx => h x (hp.mem_iff.1 hx)
  | some x =>
    obtain ⟨hx, hc⟩ := atT_some h
    cases h2 : atT c M with
    | none =>
      unfold atT at h2
      have := List.find?_eq_none.1 h2 x (hp.mem_iff.2 hx)
      simp [hc] at this
    | some y =>
      obtain ⟨hy, hyc⟩ := atT_some h2
      have := atT_of hs (hp.mem_iff.1 hy)
      rw [hyc, h] at this
      exact this.symm
end Go.Proofs.YtmalclclopnlnaaGreat
