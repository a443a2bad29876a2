/-
  Texts of this claim, one behind the other: EntryYa.
-/
import Derived.Test.YtmalclclopnlnaaGreatPk10
import Derived.Test.YtmalclclopnlnaaGreatPk11
/-
  The package entry: attributes are taken.
-/
namespace Go.Proofs.YtmalclclopnlnaaGreat
open Go.RowKit Go.Shelf
attribute [local go_sem] Oper.semAt_some

theorem gotV_len (t : UInt8) (s : Bs) (bad : Bool) : (gotV t s bad).2.1.length ≤ s.length := by
  unfold gotV
  split
  · exact Nat.le_refl _
  · rename_i b s' e
    split at e
    · cases e
    · have h := congrArg List.length (takeV_some e).1
      rw [List.length_append, valV_len] at h
      show s'.length ≤ s.length
      omega
theorem step2_len (x : Nat × At) (s : Bs) : (step2 x s).2.1.length ≤ s.length := by
  unfold step2
  show (if x.1 = 0 then gotV 1 s false else gotV 2 s false).2.1.length ≤ s.length
  split <;> exact gotV_len _ _ _
theorem step2_inv (x : Nat × At) (s : Bs) (h : (step2 x s).2.2.2 = true) : (step2 x s).1.1 ≤ 2 := by
  have h : decide (x.1 + 1 ≤ 2) = true := h
  exact of_decide_eq_true h
theorem listG_len {σ : Type} (step : σ → Bs → σ × Bs × Bool × Bool) (t : UInt8) (a : σ) (s : Bs) (bad : Bool) : (listG step t a s bad).2.1.length ≤ s.length := by
  unfold listG
  cases e : (if bad = true then none else takeV t s) with
  | none => exact Nat.le_refl _
  | some v =>
    obtain ⟨b, s'⟩ := v
    split at e
    · cases e
    · have h := congrArg List.length (takeV_some e).1
      rw [List.length_append, valV_len] at h
      show s'.length ≤ s.length
      omega
def at0 : At := ⟨[], []⟩
/-- One step of a list of attributes. -/
def step1 (l : List At) (s : Bs) : List At × Bs × Bool × Bool :=
  (l ++ [(listG step2 3 (0, at0) s false).1.2], (listG step2 3 (0, at0) s false).2.1, (listG step2 3 (0, at0) s false).2.2.1, (listG step2 3 (0, at0) s false).2.2.2 && decide ((listG step2 3 (0, at0) s false).1.1 = 2))
def J1 (bL : Nat) (l : List At) (C : Nat → Prop) (W : World) : Prop :=
  ∃ v, W.heap[bL]? = some (.cells #[v] 66 (0, 0)) ∧ OwnS (bL + 1) 144 2 At.cs W v l ∧ C = fun b => b = bL ∨ v.ownBlock = some b
theorem J1_stab (bL : Nat) (l : List At) (C : Nat → Prop) (W W' : World) (h : J1 bL l C W) (hA : Agree C W W') : J1 bL l C W' := by
  obtain ⟨v, h1, h2, h3⟩ := h
  exact ⟨v, hp_agree h1 hA (by rw [h3]; exact .inl rfl), h2.keep (hA.mono fun b hb => by rw [h3]; exact .inr hb), h3⟩
theorem take1_fin {bL q T : Nat} {D : Nat → Prop} {W W2 w3 w4 : World} {v v' : Value} {l : List At} {a : At} {s' : Bs} {bd : Bool} {bn ba : Nat} (hC : ∀ b, b = bL ∨ v.ownBlock = some b → b < W.heap.size ∧ b ≠ q ∧ ¬ D b) (hD : ∀ b, D b → b ≠ q ∧ b < W.heap.size)
    (hm1 : Mod (fun _ => False) W W2) (hbn : W.heap.size ≤ bn) (hba : W.heap.size ≤ ba) (hm2 : Mod (fun b => b = q ∨ (b = bn ∨ b = ba)) W2 w3) (o : Obj) (hm3 : Mod (fun b => v.ownBlock = some b) (w3.alloc o) w4)
    (hq : q < W.heap.size) (hown : OwnS (bL + 1) 144 2 At.cs w4 v' (l ++ [a])) (hat : v'.ownBlock = v.ownBlock ∨ v'.ownBlock = some (w3.alloc o).heap.size) (hbL : w4.heap[bL]? = some (.cells #[v] 66 (0, 0))) (hr : RrAt D q T w3 s' bd) :
    RrAt D q T (w4.setCell ⟨bL, 0, none⟩ v') s' bd ∧ Mod (fun b => b = q ∨ (b = bL ∨ v.ownBlock = some b)) W (w4.setCell ⟨bL, 0, none⟩ v') ∧ ∃ C', J1 bL (l ++ [a]) C' (w4.setCell ⟨bL, 0, none⟩ v') ∧ ∀ b, C' b → b < (w4.setCell ⟨bL, 0, none⟩ v').heap.size ∧ ((b = bL ∨ v.ownBlock = some b) ∨ W.heap.size ≤ b) := by
  have hm4 : Mod (fun b => b = bL) w4 (w4.setCell ⟨bL, 0, none⟩ v') := by (repeat' (first | exact Mod.refl _ _ | assumption | refine Mod.alloc ?_ _ | refine Mod.drew ?_ | refine Mod.drewN ?_ _ | refine Mod.setCell ?_ (by first | exact Or.inl rfl | (right; simp; done) | (right; simp; omega) | (left; simp; done)) _))
  have s1 := hm1.size
  have s2 := hm2.size
  have s3 := hm3.size
  have s4 := hm4.size
  have sa : (w3.alloc o).heap.size = w3.heap.size + 1 := by simp
  have hr4 : RrAt D q T w4 s' bd := (hr.keep (C := fun _ => False) (by (repeat' (first | exact Mod.refl _ _ | assumption | refine Mod.alloc ?_ _ | refine Mod.drew ?_ | refine Mod.drewN ?_ _ | refine Mod.setCell ?_ (by first | exact Or.inl rfl | (right; simp; done) | (right; simp; omega) | (left; simp; done)) _))) id fun _ _ => id).keep hm3 (fun h => (hC q (.inr h)).2.1 rfl) fun b hb h => (hC b (.inr h)).2.2 hb
  refine ⟨hr4.keep hm4 (fun e => (hC bL (.inl rfl)).2.1 e.symm) fun b hb e => (hC b (.inl e)).2.2 hb, ?_, fun b => b = bL ∨ v'.ownBlock = some b, ⟨v', hp_eq (hp_set hbL 0 _) rfl, hown.mod hm4 (fun b hb e => by have := (hown.fresh b hb).1; omega), rfl⟩, fun b hb => ?_⟩
  · refine ((((hm1.mono fun _ _ h => h.elim).trans hm2 fun b hb => ?_).alloc o).trans hm3 fun b hb => .inl (.inr (.inr hb))).trans hm4 fun b hb => .inl (.inr (.inl hb))
    rcases hb with h | h | h
    · exact .inl (.inl h)
    · right; omega
    · right; omega
  · rcases hb with h | h
    · exact ⟨by have := (hC b (.inl h)).1; omega, .inl (.inl h)⟩
    · refine ⟨by have := (hown.fresh b h).2; omega, ?_⟩
      rcases hat with e | e
      · exact .inl (.inr (e ▸ h))
      · rw [e] at h
        injection h with h
        right; omega
set_option maxRecDepth 100000 in
set_option maxHeartbeats 2000000 in
theorem take1_takes (bL : Nat) : TakesR 98 #[.pointer (some ⟨bL, 0, none⟩)] step1 (J1 bL) (fun l s => l.length + s.length ≤ 1099511627776) := by
  intro D q l s C W hat hsz hin hj hC
  obtain ⟨v, h1, hown, rfl⟩ := hj
  have hqlt := hat.lt
  have hD : ∀ b, D b → b ≠ q ∧ b < W.heap.size := by
    obtain ⟨_, _, _, _, _, _, _, h5⟩ := hat
    exact h5
  obtain ⟨W2, hW2⟩ : ∃ W2, W2 = (W.alloc (.cells #[.string ⟨#[]⟩, .string ⟨#[]⟩] 144)).alloc (.cells #[.int .i64 0] 3) := ⟨_, rfl⟩
  have hm1 : Mod (fun _ => False) W W2 := by rw [hW2]; (repeat' (first | exact Mod.refl _ _ | assumption | refine Mod.alloc ?_ _ | refine Mod.drew ?_ | refine Mod.drewN ?_ _ | refine Mod.setCell ?_ (by first | exact Or.inl rfl | (right; simp; done) | (right; simp; omega) | (left; simp; done)) _))
  have hsW : W2.heap.size = W.heap.size + 2 := by rw [hW2]; simp
  have hba : W2.heap[W.heap.size]? = some (.cells #[.string ⟨#[]⟩, .string ⟨#[]⟩] 144 (0, 0)) := by rw [hW2]; exact hp_alloc (hp_new _ _) _
  have hbn : W2.heap[W.heap.size + 1]? = some (.cells #[.int .i64 0] 3 (0, 0)) := by rw [hW2]; exact hp_at _ _ (by simp)
  have hat2 : RrAt D q 135 W2 s false := hat.keep hm1 id fun _ _ => id
  have hl := rlist_any D q 135 s false 3 99 #[.pointer (some ⟨W.heap.size + 1, 0, none⟩), .pointer (some ⟨W.heap.size, 0, none⟩)] step2 (J2 (W.heap.size + 1) W.heap.size) (fun x _ => x.1 ≤ 2) (0, at0) (fun b => b = W.heap.size + 1 ∨ b = W.heap.size) W2
    hat2 hsz enters_take11 step2_len (take11_takes _ _) (fun x s _ h _ _ => step2_inv x s h) (fun _ _ _ => Nat.zero_le _) (J2_stab _ _) ⟨hbn, hba, by omega, rfl⟩ (fun b hb => ⟨by omega, by omega, fun h => by have := (hD b h).2; omega⟩)
  rw [show (((3 : UInt8).toNat : Nat) : Int) = 3 from rfl] at hl
  obtain ⟨G, hG⟩ : ∃ G, G = listG step2 3 (0, at0) s false := ⟨_, rfl⟩
  rw [← hG] at hl
  have HS := Lib.hid (show step1 l s = (l ++ [G.1.2], G.2.1, G.2.2.1, G.2.2.2 && decide (G.1.1 = 2)) by rw [hG]; rfl)
  obtain ⟨⟨n, a⟩, s', bd, ok⟩ := G
  have hl : Calls Tryz.prog 51 _ W2 fun e w' => e = .returned (.bool ok) ∧ RrAt D q 135 w' s' bd ∧ Mod (fun b => b = q ∨ (b = W.heap.size + 1 ∨ b = W.heap.size)) W2 w' ∧ ∃ C' : Nat → Prop, J2 (W.heap.size + 1) W.heap.size (n, a) C' w' ∧ ∀ b, C' b → b < w'.heap.size ∧ ((b = W.heap.size + 1 ∨ b = W.heap.size) ∨ W2.heap.size ≤ b) := hl
  have HS := Lib.hid (show step1 l s = (l ++ [a], s', bd, ok && decide (n = 2)) from HS.out)
  have HL := Lib.hid hl
  rw [hW2] at HL
  have HM1 := Lib.hid hm1
  rw [hW2] at HM1
  have HB := Lib.hid h1
  have HO := Lib.hid hown
  have HC := Lib.hid hC
  have HD := Lib.hid hD
  have HLn := Lib.hid hin
  have hbLq := (hC bL (.inl rfl)).2.1
  have hbLl := (hC bL (.inl rfl)).1
  have HQ := Lib.hid (show bL ≠ q ∧ bL < W.heap.size from ⟨hbLq, hbLl⟩)
  clear hl hm1 hW2 hba hbn hat2 hG h1 hown hC hD hat hsz hin hsW hbLq hbLl
  show Calls Tryz.prog 98 #[.pointer (some ⟨q, 0, none⟩), .pointer (some ⟨bL, 0, none⟩)] W _
  have HNB := Lib.hid (show ¬ (bL = q ∨ (bL = W.heap.size + 1 ∨ bL = W.heap.size)) from by have := HQ.out; omega)
  have HNO := Lib.hid (show ∀ b, v.ownBlock = some b → ¬ (b = q ∨ (b = W.heap.size + 1 ∨ b = W.heap.size)) from fun b hb h => by
    have h1 := HC.out b (.inr hb)
    have h2 := h1.2.1
    omega)
  have HNV := Lib.hid (show ¬ v.ownBlock = some bL from fun h => by have := (HO.out.fresh bL h).1; omega)
  have HNW := Lib.hid (show ¬ v.ownBlock = some (W.heap.size + 1) from fun h => by have := (HO.out.fresh _ h).2; omega)
  have d1 : ¬ W.heap.size + 1 = bL := by have := HQ.out.2; omega
  have d2 : ¬ bL = W.heap.size + 1 := by have := HQ.out.2; omega
  cases ok
  · go_enter Tryz.func98, Tryz.ntmps98
    go_wp2_with (first
      | (go_at_call 51
         (with_reducible refine HL.out.mono ?_)
         rintro e w3 ⟨rfl, hat3, hm3, C3, hj3, -⟩
         obtain ⟨hn3, ha3, -, -⟩ := hj3
         have hb3 := hp_mod (hp_mod HB.out HM1.out id) hm3 HNB.out
         have x0 : w3.cell? ⟨bL, 0, none⟩ = some v := by rw [hp_cell hb3]; rfl
         have a0 : w3.cell? ⟨W.heap.size, 0, none⟩ = some (.string ⟨a.T.toArray⟩) := by rw [hp_cell ha3]; rfl
         have a1 : w3.cell? ⟨W.heap.size, 1, none⟩ = some (.string ⟨a.V.toArray⟩) := by rw [hp_cell ha3]; rfl
         have a1' : w3.cell? ⟨W.heap.size, 0 + 1, none⟩ = some (.string ⟨a.V.toArray⟩) := by rw [hp_cell ha3]; rfl
         have HO3 := Lib.hid ((HO.out.mod HM1.out fun _ _ => id).mod hm3 fun b hb => HNO.out b hb)
         have HB3 := Lib.hid hb3
         have HN3 := Lib.hid hn3
         have HAT3 := Lib.hid hat3
         have HM3 := Lib.hid hm3
         have hs3 : W.heap.size ≤ w3.heap.size := Nat.le_trans HM1.out.size hm3.size
         have hs3' := hm3.size
         clear hn3 ha3 hb3 hat3 hm3)
      | (at_builtin
         refine wpList_app (base := bL + 1) (xs := l) (ys := [a]) (D := fun b => b = w3.heap.size) (v := v) rfl (.tmp 10) (.tmp 12) rfl ats_t At.cs_len At.cs_one rfl (HO3.out.below ((Below.refl _ w3).alloc (Nat.le_refl _) _) fun b hb => (HO3.out.fresh b hb).2) 1 rfl rfl (Rd.one (hp_new w3 _) rfl) ?_ ?_ ?_ ?_
         · have := HLn.out; simp [maxLen]; omega
         · have := HLn.out; simp; omega
         · have := HQ.out.2; simp; omega
         intro v' w4 hown4 hm4 hat4
         obtain ⟨A4, c4, hv4, -, -, -⟩ := OwnS.rd hown4 At.cs_len
         obtain ⟨n4, hn4e⟩ : ∃ k, k = (l ++ [a]).length := ⟨_, rfl⟩
         rw [← hn4e] at hv4
         subst hv4
         clear hn4e
         have hb4 := hp_mod (hp_alloc HB3.out _) hm4 HNV.out
         have hn4 := hp_mod (hp_alloc HN3.out _) hm4 HNW.out
         have x4 : w4.cell? ⟨bL, 0, none⟩ = some v := by rw [hp_cell hb4]; rfl
         have f4 : w4.frozen? ⟨bL, 0, none⟩ = false := hp_free hb4 _
         have y4 : w4.cell? ⟨W.heap.size + 1, 0, none⟩ = some (.int .i64 (n : Int)) := by rw [hp_cell hn4]; rfl
         have HO4 := Lib.hid hown4
         have HM4 := Lib.hid hm4
         have HAt4 := Lib.hid hat4
         have HB4 := Lib.hid hb4
         clear hown4 hm4 hat4 hb4 hn4)
      | fail)
    go_ret
    obtain ⟨k1, k2, k3⟩ := take1_fin HC.out HD.out HM1.out (Nat.le_succ _) (Nat.le_refl _) HM3.out _ HM4.out hqlt HO4.out HAt4.out HB4.out HAT3.out
    rw [HS.out]
    exact ⟨rfl, k1, k2, k3⟩
  · by_cases hn : n = 2
    · have hn1 : ((n : Int) == 2) = true := by rw [hn]; rfl
      have HNn := Lib.hid (show (true && decide (n = 2)) = true by simp [hn])
      clear hn
      go_enter Tryz.func98, Tryz.ntmps98
      go_wp2_with (first
        | (go_at_call 51
           (with_reducible refine HL.out.mono ?_)
           rintro e w3 ⟨rfl, hat3, hm3, C3, hj3, -⟩
           obtain ⟨hn3, ha3, -, -⟩ := hj3
           have hb3 := hp_mod (hp_mod HB.out HM1.out id) hm3 HNB.out
           have x0 : w3.cell? ⟨bL, 0, none⟩ = some v := by rw [hp_cell hb3]; rfl
           have a0 : w3.cell? ⟨W.heap.size, 0, none⟩ = some (.string ⟨a.T.toArray⟩) := by rw [hp_cell ha3]; rfl
           have a1 : w3.cell? ⟨W.heap.size, 1, none⟩ = some (.string ⟨a.V.toArray⟩) := by rw [hp_cell ha3]; rfl
           have a1' : w3.cell? ⟨W.heap.size, 0 + 1, none⟩ = some (.string ⟨a.V.toArray⟩) := by rw [hp_cell ha3]; rfl
           have HO3 := Lib.hid ((HO.out.mod HM1.out fun _ _ => id).mod hm3 fun b hb => HNO.out b hb)
           have HB3 := Lib.hid hb3
           have HN3 := Lib.hid hn3
           have HAT3 := Lib.hid hat3
           have HM3 := Lib.hid hm3
           have hs3 : W.heap.size ≤ w3.heap.size := Nat.le_trans HM1.out.size hm3.size
           have hs3' := hm3.size
           clear hn3 ha3 hb3 hat3 hm3)
        | (at_builtin
           refine wpList_app (base := bL + 1) (xs := l) (ys := [a]) (D := fun b => b = w3.heap.size) (v := v) rfl (.tmp 10) (.tmp 12) rfl ats_t At.cs_len At.cs_one rfl (HO3.out.below ((Below.refl _ w3).alloc (Nat.le_refl _) _) fun b hb => (HO3.out.fresh b hb).2) 1 rfl rfl (Rd.one (hp_new w3 _) rfl) ?_ ?_ ?_ ?_
           · have := HLn.out; simp [maxLen]; omega
           · have := HLn.out; simp; omega
           · have := HQ.out.2; simp; omega
           intro v' w4 hown4 hm4 hat4
           obtain ⟨A4, c4, hv4, -, -, -⟩ := OwnS.rd hown4 At.cs_len
           obtain ⟨n4, hn4e⟩ : ∃ k, k = (l ++ [a]).length := ⟨_, rfl⟩
           rw [← hn4e] at hv4
           subst hv4
           clear hn4e
           have hb4 := hp_mod (hp_alloc HB3.out _) hm4 HNV.out
           have hn4 := hp_mod (hp_alloc HN3.out _) hm4 HNW.out
           have x4 : w4.cell? ⟨bL, 0, none⟩ = some v := by rw [hp_cell hb4]; rfl
           have f4 : w4.frozen? ⟨bL, 0, none⟩ = false := hp_free hb4 _
           have y4 : w4.cell? ⟨W.heap.size + 1, 0, none⟩ = some (.int .i64 (n : Int)) := by rw [hp_cell hn4]; rfl
           have HO4 := Lib.hid hown4
           have HM4 := Lib.hid hm4
           have HAt4 := Lib.hid hat4
           have HB4 := Lib.hid hb4
           clear hown4 hm4 hat4 hb4 hn4)
        | fail)
      go_ret
      obtain ⟨k1, k2, k3⟩ := take1_fin HC.out HD.out HM1.out (Nat.le_succ _) (Nat.le_refl _) HM3.out _ HM4.out hqlt HO4.out HAt4.out HB4.out HAT3.out
      rw [HS.out]
      exact ⟨by rw [HNn.out]; rfl, k1, k2, k3⟩
    · have hn1 : ((n : Int) == 2) = false := by rw [beq_eq_false_iff_ne]; omega
      have HNn := Lib.hid (show (true && decide (n = 2)) = false by simp [hn])
      clear hn
      go_enter Tryz.func98, Tryz.ntmps98
      go_wp2_with (first
        | (go_at_call 51
           (with_reducible refine HL.out.mono ?_)
           rintro e w3 ⟨rfl, hat3, hm3, C3, hj3, -⟩
           obtain ⟨hn3, ha3, -, -⟩ := hj3
           have hb3 := hp_mod (hp_mod HB.out HM1.out id) hm3 HNB.out
           have x0 : w3.cell? ⟨bL, 0, none⟩ = some v := by rw [hp_cell hb3]; rfl
           have a0 : w3.cell? ⟨W.heap.size, 0, none⟩ = some (.string ⟨a.T.toArray⟩) := by rw [hp_cell ha3]; rfl
           have a1 : w3.cell? ⟨W.heap.size, 1, none⟩ = some (.string ⟨a.V.toArray⟩) := by rw [hp_cell ha3]; rfl
           have a1' : w3.cell? ⟨W.heap.size, 0 + 1, none⟩ = some (.string ⟨a.V.toArray⟩) := by rw [hp_cell ha3]; rfl
           have HO3 := Lib.hid ((HO.out.mod HM1.out fun _ _ => id).mod hm3 fun b hb => HNO.out b hb)
           have HB3 := Lib.hid hb3
           have HN3 := Lib.hid hn3
           have HAT3 := Lib.hid hat3
           have HM3 := Lib.hid hm3
           have hs3 : W.heap.size ≤ w3.heap.size := Nat.le_trans HM1.out.size hm3.size
           have hs3' := hm3.size
           clear hn3 ha3 hb3 hat3 hm3)
        | (at_builtin
           refine wpList_app (base := bL + 1) (xs := l) (ys := [a]) (D := fun b => b = w3.heap.size) (v := v) rfl (.tmp 10) (.tmp 12) rfl ats_t At.cs_len At.cs_one rfl (HO3.out.below ((Below.refl _ w3).alloc (Nat.le_refl _) _) fun b hb => (HO3.out.fresh b hb).2) 1 rfl rfl (Rd.one (hp_new w3 _) rfl) ?_ ?_ ?_ ?_
           · have := HLn.out; simp [maxLen]; omega
           · have := HLn.out; simp; omega
           · have := HQ.out.2; simp; omega
           intro v' w4 hown4 hm4 hat4
           obtain ⟨A4, c4, hv4, -, -, -⟩ := OwnS.rd hown4 At.cs_len
           obtain ⟨n4, hn4e⟩ : ∃ k, k = (l ++ [a]).length := ⟨_, rfl⟩
           rw [← hn4e] at hv4
           subst hv4
           clear hn4e
           have hb4 := hp_mod (hp_alloc HB3.out _) hm4 HNV.out
           have hn4 := hp_mod (hp_alloc HN3.out _) hm4 HNW.out
           have x4 : w4.cell? ⟨bL, 0, none⟩ = some v := by rw [hp_cell hb4]; rfl
           have f4 : w4.frozen? ⟨bL, 0, none⟩ = false := hp_free hb4 _
           have y4 : w4.cell? ⟨W.heap.size + 1, 0, none⟩ = some (.int .i64 (n : Int)) := by rw [hp_cell hn4]; rfl
           have HO4 := Lib.hid hown4
           have HM4 := Lib.hid hm4
           have HAt4 := Lib.hid hat4
           have HB4 := Lib.hid hb4
           clear hown4 hm4 hat4 hb4 hn4)
        | fail)
      go_ret
      obtain ⟨k1, k2, k3⟩ := take1_fin HC.out HD.out HM1.out (Nat.le_succ _) (Nat.le_refl _) HM3.out _ HM4.out hqlt HO4.out HAt4.out HB4.out HAT3.out
      rw [HS.out]
      exact ⟨by rw [HNn.out]; rfl, k1, k2, k3⟩
end Go.Proofs.YtmalclclopnlnaaGreat
/-
  Plain theory: what the lists of attributes come to.
-/
namespace Go.Proofs.YtmalclclopnlnaaGreat

theorem takeV_len {t : UInt8} {s b r : Bs} (h : takeV t s = some (b, r)) : b.length + r.length + 5 ≤ s.length := by
  have h := congrArg List.length (takeV_some h).1
  rw [List.length_append, valV_len] at h
  omega
theorem takeV_nil (t : UInt8) : takeV t [] = none := rfl
theorem gotV_no {t : UInt8} {s : Bs} (h : takeV t s = none) : gotV t s false = ([], s, true) := by
  unfold gotV
  rw [if_neg (by simp), h]
theorem gotV_yes {t : UInt8} {s b r : Bs} (h : takeV t s = some (b, r)) : gotV t s false = (b, r, false) := by
  unfold gotV
  rw [if_neg (by simp), h]
theorem listR_nil {σ : Type} (step : σ → Bs → σ × Bs × Bool × Bool) (f : Nat) (a : σ) : listR step f a [] = (a, true) := by
  cases f <;> simp [listR]
theorem listR_no {σ : Type} {step : σ → Bs → σ × Bs × Bool × Bool} {f : Nat} {a : σ} {s : Bs} (hs : s ≠ []) (h : (step a s).2.2.2 = false ∨ (step a s).2.2.1 = true) : (listR step f a s).2 = false := by
  cases f with
  | zero => simp [listR, hs]
  | succ f =>
    simp only [listR]
    rw [if_neg hs, if_pos (by rcases h with h | h; exact .inl h; exact .inr (.inl h))]
theorem listR_go {σ : Type} {step : σ → Bs → σ × Bs × Bool × Bool} {f : Nat} {a a' : σ} {s s' : Bs} (hs : s ≠ []) (h : step a s = (a', s', false, true)) (hl : s'.length < s.length) : listR step (f + 1) a s = listR step f a' s' := by
  simp only [listR]
  rw [if_neg hs, h, if_neg (by simp; omega)]
theorem mk_none {α : Type} {o : Option α} {X : Prop} {Y : α → Prop} (ho : o = none) (h : X) : (∀ a, o = some a → Y a) ∧ (o = none → X) := ⟨fun a h => (by rw [ho] at h; cases h), fun _ => h⟩
theorem mk_some {α : Type} {o : Option α} {a : α} {X : Prop} {Y : α → Prop} (ho : o = some a) (h : Y a) : (∀ a, o = some a → Y a) ∧ (o = none → X) := ⟨fun b hb => (by rw [ho] at hb; injection hb with hb; exact hb ▸ h), fun h => (by rw [ho] at h; cases h)⟩
theorem attrP_n1 {b : Bs} (h : takeV 1 b = none) : attrP b = none := by unfold attrP; rw [h]
theorem attrP_n2 {b t r : Bs} (h : takeV 1 b = some (t, r)) (h2 : takeV 2 r = none) : attrP b = none := by
  unfold attrP
  rw [h]
  simp only
  rw [h2]
theorem attrP_y {b t r v : Bs} (h : takeV 1 b = some (t, r)) (h2 : takeV 2 r = some (v, [])) : attrP b = some ⟨t, v⟩ := by
  unfold attrP
  rw [h]
  simp only
  rw [h2]
theorem attrP_n3 {b t r v z : Bs} {y : UInt8} (h : takeV 1 b = some (t, r)) (h2 : takeV 2 r = some (v, y :: z)) : attrP b = none := by
  unfold attrP
  rw [h]
  simp only
  rw [h2]
theorem inner_eq (f : Nat) (b : Bs) (hf : b.length ≤ f) : (∀ a, attrP b = some a → listR step2 f (0, at0) b = ((2, a), true)) ∧ (attrP b = none → (listR step2 f (0, at0) b).2 = false ∨ (listR step2 f (0, at0) b).1.1 ≠ 2) := by
  by_cases hb : b = []
  · subst hb
    refine mk_none rfl ?_
    rw [listR_nil]
    exact .inr (by show (0 : Nat) ≠ 2; decide)
  · cases h1 : takeV 1 b with
    | none => exact mk_none (attrP_n1 h1) (.inl (listR_no hb (.inr (by show (gotV 1 b false).2.2 = true; rw [gotV_no h1]))))
    | some v =>
      obtain ⟨t, r⟩ := v
      have l1 := takeV_len h1
      obtain ⟨f, rfl⟩ : ∃ k, f = k + 1 := ⟨f - 1, by omega⟩
      have e1 : step2 (0, at0) b = ((1, (⟨t, []⟩ : At)), r, false, true) := by
        show ((1, (⟨(gotV 1 b false).1, []⟩ : At)), (gotV 1 b false).2.1, (gotV 1 b false).2.2, true) = _
        rw [gotV_yes h1]
      rw [listR_go hb e1 (by omega)]
      by_cases hr : r = []
      · subst hr
        refine mk_none (attrP_n2 h1 rfl) ?_
        rw [listR_nil]
        exact .inr (by show (1 : Nat) ≠ 2; decide)
      · cases h2 : takeV 2 r with
        | none => exact mk_none (attrP_n2 h1 h2) (.inl (listR_no hr (.inr (by show (gotV 2 r false).2.2 = true; rw [gotV_no h2]))))
        | some v =>
          obtain ⟨v, r2⟩ := v
          have l2 := takeV_len h2
          obtain ⟨f, rfl⟩ : ∃ k, f = k + 1 := ⟨f - 1, by omega⟩
          have e2 : step2 (1, (⟨t, []⟩ : At)) r = ((2, (⟨t, v⟩ : At)), r2, false, true) := by
            show ((2, (⟨t, (gotV 2 r false).1⟩ : At)), (gotV 2 r false).2.1, (gotV 2 r false).2.2, true) = _
            rw [gotV_yes h2]
          rw [listR_go hr e2 (by omega)]
          cases r2 with
          | nil => exact mk_some (attrP_y h1 h2) (listR_nil _ _ _)
          | cons y z => exact mk_none (attrP_n3 h1 h2) (.inl (listR_no (by simp) (.inl rfl)))
theorem attrsP_nil (f : Nat) : attrsP f [] = some [] := by cases f <;> simp [attrsP]
theorem attrsP_n1 {f : Nat} {s : Bs} (hs : s ≠ []) (h : takeV 3 s = none) : attrsP (f + 1) s = none := by
  simp only [attrsP]
  rw [if_neg hs, h]
theorem attrsP_n2 {f : Nat} {s x r : Bs} (hs : s ≠ []) (h : takeV 3 s = some (x, r)) (h2 : attrP x = none) : attrsP (f + 1) s = none := by
  simp only [attrsP]
  rw [if_neg hs, h]
  simp only
  rw [h2]
theorem attrsP_y {f : Nat} {s x r : Bs} {a : At} (hs : s ≠ []) (h : takeV 3 s = some (x, r)) (h2 : attrP x = some a) : attrsP (f + 1) s = (attrsP f r).map (a :: ·) := by
  simp only [attrsP]
  rw [if_neg hs, h]
  simp only
  rw [h2]
theorem step1_of (l : List At) {s x r : Bs} (h3 : takeV 3 s = some (x, r)) {R : (Nat × At) × Bool} (hR : listR step2 x.length (0, at0) x = R) : step1 l s = (l ++ [R.1.2], r, !R.2, R.2 && decide (R.1.1 = 2)) := by
  subst hR
  have e : listG step2 3 (0, at0) s false = listM step2 (0, at0) s (takeV 3 s) := rfl
  unfold step1
  rw [e, h3]
  rfl
theorem step1_no (l : List At) {s : Bs} (h3 : takeV 3 s = none) : (step1 l s).2.2.1 = true := by
  have e : listG step2 3 (0, at0) s false = listM step2 (0, at0) s (takeV 3 s) := rfl
  unfold step1
  rw [e, h3]
  rfl
theorem outer_eq : ∀ (f : Nat) (l : List At) (s : Bs), s.length ≤ f → (∀ m, attrsP f s = some m → listR step1 f l s = (l ++ m, true)) ∧ (attrsP f s = none → (listR step1 f l s).2 = false)
  | 0, l, s, h => by
    have : s = [] := List.eq_nil_of_length_eq_zero (by omega)
    subst this
    exact mk_some (attrsP_nil 0) (by rw [listR_nil, List.append_nil])
  | f + 1, l, s, h => by
    by_cases hs : s = []
    · subst hs
      exact mk_some (attrsP_nil _) (by rw [listR_nil, List.append_nil])
    · cases h3 : takeV 3 s with
      | none => exact mk_none (attrsP_n1 hs h3) (listR_no hs (.inr (step1_no l h3)))
      | some v =>
        obtain ⟨x, r⟩ := v
        have hl := takeV_len h3
        obtain ⟨hi1, hi2⟩ := inner_eq x.length x (Nat.le_refl _)
        cases ha : attrP x with
        | none =>
          refine mk_none (attrsP_n2 hs h3 ha) (listR_no hs (.inl ?_))
          rw [step1_of l h3 rfl]
          show ((listR step2 x.length (0, at0) x).2 && decide ((listR step2 x.length (0, at0) x).1.1 = 2)) = false
          rcases hi2 ha with h | h
          · rw [h]; rfl
          · rw [decide_eq_false h, Bool.and_false]
        | some a =>
          rw [listR_go hs (a' := l ++ [a]) (s' := r) (step1_of l h3 (hi1 a ha)) (by omega)]
          obtain ⟨ih1, ih2⟩ := outer_eq f (l ++ [a]) r (by omega)
          cases hp : attrsP f r with
          | none => exact mk_none (by rw [attrsP_y hs h3 ha, hp]; rfl) (ih2 hp)
          | some m => exact mk_some (a := a :: m) (by rw [attrsP_y hs h3 ha, hp]; rfl) (by rw [ih1 m hp, List.append_assoc]; rfl)
theorem takeA_n1 {t : UInt8} {s : Bs} (h : takeV t s = none) : takeA t s = none := by unfold takeA; rw [h]
theorem takeA_n2 {t : UInt8} {s b r : Bs} (h : takeV t s = some (b, r)) (h2 : attrsP b.length b = none) : takeA t s = none := by
  unfold takeA
  rw [h]
  simp only
  rw [h2]
theorem takeA_y {t : UInt8} {s b r : Bs} {m : List At} (h : takeV t s = some (b, r)) (h2 : attrsP b.length b = some m) : takeA t s = if mayAs m then some (m, r) else none := by
  unfold takeA
  rw [h]
  simp only
  rw [h2]
/-- What Take's list comes to. -/
theorem take_no {t : UInt8} {s : Bs} {bad : Bool} (h : (listG step1 t [] s bad).2.2.2 = false) : (if bad = true then none else takeA t s) = none := by
  cases bad
  · have h : (listM step1 [] s (takeV t s)).2.2.2 = false := h
    rw [if_neg (by simp)]
    cases hv : takeV t s with
    | none => exact takeA_n1 hv
    | some v =>
      obtain ⟨b, r⟩ := v
      rw [hv] at h
      have h : (listR step1 b.length [] b).2 = false := h
      cases ha : attrsP b.length b with
      | none => exact takeA_n2 hv ha
      | some m =>
        rw [(outer_eq b.length [] b (Nat.le_refl _)).1 m ha] at h
        cases h
  · rfl
theorem take_yes {t : UInt8} {s : Bs} {bad : Bool} (h : (listG step1 t [] s bad).2.2.2 = true) : ∃ b r m, takeV t s = some (b, r) ∧ attrsP b.length b = some m ∧ listG step1 t [] s bad = (m, r, false, true) ∧ (if bad = true then none else takeA t s) = if mayAs m then some (m, r) else none := by
  cases bad
  · have e : listG step1 t [] s false = listM step1 [] s (takeV t s) := rfl
    rw [e] at h ⊢
    rw [if_neg (by simp)]
    cases hv : takeV t s with
    | none => rw [hv] at h; cases h
    | some v =>
      obtain ⟨b, r⟩ := v
      rw [hv] at h
      have h : (listR step1 b.length [] b).2 = true := h
      cases ha : attrsP b.length b with
      | none =>
        rw [(outer_eq b.length [] b (Nat.le_refl _)).2 ha] at h
        cases h
      | some m =>
        refine ⟨b, r, m, rfl, ha, ?_, takeA_y hv ha⟩
        simp only [listM]
        rw [(outer_eq b.length [] b (Nat.le_refl _)).1 m ha]
        rfl
  · cases h
theorem attrsV_mem : ∀ (l : List At) (a : At), a ∈ l → a.T.length + a.V.length ≤ (attrsV l).length
  | b :: l, a, h => by
    have e : attrsV (b :: l) = attrV b ++ attrsV l := rfl
    rw [e, List.length_append, attrV_len]
    rcases List.mem_cons.1 h with rfl | h
    · omega
    · have := attrsV_mem l a h
      omega
theorem attrsV_many : ∀ l : List At, l.length ≤ (attrsV l).length
  | [] => Nat.zero_le _
  | b :: l => by
    have e : attrsV (b :: l) = attrV b ++ attrsV l := rfl
    rw [e, List.length_append, attrV_len, List.length_cons]
    have := attrsV_many l
    omega
end Go.Proofs.YtmalclclopnlnaaGreat
/-
  The package entry: Take.
-/
namespace Go.Proofs.YtmalclclopnlnaaGreat
open Go.RowKit Go.Shelf
attribute [local go_sem] Oper.semAt_some

/-- What Take answers and leaves. -/
def TakeAEnds (D : Nat → Prop) (p T : Nat) (w : World) (o : Option (List At × Bs)) (e : Ending) (w' : World) : Prop :=
  (match o with
    | some (l, r) => ∃ A c, e = .returned (.slice A l.length c) ∧ OwnS w.heap.size 144 2 At.cs w' (.slice A l.length c) l ∧ RrAt D p T w' r false
    | none => e = .returned (.slice none 0 0) ∧ ∃ s', RrAt D p T w' s' true) ∧ Mod (fun b => b = p) w w'
theorem take_fin {C : Nat → Prop} {p bL : Nat} {w W1 w2 : World} (hbL : bL = w.heap.size) (hC : ∀ b, C b → b = bL) (hm1 : Mod (fun _ => False) w W1) (hm2 : Mod (fun b => b = p ∨ C b) W1 w2) : Mod (fun b => b = p) w w2 :=
  (hm1.mono fun _ _ h => h.elim).trans hm2 fun b hb => by
    rcases hb with h | h
    · exact .inl h
    · have := hC b h
      right; omega
set_option maxRecDepth 100000 in
set_option maxHeartbeats 2000000 in
theorem etake_any (D : Nat → Prop) (p T : Nat) (s : Bs) (bad : Bool) (t : UInt8) (w : World) (h : RrAt D p T w s bad) (hsz : s.length ≤ 1099511627776) :
    Calls Tryz.prog 79 #[.pointer (some ⟨p, 0, none⟩), .int .u8 (t.toNat : Int)] w (TakeAEnds D p T w (if bad = true then none else takeA t s)) := by
  have hplt := h.lt
  have hD : ∀ b, D b → b ≠ p ∧ b < w.heap.size := by
    obtain ⟨_, _, _, _, _, _, _, h5⟩ := h
    exact h5
  obtain ⟨bL, hbL⟩ : ∃ b, b = w.heap.size := ⟨_, rfl⟩
  obtain ⟨W1, hW1⟩ : ∃ W1, W1 = w.alloc (.cells #[.slice none 0 0] 66) := ⟨_, rfl⟩
  have hm1 : Mod (fun _ => False) w W1 := by rw [hW1]; (repeat' (first | exact Mod.refl _ _ | assumption | refine Mod.alloc ?_ _ | refine Mod.drew ?_ | refine Mod.drewN ?_ _ | refine Mod.setCell ?_ (by first | exact Or.inl rfl | (right; simp; done) | (right; simp; omega) | (left; simp; done)) _))
  have hsW : W1.heap.size = bL + 1 := by rw [hW1, hbL]; simp
  have hb1 : W1.heap[bL]? = some (.cells #[.slice none 0 0] 66 (0, 0)) := by rw [hW1, hbL]; exact hp_new _ _
  have hC : ∀ b, (b = bL ∨ (Value.slice none 0 0).ownBlock = some b) → b = bL := fun b hb => by
    rcases hb with h | h
    · exact h
    · cases h
  have hl := rlist_any D p T s bad t 98 #[.pointer (some ⟨bL, 0, none⟩)] step1 (J1 bL) (fun l s => l.length + s.length ≤ 1099511627776) [] (fun b => b = bL ∨ (Value.slice none 0 0).ownBlock = some b) W1
    (h.keep hm1 id fun _ _ => id) hsz enters_take1 (fun l s => listG_len step2 3 (0, at0) s false) (take1_takes bL)
    (fun l s hi _ _ hne => by
      have h1 := listG_len step2 3 (0, at0) s false
      have h2 : (step1 l s).2.1 = (listG step2 3 (0, at0) s false).2.1 := rfl
      have h3 : (step1 l s).1.length = l.length + 1 := by show (l ++ [_]).length = _; rw [List.length_append]; rfl
      rw [h2] at hne ⊢
      rw [h3]
      omega)
    (fun b s' hb => by have := takeV_len hb; simp; omega) (J1_stab bL) ⟨_, hb1, OwnS.nil _ _ _ _ _, rfl⟩
    (fun b hb => by
      have := hC b hb
      exact ⟨by omega, by omega, fun hd => by have := (hD b hd).2; omega⟩)
  obtain ⟨G, hG⟩ : ∃ G, G = listG step1 t [] s bad := ⟨_, rfl⟩
  rw [← hG] at hl
  obtain ⟨O, hO⟩ : ∃ O, O = if bad = true then none else takeA t s := ⟨_, rfl⟩
  rw [← hO]
  have hno := fun h => take_no (t := t) (s := s) (bad := bad) h
  have hyes := fun h => take_yes (t := t) (s := s) (bad := bad) h
  rw [← hG, ← hO] at hno hyes
  obtain ⟨l, s', bd, ok⟩ := G
  have hl : Calls Tryz.prog 51 _ W1 fun e w' => e = .returned (.bool ok) ∧ RrAt D p T w' s' bd ∧ Mod (fun b => b = p ∨ (b = bL ∨ (Value.slice none 0 0).ownBlock = some b)) W1 w' ∧ ∃ C' : Nat → Prop, J1 bL l C' w' ∧ ∀ b, C' b → b < w'.heap.size ∧ ((b = bL ∨ (Value.slice none 0 0).ownBlock = some b) ∨ W1.heap.size ≤ b) := hl
  have HL := Lib.hid hl
  have HM1 := Lib.hid hm1
  have HC := Lib.hid hC
  rw [hW1] at HL HM1
  subst hbL
  clear hl hm1 hW1 hG hO hC hb1 hsW h hD
  cases ok
  · have HO := Lib.hid (hno rfl)
    clear hno hyes
    go_enter Tryz.func79, Tryz.ntmps79
    go_wp2_with (first
      | (go_at_call 51
         (with_reducible refine HL.out.mono ?_)
         rintro e w2 ⟨rfl, hat2, hm2, -⟩
         have hrf := rfail_any D p T s' bd w2 hat2
         have HRf := Lib.hid hrf
         have HM2 := Lib.hid hm2
         clear hat2 hm2 hrf)
      | (go_at_call 76
         (with_reducible refine HRf.out.mono ?_)
         rintro e w3 ⟨rfl, hat3, hm3⟩
         have HAT3 := Lib.hid hat3
         have HM3 := Lib.hid hm3
         clear hat3 hm3)
      | fail)
    go_ret
    rw [HO.out]
    exact ⟨⟨rfl, s', HAT3.out⟩, (take_fin rfl HC.out HM1.out HM2.out).trans' HM3.out⟩
  · obtain ⟨b, r, m, hv, ha, hG', hO'⟩ := hyes rfl
    injection hG' with e1 e2
    injection e2 with e2 e3
    injection e3 with e3 _
    subst e1 e2 e3
    have hb := takeV_len hv
    have hms := attrsP_some _ _ _ ha
    have hml := attrsV_many l
    have HF := Lib.hid (show ∀ a ∈ l, FitA a from fun a hal => by
      have := attrsV_mem l a hal
      rw [← hms] at this
      unfold FitA
      omega)
    rw [← hms] at hml
    have HML := Lib.hid (show l.length ≤ 1099511627776 by omega)
    obtain ⟨z, hz⟩ : ∃ z, z = mayAs l := ⟨_, rfl⟩
    rw [← hz] at hO'
    have HO := Lib.hid hO'
    have HZ := Lib.hid hz
    clear hno hyes hv ha hO' hb hms hml hz hsz
    cases z
    · go_enter Tryz.func79, Tryz.ntmps79
      go_wp2_with (first
        | (go_at_call 51
           (with_reducible refine HL.out.mono ?_)
           rintro e w2 ⟨rfl, hat2, hm2, C2, ⟨v, hb2, hown, -⟩, -⟩
           obtain ⟨A, c, hv, hrd, hfr, -⟩ := hown.rd At.cs_len
           subst hv
           have hmy := emays_any A c l w2 (hrd.mono fun b hb => (hfr b hb).2) HML.out HF.out
           rw [← HZ.out] at hmy
           obtain ⟨n, hn⟩ : ∃ n, n = l.length := ⟨_, rfl⟩
           rw [← hn] at hmy hb2
           have x0 : w2.cell? ⟨w.heap.size, 0, none⟩ = some (.slice A n c) := by rw [hp_cell hb2]; rfl
           have HMy := Lib.hid hmy
           have HB2 := Lib.hid hb2
           have HN := Lib.hid hn
           have HO2 := Lib.hid hown
           have HAT2 := Lib.hid hat2
           have HM2 := Lib.hid hm2
           clear hat2 hm2 hb2 hown hrd hfr hmy hn)
        | (go_at_call 91
           (with_reducible refine HMy.out.mono ?_)
           rintro e w3 ⟨rfl, hm3⟩
           have x1 : w3.cell? ⟨w.heap.size, 0, none⟩ = some (.slice A n c) := by rw [hp_cell (hp_mod HB2.out hm3 id)]; rfl
           have HM3 := Lib.hid hm3
           have HAT3 := Lib.hid (HAT2.out.keep hm3 id fun _ _ => id)
           clear hm3)
        | (go_at_call 76
           (with_reducible refine (rfail_any D p T s' false w3 HAT3.out).mono ?_)
           rintro e w4 ⟨rfl, hat4, hm4⟩
           have HAT4 := Lib.hid hat4
           have HM4 := Lib.hid hm4
           clear hat4 hm4)
        | fail)
      go_ret
      rw [HO.out]
      exact ⟨⟨rfl, _, HAT4.out⟩, ((take_fin rfl HC.out HM1.out HM2.out).trans HM3.out fun _ h => h.elim).trans' HM4.out⟩
    · go_enter Tryz.func79, Tryz.ntmps79
      go_wp2_with (first
        | (go_at_call 51
           (with_reducible refine HL.out.mono ?_)
           rintro e w2 ⟨rfl, hat2, hm2, C2, ⟨v, hb2, hown, -⟩, -⟩
           obtain ⟨A, c, hv, hrd, hfr, -⟩ := hown.rd At.cs_len
           subst hv
           have hmy := emays_any A c l w2 (hrd.mono fun b hb => (hfr b hb).2) HML.out HF.out
           rw [← HZ.out] at hmy
           obtain ⟨n, hn⟩ : ∃ n, n = l.length := ⟨_, rfl⟩
           rw [← hn] at hmy hb2
           have x0 : w2.cell? ⟨w.heap.size, 0, none⟩ = some (.slice A n c) := by rw [hp_cell hb2]; rfl
           have HMy := Lib.hid hmy
           have HB2 := Lib.hid hb2
           have HN := Lib.hid hn
           have HO2 := Lib.hid hown
           have HAT2 := Lib.hid hat2
           have HM2 := Lib.hid hm2
           clear hat2 hm2 hb2 hown hrd hfr hmy hn)
        | (go_at_call 91
           (with_reducible refine HMy.out.mono ?_)
           rintro e w3 ⟨rfl, hm3⟩
           have x1 : w3.cell? ⟨w.heap.size, 0, none⟩ = some (.slice A n c) := by rw [hp_cell (hp_mod HB2.out hm3 id)]; rfl
           have HM3 := Lib.hid hm3
           have HAT3 := Lib.hid (HAT2.out.keep hm3 id fun _ _ => id)
           clear hm3)
        | fail)
      go_ret
      rw [HO.out]
      refine ⟨⟨A, c, by rw [← HN.out]; rfl, (HO2.out.mod HM3.out fun _ _ => id).less (Nat.le_succ _), HAT3.out⟩, (take_fin rfl HC.out HM1.out HM2.out).trans HM3.out fun _ h => h.elim⟩
end Go.Proofs.YtmalclclopnlnaaGreat
/-
  The package entry: an entry is read from its bytes.
-/
namespace Go.Proofs.YtmalclclopnlnaaGreat
open Go.RowKit Go.Shelf
attribute [local go_sem] Oper.semAt_some

/-- What Of answers. -/
def OfEnds (s : Bs) (w : World) (e : Ending) (w' : World) : Prop :=
  (match ofE s with
    | some (nm, l) => ∃ A c, e = .returned (.tuple #[.agg #[.string ⟨nm.toArray⟩, .slice A l.length c], .int .i64 0]) ∧ OwnS w.heap.size 144 2 At.cs w' (.slice A l.length c) l
    | none => e = .returned (.tuple #[.agg #[.string ⟨#[]⟩, .slice none 0 0], .int .i64 4])) ∧ Mod (fun _ => False) w w'
/-- What is taken behind the name. -/
def ofO (s : Bs) : Option (List At × Bs) := if (gotV 1 s false).2.2 = true then none else takeA 2 (gotV 1 s false).2.1
theorem ofE_n {s : Bs} (h : ofO s = none) : ofE s = none := by
  unfold ofO at h
  unfold ofE
  cases h1 : takeV 1 s with
  | none => rfl
  | some v =>
    obtain ⟨nm, r⟩ := v
    rw [gotV_yes h1] at h
    have h : takeA 2 r = none := h
    simp only
    rw [h]
theorem ofE_s {s r : Bs} {l : List At} (h : ofO s = some (l, r)) : ofE s = if r = [] then if mayE (gotV 1 s false).1 l = true then some ((gotV 1 s false).1, l) else none else none := by
  unfold ofO at h
  unfold ofE
  cases h1 : takeV 1 s with
  | none => rw [gotV_no h1] at h; cases h
  | some v =>
    obtain ⟨nm, r'⟩ := v
    rw [gotV_yes h1] at h ⊢
    have h : takeA 2 r' = some (l, r) := h
    simp only
    rw [h]
    cases r with
    | nil => rw [if_pos rfl]; rfl
    | cons y z => rw [if_neg (by simp)]
set_option maxRecDepth 100000 in
set_option maxHeartbeats 2000000 in
theorem eof_any (D0 : Nat → Prop) (A : Option Addr) (c : Nat) (s : Bs) (w : World) (hA : Rd D0 w 1 csU A s) (hl : s.length ≤ 1099511627776) :
    Calls Tryz.prog 53 #[.slice A s.length c] w (OfEnds s w) := by
  obtain ⟨n, hn⟩ : ∃ n, n = s.length := ⟨_, rfl⟩
  obtain ⟨W1, hW1⟩ : ∃ W1, W1 = w.alloc (.cells #[.string ⟨#[]⟩, .slice none 0 0] 68) := ⟨_, rfl⟩
  have hm1 : Mod (fun _ => False) w W1 := by rw [hW1]; (repeat' (first | exact Mod.refl _ _ | assumption | refine Mod.alloc ?_ _ | refine Mod.drew ?_ | refine Mod.drewN ?_ _ | refine Mod.setCell ?_ (by first | exact Or.inl rfl | (right; simp; done) | (right; simp; omega) | (left; simp; done)) _))
  have hb1 : W1.heap[w.heap.size]? = some (.cells #[.string ⟨#[]⟩, .slice none 0 0] 68 (0, 0)) := by rw [hW1]; exact hp_new _ _
  have hrd := tread_any _ A c s W1 ((hA.lt csU_len (by decide)).keep (hm1.agree fun b hb => ⟨hb.2, id⟩)) hl
  rw [← hn] at hrd ⊢
  have HRd := Lib.hid hrd
  have HM1 := Lib.hid hm1
  have HB1 := Lib.hid hb1
  have HN := Lib.hid hn
  have HL := Lib.hid hl
  have hs1 : W1.heap.size = w.heap.size + 1 := by rw [hW1]; simp
  rw [hW1] at HRd HM1 HB1
  obtain ⟨g, hg⟩ : ∃ g, g = gotV 1 s false := ⟨_, rfl⟩
  obtain ⟨O, hO⟩ : ∃ O, O = ofO s := ⟨_, rfl⟩
  have HG := Lib.hid hg
  have HO := Lib.hid hO
  clear hrd hm1 hb1 hn hl hW1 hs1 hA hg hO
  have HO2 := Lib.hid (show O = if g.2.2 = true then none else takeA 2 g.2.1 by rw [HO.out, HG.out]; rfl)
  cases O with
  | none =>
    have HE := Lib.hid (ofE_n HO.out.symm)
    go_enter Tryz.func53, Tryz.ntmps53
    go_wp2_with (first
      | (go_at_call 48
         (with_reducible refine HRd.out.mono ?_)
         rintro e w2 ⟨p, T, D, rfl, hp, hD, hat2, hm2⟩
         have hpw : w.heap.size < p := by simp at hp; omega
         have htx := rtext_any D p T s false 1 w2 hat2 HL.out
         rw [show (((1 : UInt8).toNat : Nat) : Int) = 1 from rfl, ← HG.out] at htx
         have HTx := Lib.hid htx
         have HM2 := Lib.hid hm2
         have HPl := Lib.hid hat2.lt
         have HB2 := Lib.hid (hp_mod HB1.out hm2 id)
         clear htx hat2 hm2 hp hD)
      | (go_at_call 78
         (with_reducible refine HTx.out.mono ?_)
         rintro e w3 ⟨rfl, hat3, hm3⟩
         have htk := etake_any D p T g.2.1 g.2.2 2 w3 hat3 (by rw [HG.out]; have := gotV_len 1 s false; have := HL.out; omega)
         rw [show (((2 : UInt8).toNat : Nat) : Int) = 2 from rfl, ← HO2.out] at htk
         have HTk := Lib.hid htk
         have HM3 := Lib.hid hm3
         have HB3 := Lib.hid (hp_mod HB2.out hm3 (by omega))
         clear htk hat3 hm3)
      | (go_at_call 79
         (with_reducible refine HTk.out.mono ?_)
         rintro e w4 ⟨⟨rfl, s4, hat4⟩, hm4⟩
         have hb4 := hp_mod HB3.out hm4 (by omega)
         have hlt4 := hp_lt hb4
         have hen := rend_any D p T s4 true (w4.alloc (.cells #[.string ⟨g.1.toArray⟩, .slice none 0 0] 68)) (hat4.keep (C := fun _ => False) ((Mod.refl _ w4).alloc _) id fun _ _ => id)
         rw [if_pos (.inl rfl)] at hen
         have HEn := Lib.hid hen
         have r0 : w4.cell? ⟨w.heap.size, 0, none⟩ = some (.string ⟨#[]⟩) := by rw [hp_cell hb4]; rfl
         have r1 : w4.cell? ⟨w.heap.size, 1, none⟩ = some (.slice none 0 0) := by rw [hp_cell hb4]; rfl
         have r1' : w4.cell? ⟨w.heap.size, 0 + 1, none⟩ = some (.slice none 0 0) := by rw [hp_cell hb4]; rfl
         have g0 : w4.frozen? ⟨w.heap.size, 0, none⟩ = false := hp_free hb4 _
         have g1 : w4.frozen? ⟨w.heap.size, 1, none⟩ = false := hp_free hb4 _
         have g1' : w4.frozen? ⟨w.heap.size, 0 + 1, none⟩ = false := hp_free hb4 _
         have HM4 := Lib.hid hm4
         have HB4 := Lib.hid hb4
         clear hat4 hm4 hen hb4)
      | (go_at_call 55
         (with_reducible refine HEn.out.mono ?_)
         rintro e w5 ⟨rfl, rfl⟩)
      | fail)
    obtain ⟨W5, hW5⟩ : ∃ W5, W5 = (((w4.setCell ⟨w.heap.size, 0, none⟩ (.string ⟨#[]⟩)).setCell ⟨w.heap.size, 1, none⟩ (.slice none 0 0)).alloc (.cells #[.string ⟨g.1.toArray⟩, .slice none 0 0] 68)) := ⟨_, rfl⟩
    have hb5 : W5.heap[w.heap.size]? = some (.cells #[.string ⟨#[]⟩, .slice none 0 0] 68 (0, 0)) := by rw [hW5]; exact hp_alloc (hp_eq (hp_set (hp_set HB4.out 0 (.string ⟨#[]⟩)) 1 (.slice none 0 0)) rfl) _
    have hm5 : Mod (fun b => b = w.heap.size) w4 W5 := by rw [hW5]; (repeat' (first | exact Mod.refl _ _ | assumption | refine Mod.alloc ?_ _ | refine Mod.drew ?_ | refine Mod.drewN ?_ _ | refine Mod.setCell ?_ (by first | exact Or.inl rfl | (right; simp; done) | (right; simp; omega) | (left; simp; done)) _))
    rw [← hW5]
    have k0 := hp_cell hb5 0
    have k1 := hp_cell hb5 1
    have HM5 := Lib.hid ((((HM1.out.trans' HM2.out).trans HM3.out fun b hb => by right; omega).trans HM4.out fun b hb => by right; omega).trans hm5 fun b hb => by right; omega)
    have HMr := Lib.hid hm5
    clear hW5 hb5 hm5
    refine bodyPost_ret (v := .tuple #[.agg #[.string ⟨#[]⟩, .slice none 0 0], .int .i64 4]) (by simp [results, Tryz.results53, go_sem] at k0 k1 ⊢; simp [k0, k1]) rfl ⟨?_, HM5.out⟩
    rw [HE.out]
  | some v =>
    obtain ⟨l, r⟩ := v
    have he := ofE_s HO.out.symm
    rw [← HG.out] at he
    by_cases hr : r = []
    · have hr0 : ¬ (false = true ∨ 0 < r.length) := by rw [hr]; simp
      have HR0 := Lib.hid hr0
      rw [if_pos hr] at he
      have HFi := Lib.hid (show l.length ≤ 1099511627776 ∧ ∀ a ∈ l, FitA a from by
        have h1 := HO2.out
        split at h1
        · cases h1
        · obtain ⟨h3, h4, _⟩ := (mayAs_iff l).1 (takeA_some h1.symm).2
          refine ⟨by omega, fun a ha => ?_⟩
          have := mayA_fits (h4 a ha)
          unfold FitA
          omega)
      have HGl := Lib.hid (show g.1.length ≤ 9223372036854775807 from by
        have h0 := HL.out
        rw [HG.out]
        cases h1 : takeV 1 s with
        | none => rw [gotV_no h1]; simp
        | some v =>
          obtain ⟨a, b⟩ := v
          rw [gotV_yes h1]
          have := takeV_len h1
          show a.length ≤ _
          omega)
      obtain ⟨z, hz⟩ : ∃ z, z = mayE g.1 l := ⟨_, rfl⟩
      rw [← hz] at he
      have HZ := Lib.hid hz
      clear hz hr hr0
      cases z
      · rw [if_neg (by simp)] at he
        have HE := Lib.hid he
        clear he
        go_enter Tryz.func53, Tryz.ntmps53
        go_wp2_with (first
          | (go_at_call 48
             (with_reducible refine HRd.out.mono ?_)
             rintro e w2 ⟨p, T, D, rfl, hp, hD, hat2, hm2⟩
             have hpw : w.heap.size < p := by simp at hp; omega
             have htx := rtext_any D p T s false 1 w2 hat2 HL.out
             rw [show (((1 : UInt8).toNat : Nat) : Int) = 1 from rfl, ← HG.out] at htx
             have HTx := Lib.hid htx
             have HM2 := Lib.hid hm2
             have HPl := Lib.hid hat2.lt
             have HB2 := Lib.hid (hp_mod HB1.out hm2 id)
             clear htx hat2 hm2 hp hD)
          | (go_at_call 78
             (with_reducible refine HTx.out.mono ?_)
             rintro e w3 ⟨rfl, hat3, hm3⟩
             have htk := etake_any D p T g.2.1 g.2.2 2 w3 hat3 (by rw [HG.out]; have := gotV_len 1 s false; have := HL.out; omega)
             rw [show (((2 : UInt8).toNat : Nat) : Int) = 2 from rfl, ← HO2.out] at htk
             have HTk := Lib.hid htk
             have HM3 := Lib.hid hm3
             have HB3 := Lib.hid (hp_mod HB2.out hm3 (by omega))
             clear htk hat3 hm3)
          | (go_at_call 79
             (with_reducible refine HTk.out.mono ?_)
             rintro e w4 ⟨⟨A4, c4, he4, hown, hat4⟩, hm4⟩
             obtain ⟨n4, hn4⟩ : ∃ k, k = l.length := ⟨_, rfl⟩
             rw [← hn4] at he4
             subst he4
             have hb4 := hp_mod HB3.out hm4 (by omega)
             have hlt4 := hp_lt hb4
             have hen := rend_any D p T r false (w4.alloc (.cells #[.string ⟨g.1.toArray⟩, .slice A4 n4 c4] 68)) (hat4.keep (C := fun _ => False) ((Mod.refl _ w4).alloc _) id fun _ _ => id)
             rw [if_neg HR0.out] at hen
             have HEn := Lib.hid hen
             have HOw := Lib.hid hown
             have HN4 := Lib.hid hn4
             have r0 : w4.cell? ⟨w.heap.size, 0, none⟩ = some (.string ⟨#[]⟩) := by rw [hp_cell hb4]; rfl
             have r1 : w4.cell? ⟨w.heap.size, 1, none⟩ = some (.slice none 0 0) := by rw [hp_cell hb4]; rfl
             have r1' : w4.cell? ⟨w.heap.size, 0 + 1, none⟩ = some (.slice none 0 0) := by rw [hp_cell hb4]; rfl
             have g0 : w4.frozen? ⟨w.heap.size, 0, none⟩ = false := hp_free hb4 _
             have g1 : w4.frozen? ⟨w.heap.size, 1, none⟩ = false := hp_free hb4 _
             have g1' : w4.frozen? ⟨w.heap.size, 0 + 1, none⟩ = false := hp_free hb4 _
             have HM4 := Lib.hid hm4
             have HB4 := Lib.hid hb4
             clear hat4 hm4 hen hb4 hown hn4)
          | (go_at_call 55
             (with_reducible refine HEn.out.mono ?_)
             rintro e w5 ⟨rfl, rfl⟩
             have hmy := eentry_any g.1 A4 c4 l (w4.alloc (.cells #[.string ⟨g.1.toArray⟩, .slice A4 n4 c4] 68)) HGl.out ((rd_of5 (HOw.out.mod (C := fun _ => False) ((Mod.refl _ w4).alloc _) fun _ _ => id) At.cs_len).mono fun b hb => by have := (HOw.out.fresh b hb).2; simp; omega) HFi.out.1 HFi.out.2
             rw [← HN4.out, ← HZ.out] at hmy
             have HMy := Lib.hid hmy
             clear hmy)
          | (go_at_call 66
             (with_reducible refine HMy.out.mono ?_)
             rintro e w6 ⟨rfl, hm6⟩
             have he6 := hp_mod (hp_new w4 (.cells #[.string ⟨g.1.toArray⟩, .slice A4 n4 c4] 68 (0, 0))) hm6 id
             have hb6 := hp_mod (hp_alloc HB4.out _) hm6 id
             have y0 : w6.cell? ⟨w4.heap.size, 0, none⟩ = some (.string ⟨g.1.toArray⟩) := by rw [hp_cell he6]; rfl
             have y1 : w6.cell? ⟨w4.heap.size, 1, none⟩ = some (.slice A4 n4 c4) := by rw [hp_cell he6]; rfl
             have y1' : w6.cell? ⟨w4.heap.size, 0 + 1, none⟩ = some (.slice A4 n4 c4) := by rw [hp_cell he6]; rfl
             have r0 : w6.cell? ⟨w.heap.size, 0, none⟩ = some (.string ⟨#[]⟩) := by rw [hp_cell hb6]; rfl
             have r1 : w6.cell? ⟨w.heap.size, 1, none⟩ = some (.slice none 0 0) := by rw [hp_cell hb6]; rfl
             have r1' : w6.cell? ⟨w.heap.size, 0 + 1, none⟩ = some (.slice none 0 0) := by rw [hp_cell hb6]; rfl
             have g0 : w6.frozen? ⟨w.heap.size, 0, none⟩ = false := hp_free hb6 _
             have g1 : w6.frozen? ⟨w.heap.size, 1, none⟩ = false := hp_free hb6 _
             have g1' : w6.frozen? ⟨w.heap.size, 0 + 1, none⟩ = false := hp_free hb6 _
             have HM6 := Lib.hid hm6
             have HB6 := Lib.hid hb6
             have HE6 := Lib.hid he6
             clear hm6 hb6 he6)
          | fail)
        obtain ⟨W5, hW5⟩ : ∃ W5, W5 = ((w6.setCell ⟨w.heap.size, 0, none⟩ (.string ⟨#[]⟩)).setCell ⟨w.heap.size, 1, none⟩ (.slice none 0 0)) := ⟨_, rfl⟩
        have hb5 : W5.heap[w.heap.size]? = some (.cells #[.string ⟨#[]⟩, .slice none 0 0] 68 (0, 0)) := by rw [hW5]; exact hp_eq (hp_set (hp_set HB6.out 0 (.string ⟨#[]⟩)) 1 (.slice none 0 0)) rfl
        have hm5 : Mod (fun b => b = w.heap.size) w6 W5 := by rw [hW5]; (repeat' (first | exact Mod.refl _ _ | assumption | refine Mod.alloc ?_ _ | refine Mod.drew ?_ | refine Mod.drewN ?_ _ | refine Mod.setCell ?_ (by first | exact Or.inl rfl | (right; simp; done) | (right; simp; omega) | (left; simp; done)) _))
        rw [← hW5]
        have k0 := hp_cell hb5 0
        have k1 := hp_cell hb5 1
        have HM5 := Lib.hid (((((((HM1.out.trans' HM2.out).trans HM3.out fun b hb => by right; omega).trans HM4.out fun b hb => by right; omega).alloc (.cells #[.string ⟨g.1.toArray⟩, .slice A4 n4 c4] 68)).trans HM6.out fun _ h => h.elim)).trans hm5 fun b hb => by right; omega)
        have HMr := Lib.hid hm5
        clear hW5 hb5 hm5
        refine bodyPost_ret (v := .tuple #[.agg #[.string ⟨#[]⟩, .slice none 0 0], .int .i64 4]) (by simp [results, Tryz.results53, go_sem] at k0 k1 ⊢; simp [k0, k1]) rfl ⟨?_, HM5.out⟩
        rw [HE.out]
      · rw [if_pos rfl] at he
        have HE := Lib.hid he
        clear he
        go_enter Tryz.func53, Tryz.ntmps53
        go_wp2_with (first
          | (go_at_call 48
             (with_reducible refine HRd.out.mono ?_)
             rintro e w2 ⟨p, T, D, rfl, hp, hD, hat2, hm2⟩
             have hpw : w.heap.size < p := by simp at hp; omega
             have htx := rtext_any D p T s false 1 w2 hat2 HL.out
             rw [show (((1 : UInt8).toNat : Nat) : Int) = 1 from rfl, ← HG.out] at htx
             have HTx := Lib.hid htx
             have HM2 := Lib.hid hm2
             have HPl := Lib.hid hat2.lt
             have HB2 := Lib.hid (hp_mod HB1.out hm2 id)
             clear htx hat2 hm2 hp hD)
          | (go_at_call 78
             (with_reducible refine HTx.out.mono ?_)
             rintro e w3 ⟨rfl, hat3, hm3⟩
             have htk := etake_any D p T g.2.1 g.2.2 2 w3 hat3 (by rw [HG.out]; have := gotV_len 1 s false; have := HL.out; omega)
             rw [show (((2 : UInt8).toNat : Nat) : Int) = 2 from rfl, ← HO2.out] at htk
             have HTk := Lib.hid htk
             have HM3 := Lib.hid hm3
             have HB3 := Lib.hid (hp_mod HB2.out hm3 (by omega))
             clear htk hat3 hm3)
          | (go_at_call 79
             (with_reducible refine HTk.out.mono ?_)
             rintro e w4 ⟨⟨A4, c4, he4, hown, hat4⟩, hm4⟩
             obtain ⟨n4, hn4⟩ : ∃ k, k = l.length := ⟨_, rfl⟩
             rw [← hn4] at he4
             subst he4
             have hb4 := hp_mod HB3.out hm4 (by omega)
             have hlt4 := hp_lt hb4
             have hen := rend_any D p T r false (w4.alloc (.cells #[.string ⟨g.1.toArray⟩, .slice A4 n4 c4] 68)) (hat4.keep (C := fun _ => False) ((Mod.refl _ w4).alloc _) id fun _ _ => id)
             rw [if_neg HR0.out] at hen
             have HEn := Lib.hid hen
             have HOw := Lib.hid hown
             have HN4 := Lib.hid hn4
             have r0 : w4.cell? ⟨w.heap.size, 0, none⟩ = some (.string ⟨#[]⟩) := by rw [hp_cell hb4]; rfl
             have r1 : w4.cell? ⟨w.heap.size, 1, none⟩ = some (.slice none 0 0) := by rw [hp_cell hb4]; rfl
             have r1' : w4.cell? ⟨w.heap.size, 0 + 1, none⟩ = some (.slice none 0 0) := by rw [hp_cell hb4]; rfl
             have g0 : w4.frozen? ⟨w.heap.size, 0, none⟩ = false := hp_free hb4 _
             have g1 : w4.frozen? ⟨w.heap.size, 1, none⟩ = false := hp_free hb4 _
             have g1' : w4.frozen? ⟨w.heap.size, 0 + 1, none⟩ = false := hp_free hb4 _
             have HM4 := Lib.hid hm4
             have HB4 := Lib.hid hb4
             clear hat4 hm4 hen hb4 hown hn4)
          | (go_at_call 55
             (with_reducible refine HEn.out.mono ?_)
             rintro e w5 ⟨rfl, rfl⟩
             have hmy := eentry_any g.1 A4 c4 l (w4.alloc (.cells #[.string ⟨g.1.toArray⟩, .slice A4 n4 c4] 68)) HGl.out ((rd_of5 (HOw.out.mod (C := fun _ => False) ((Mod.refl _ w4).alloc _) fun _ _ => id) At.cs_len).mono fun b hb => by have := (HOw.out.fresh b hb).2; simp; omega) HFi.out.1 HFi.out.2
             rw [← HN4.out, ← HZ.out] at hmy
             have HMy := Lib.hid hmy
             clear hmy)
          | (go_at_call 66
             (with_reducible refine HMy.out.mono ?_)
             rintro e w6 ⟨rfl, hm6⟩
             have he6 := hp_mod (hp_new w4 (.cells #[.string ⟨g.1.toArray⟩, .slice A4 n4 c4] 68 (0, 0))) hm6 id
             have hb6 := hp_mod (hp_alloc HB4.out _) hm6 id
             have y0 : w6.cell? ⟨w4.heap.size, 0, none⟩ = some (.string ⟨g.1.toArray⟩) := by rw [hp_cell he6]; rfl
             have y1 : w6.cell? ⟨w4.heap.size, 1, none⟩ = some (.slice A4 n4 c4) := by rw [hp_cell he6]; rfl
             have y1' : w6.cell? ⟨w4.heap.size, 0 + 1, none⟩ = some (.slice A4 n4 c4) := by rw [hp_cell he6]; rfl
             have r0 : w6.cell? ⟨w.heap.size, 0, none⟩ = some (.string ⟨#[]⟩) := by rw [hp_cell hb6]; rfl
             have r1 : w6.cell? ⟨w.heap.size, 1, none⟩ = some (.slice none 0 0) := by rw [hp_cell hb6]; rfl
             have r1' : w6.cell? ⟨w.heap.size, 0 + 1, none⟩ = some (.slice none 0 0) := by rw [hp_cell hb6]; rfl
             have g0 : w6.frozen? ⟨w.heap.size, 0, none⟩ = false := hp_free hb6 _
             have g1 : w6.frozen? ⟨w.heap.size, 1, none⟩ = false := hp_free hb6 _
             have g1' : w6.frozen? ⟨w.heap.size, 0 + 1, none⟩ = false := hp_free hb6 _
             have HM6 := Lib.hid hm6
             have HB6 := Lib.hid hb6
             have HE6 := Lib.hid he6
             clear hm6 hb6 he6)
          | fail)
        obtain ⟨W5, hW5⟩ : ∃ W5, W5 = ((w6.setCell ⟨w.heap.size, 0, none⟩ (.string ⟨g.1.toArray⟩)).setCell ⟨w.heap.size, 1, none⟩ (.slice A4 n4 c4)) := ⟨_, rfl⟩
        have hb5 : W5.heap[w.heap.size]? = some (.cells #[.string ⟨g.1.toArray⟩, .slice A4 n4 c4] 68 (0, 0)) := by rw [hW5]; exact hp_eq (hp_set (hp_set HB6.out 0 (.string ⟨g.1.toArray⟩)) 1 (.slice A4 n4 c4)) rfl
        have hm5 : Mod (fun b => b = w.heap.size) w6 W5 := by rw [hW5]; (repeat' (first | exact Mod.refl _ _ | assumption | refine Mod.alloc ?_ _ | refine Mod.drew ?_ | refine Mod.drewN ?_ _ | refine Mod.setCell ?_ (by first | exact Or.inl rfl | (right; simp; done) | (right; simp; omega) | (left; simp; done)) _))
        rw [← hW5]
        have k0 := hp_cell hb5 0
        have k1 := hp_cell hb5 1
        have HM5 := Lib.hid (((((((HM1.out.trans' HM2.out).trans HM3.out fun b hb => by right; omega).trans HM4.out fun b hb => by right; omega).alloc (.cells #[.string ⟨g.1.toArray⟩, .slice A4 n4 c4] 68)).trans HM6.out fun _ h => h.elim)).trans hm5 fun b hb => by right; omega)
        have HMr := Lib.hid hm5
        clear hW5 hb5 hm5
        refine bodyPost_ret (v := .tuple #[.agg #[.string ⟨g.1.toArray⟩, .slice A4 n4 c4], .int .i64 0]) (by simp [results, Tryz.results53, go_sem] at k0 k1 ⊢; simp [k0, k1]) rfl ⟨?_, HM5.out⟩
        rw [HE.out]
        refine ⟨A4, c4, by rw [HN4.out], ?_⟩
        have hs1 := HM1.out.size
        have hs2 := HM2.out.size
        have hs3 := HM3.out.size
        have hsa : (w.alloc (.cells #[.string ⟨#[]⟩, .slice none 0 0] 68)).heap.size = w.heap.size + 1 := by simp
        have h := ((HOw.out.mod (C := fun _ => False) ((Mod.refl _ w4).alloc (.cells #[.string ⟨g.1.toArray⟩, .slice A4 n4 c4] 68)) fun _ _ => id).mod HM6.out fun _ _ => id).mod HMr.out fun b hb e => by have := (HOw.out.fresh b hb).1; omega
        exact h.less (by omega)
    · have hr1 : false = true ∨ 0 < r.length := .inr (List.length_pos_iff.2 hr)
      have HR0 := Lib.hid hr1
      rw [if_neg hr] at he
      have HE := Lib.hid he
      clear he hr hr1
      go_enter Tryz.func53, Tryz.ntmps53
      go_wp2_with (first
        | (go_at_call 48
           (with_reducible refine HRd.out.mono ?_)
           rintro e w2 ⟨p, T, D, rfl, hp, hD, hat2, hm2⟩
           have hpw : w.heap.size < p := by simp at hp; omega
           have htx := rtext_any D p T s false 1 w2 hat2 HL.out
           rw [show (((1 : UInt8).toNat : Nat) : Int) = 1 from rfl, ← HG.out] at htx
           have HTx := Lib.hid htx
           have HM2 := Lib.hid hm2
           have HPl := Lib.hid hat2.lt
           have HB2 := Lib.hid (hp_mod HB1.out hm2 id)
           clear htx hat2 hm2 hp hD)
        | (go_at_call 78
           (with_reducible refine HTx.out.mono ?_)
           rintro e w3 ⟨rfl, hat3, hm3⟩
           have htk := etake_any D p T g.2.1 g.2.2 2 w3 hat3 (by rw [HG.out]; have := gotV_len 1 s false; have := HL.out; omega)
           rw [show (((2 : UInt8).toNat : Nat) : Int) = 2 from rfl, ← HO2.out] at htk
           have HTk := Lib.hid htk
           have HM3 := Lib.hid hm3
           have HB3 := Lib.hid (hp_mod HB2.out hm3 (by omega))
           clear htk hat3 hm3)
        | (go_at_call 79
           (with_reducible refine HTk.out.mono ?_)
           rintro e w4 ⟨⟨A4, c4, he4, hown, hat4⟩, hm4⟩
           obtain ⟨n4, hn4⟩ : ∃ k, k = l.length := ⟨_, rfl⟩
           rw [← hn4] at he4
           subst he4
           have hb4 := hp_mod HB3.out hm4 (by omega)
           have hlt4 := hp_lt hb4
           have hen := rend_any D p T r false (w4.alloc (.cells #[.string ⟨g.1.toArray⟩, .slice A4 n4 c4] 68)) (hat4.keep (C := fun _ => False) ((Mod.refl _ w4).alloc _) id fun _ _ => id)
           rw [if_pos HR0.out] at hen
           have HEn := Lib.hid hen
           have HOw := Lib.hid hown
           have HN4 := Lib.hid hn4
           have r0 : w4.cell? ⟨w.heap.size, 0, none⟩ = some (.string ⟨#[]⟩) := by rw [hp_cell hb4]; rfl
           have r1 : w4.cell? ⟨w.heap.size, 1, none⟩ = some (.slice none 0 0) := by rw [hp_cell hb4]; rfl
           have r1' : w4.cell? ⟨w.heap.size, 0 + 1, none⟩ = some (.slice none 0 0) := by rw [hp_cell hb4]; rfl
           have g0 : w4.frozen? ⟨w.heap.size, 0, none⟩ = false := hp_free hb4 _
           have g1 : w4.frozen? ⟨w.heap.size, 1, none⟩ = false := hp_free hb4 _
           have g1' : w4.frozen? ⟨w.heap.size, 0 + 1, none⟩ = false := hp_free hb4 _
           have HM4 := Lib.hid hm4
           have HB4 := Lib.hid hb4
           clear hat4 hm4 hen hb4 hown hn4)
        | (go_at_call 55
           (with_reducible refine HEn.out.mono ?_)
           rintro e w5 ⟨rfl, rfl⟩)
        | fail)
      obtain ⟨W5, hW5⟩ : ∃ W5, W5 = (((w4.setCell ⟨w.heap.size, 0, none⟩ (.string ⟨#[]⟩)).setCell ⟨w.heap.size, 1, none⟩ (.slice none 0 0)).alloc (.cells #[.string ⟨g.1.toArray⟩, .slice A4 n4 c4] 68)) := ⟨_, rfl⟩
      have hb5 : W5.heap[w.heap.size]? = some (.cells #[.string ⟨#[]⟩, .slice none 0 0] 68 (0, 0)) := by rw [hW5]; exact hp_alloc (hp_eq (hp_set (hp_set HB4.out 0 (.string ⟨#[]⟩)) 1 (.slice none 0 0)) rfl) _
      have hm5 : Mod (fun b => b = w.heap.size) w4 W5 := by rw [hW5]; (repeat' (first | exact Mod.refl _ _ | assumption | refine Mod.alloc ?_ _ | refine Mod.drew ?_ | refine Mod.drewN ?_ _ | refine Mod.setCell ?_ (by first | exact Or.inl rfl | (right; simp; done) | (right; simp; omega) | (left; simp; done)) _))
      rw [← hW5]
      have k0 := hp_cell hb5 0
      have k1 := hp_cell hb5 1
      have HM5 := Lib.hid ((((HM1.out.trans' HM2.out).trans HM3.out fun b hb => by right; omega).trans HM4.out fun b hb => by right; omega).trans hm5 fun b hb => by right; omega)
      have HMr := Lib.hid hm5
      clear hW5 hb5 hm5
      refine bodyPost_ret (v := .tuple #[.agg #[.string ⟨#[]⟩, .slice none 0 0], .int .i64 4]) (by simp [results, Tryz.results53, go_sem] at k0 k1 ⊢; simp [k0, k1]) rfl ⟨?_, HM5.out⟩
      rw [HE.out]
end Go.Proofs.YtmalclclopnlnaaGreat
