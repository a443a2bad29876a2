/-
  The document's Put, Sorted.
-/
import Derived.Test.YtccnkcaagigceaaEntryJ
namespace Go.Proofs.Ytccnkcaagigceaa
open Go.RowKit Go.Shelf
attribute [local go_sem] Oper.semAt_some

theorem putA_at (a : At) : ∀ (xs : List At) (k : Nat) (_ : k ≤ xs.length) (_ : ∀ i (h : i < xs.length), i < k → ltA xs[i] a = true) (_ : ∀ h : k < xs.length, ltA xs[k] a = false),
    putA a xs = if xs[k]? = some a then xs else xs.take k ++ a :: xs.drop k
  | [], k, hk, _, _ => by simp [putA]
  | b :: l, 0, hk, h1, h2 => by
    have h := h2 (by simp)
    simp only [List.getElem_cons_zero] at h
    simp only [putA, h]
    simp
  | b :: l, k + 1, hk, h1, h2 => by
    have h := h1 0 (by simp) (by omega)
    simp only [List.getElem_cons_zero] at h
    simp only [putA, h, if_true]
    rw [putA_at a l k (by simpa using hk) (fun i hi hik => by have := h1 (i + 1) (by simpa using hi) (by omega); simpa using this) (fun hh => by have := h2 (by simpa using hh); simpa using this)]
    simp only [List.getElem?_cons_succ]
    split <;> simp
def PutEnds (w : World) (a : At) (xs : List At) (e : Ending) (w' : World) : Prop :=
  ∃ A' c', e = .returned (.slice A' (putA a xs).length c') ∧ Rd (fun b => b < w'.heap.size) w' 2 At.cs A' (putA a xs) ∧ (putA a xs).length ≤ c' ∧ Mod (fun _ => False) w w'
set_option maxRecDepth 100000 in
set_option maxHeartbeats 4000000 in
theorem rput1_any (A : Option Addr) (c : Nat) (xs : List At) (a : At) (w : World) (hA : Rd (fun b => b < w.heap.size) w 2 At.cs A xs) (hl : xs.length ≤ 1099511627776) (hc : xs.length ≤ c) :
    Calls Try.prog 43 #[.slice A xs.length c, a.val] w (PutEnds w a xs) := by
  obtain ⟨n, hn⟩ : ∃ n, n = xs.length := ⟨_, rfl⟩
  rw [← hn] at hl hc ⊢
  have HN := Lib.hid hn
  have HA := Lib.hid (fun X (hX : Mod (fun _ => False) w X) => (hA.mod hX (fun b hb => ⟨hb, id⟩)).mono (D' := fun b => b < X.heap.size) fun b hb => Nat.lt_of_lt_of_le hb hX.size)
  have HLess := Lib.hid (fun x X => rless_any x a X)
  have HEq := Lib.hid (fun x X => eql_at x a X)
  have heq := (show Try.prog.eqGuardType Try.prog.depth 25 = false by kernel_rfl)
  clear hn hA
  obtain ⟨W0, hW0⟩ : ∃ W0, W0 = w.alloc a.box := ⟨_, rfl⟩
  have hM0 : Mod (fun _ => False) w W0 := by subst hW0; exact (Mod.refl _ w).alloc _
  have hb0 : W0.heap[w.heap.size]? = some a.box := by subst hW0; exact hp_new w _
  have HM0 := Lib.hid hM0
  have HB0 := Lib.hid hb0
  have HW0 := Lib.hid hW0
  clear hM0 hb0 hW0
  obtain ⟨aT, aV⟩ := a
  unfold At.box at HB0 HW0
  unfold At.val at HLess HEq ⊢
  simp only at HB0 HW0 HLess HEq ⊢
  go_enter Try.func43, Try.ntmps43
  go_wp2
  rw [← HW0.out]
  go_loopw [5] (fun i wr => ∃ k : Nat, k ≤ n ∧ i = .int .i64 k ∧ (∀ i (h : i < xs.length), i < k → ltA xs[i] ⟨aT, aV⟩ = true) ∧ Mod (fun _ => False) W0 wr) (fun i _ => n - (intOf i).toNat)
  case atStart => exact ⟨0, by omega, rfl, fun i h h0 => by omega, Mod.refl _ _⟩
  case round =>
    obtain ⟨k, hk, rfl, h1, hm⟩ := hrel
    have H1 := Lib.hid h1
    have HM := Lib.hid hm
    have HMw := Lib.hid (HM0.out.trans' hm)
    have HMr := Lib.hid hm
    have hbx := hp_mod HB0.out hm id
    have a0 := cell_regrown (hp_cell hbx 0)
    have a1 := cell_regrown (hp_cell hbx 1)
    clear h1 hm hbx
    by_cases hlt : k < n
    · have hkx : k < xs.length := by rw [← HN.out]; exact hlt
      obtain ⟨b1, o1, rfl, -, p0', p1'⟩ := rd2 (HA.out _ HMw.out) hkx
      obtain ⟨x, hx⟩ : ∃ x, x = xs[k] := ⟨_, rfl⟩
      rw [← hx] at p0' p1'
      have p0 := cell_regrown p0'
      have p1 := cell_regrown p1'
      have HC := Lib.hid (HLess.out x)
      have heql := HEq.out x
      have hkn : decide ((k : Int) < (n : Int)) = true := by rw [decide_eq_true_eq]; omega
      obtain ⟨xT, xV⟩ := x
      simp only at HC heql p0 p1
      have HX := Lib.hid hx
      clear hx
      cases hlx : ltA ⟨xT, xV⟩ ⟨aT, aV⟩
      · rw [hlx] at HC
        have HNl := Lib.hid (show ∀ h : k < xs.length, ltA xs[k] ⟨aT, aV⟩ = false from fun h => by rw [← HX.out]; exact hlx)
        clear hlx
        go_wp2
        refine wp_region_quiet_below (by kernel_rfl) (by kernel_rfl) ?_
        repeat (go_big_quiet_step ((first | (go_at_call 26; exact regM fun X _ => (HC.out X).mono fun _ _ ⟨he, hm⟩ => ⟨he, by rw [← hm]; (repeat' (first | exact Mod.refl _ _ | assumption | refine Mod.alloc ?_ _ | refine Mod.drew ?_ | refine Mod.drewN ?_ _ | refine Mod.setCell ?_ (by first | exact Or.inl rfl | (right; simp; done) | (right; simp; omega) | (left; simp; done)) _))⟩) | fail)))
        refine wpQuiet_nil ?_
        intro W1 hW1
        have HM1 := Lib.hid (mod_of_regrown hW1)
        have p0 := cell_regrown ((HM1.out.cell (p := ⟨b1, o1 + k * 2, none⟩) (World.block_lt_of_cell? wr _ p0') id).trans p0')
        have p1 := cell_regrown ((HM1.out.cell (p := ⟨b1, o1 + k * 2 + 1, none⟩) (World.block_lt_of_cell? wr _ p1') id).trans p1')
        have HB1 := Lib.hid (hp_mod HB0.out (HMr.out.trans' HM1.out) id)
        have a0 := cell_regrown (hp_cell HB1.out 0)
        have a1 := cell_regrown (hp_cell HB1.out 1)
        clear hW1 p0' p1'
        go_wp2
        by_cases hxa : (⟨xT, xV⟩ : At) = ⟨aT, aV⟩
        · rw [decide_eq_true hxa] at heql
          have hput := Lib.hid (show putA ⟨aT, aV⟩ xs = xs by
            rw [putA_at _ xs k (by omega) H1.out HNl.out, if_pos (by rw [List.getElem?_eq_getElem hkx, ← HX.out, hxa])])
          clear hxa
          refine wp_region_quiet_below (by kernel_rfl) (by kernel_rfl) ?_
          repeat (go_big_quiet_step (fail))
          refine wpQuiet_nil ?_
          intro W2 hW2
          have HM2 := Lib.hid (HMw.out.trans' (HM1.out.trans' (mod_of_regrown hW2)))
          clear hW2 a0 a1 p0 p1
          go_wp2
          go_ret
          exact ⟨_, c, by rw [hput.out, ← HN.out]; rfl, by rw [hput.out]; exact HA.out _ HM2.out, by rw [hput.out, ← HN.out]; exact hc, HM2.out⟩
        · rw [decide_eq_false hxa] at heql
          have hput := Lib.hid (show putA ⟨aT, aV⟩ xs = (xs.take k ++ [⟨aT, aV⟩]) ++ xs.drop k by
            rw [putA_at _ xs k (by omega) H1.out HNl.out, if_neg (by rw [List.getElem?_eq_getElem hkx, ← HX.out]; intro e; exact hxa (Option.some.inj e))]; simp)
          clear hxa
          refine wp_region_quiet_below (by kernel_rfl) (by kernel_rfl) ?_
          repeat (go_big_quiet_step (fail))
          refine wpQuiet_nil ?_
          intro W2 hW2
          have HMw2 := Lib.hid (HMw.out.trans' (HM1.out.trans' (mod_of_regrown hW2)))
          have HB2 := Lib.hid (hp_mod HB1.out (mod_of_regrown hW2) id)
          clear hW2 a0 a1 p0 p1 heql
          have hkc : k < c := by omega
          have hck : ¬ c = k := by omega
          have HRd := Lib.hid (show Rd (fun b => b < W2.heap.size) W2 2 At.cs (some ⟨b1, o1 + k * 2, none⟩) (xs.drop k) from rd_drop (HA.out _ HMw2.out) (by omega))
          have HRk := Lib.hid (show Rd (fun b => b < W2.heap.size) W2 2 At.cs _ (xs.take k) from rd_take (HA.out _ HMw2.out) k)
          have HLk := Lib.hid (show k = (xs.take k).length by rw [List.length_take, ← HN.out]; omega)
          have HLd := Lib.hid (show n - k = (xs.drop k).length by rw [List.length_drop, ← HN.out])
          have hsz2 : w.heap.size + 1 ≤ W2.heap.size := hp_lt HB2.out
          go_wp2_with (first
            | (at_builtin
               refine wpList_app (base := W2.heap.size) (xs := []) (ys := xs.take k) (D := fun b => b < W2.heap.size) (v := .slice none 0 0) rfl (.const (.slice none 0 0)) (.tmp 36) rfl ats_t At.cs_len At.cs_one rfl (OwnS.nil _ _ _ _ _) _ rfl HLk.out HRk.out ?_ ?_ (Nat.le_refl _) ?_
               · rw [List.length_nil, Nat.zero_add, ← HLk.out]; unfold maxLen; omega
               · rw [List.length_nil, Nat.zero_add, ← HLk.out]; omega
               intro v' w3 hown hm3 hat
               have HO3 := Lib.hid (show OwnS W2.heap.size 25 2 At.cs w3 v' (xs.take k) from by rwa [List.nil_append] at hown)
               have HM3 := Lib.hid (show Mod (fun _ => False) W2 w3 from hm3.mono fun b _ h => by cases h)
               clear hown hm3 hat)
            | fail)
          have HB3 := Lib.hid (hp_mod HB2.out HM3.out id)
          have HMw3 := Lib.hid (HMw2.out.trans' HM3.out)
          have HF3 := Lib.hid HO3.out.fresh
          have HRd3 := Lib.hid (HRd.out.mod HM3.out (fun b hb => ⟨hb, id⟩))
          have hsz3 : w.heap.size + 1 ≤ w3.heap.size := hp_lt HB3.out
          have t0 := hp_cell HB3.out 0
          have t1 := hp_cell HB3.out 1
          have hbl := hp_lt HB3.out
          go_region_held3 (fun X => X.cell? ⟨w.heap.size, 0, none⟩ = some (.string ⟨aT.toArray⟩) ∧ X.cell? ⟨w.heap.size, 1, none⟩ = some (.string ⟨aV.toArray⟩)) (first | exact ⟨t0, t1⟩ | exact ⟨(World.cell?_alloc_lt _ _ _ hbl).trans t0, (World.cell?_alloc_lt _ _ _ hbl).trans t1⟩ | exact ⟨s0, s1⟩ | exact ⟨u0, u1⟩ | fail) (first
            | (refine step_app (base := W2.heap.size) (xs := xs.take k) (ys := [⟨aT, aV⟩]) (D := fun _ => True) (v := v') rfl (.tmp 38) (.tmp 40) rfl ats_t At.cs_len At.cs_one rfl (HO3.out.mod (C := fun _ => False) ((Mod.refl _ w3).drew.alloc _) (fun b _ => id)) 1 rfl rfl (rd_oneT (c := #[.string ⟨aT.toArray⟩, .string ⟨aV.toArray⟩]) (t := 25) (fr := (0, 0)) (hp_new _ _) rfl) ?_ ?_ ?_ ?_
               · rw [← HLk.out]; unfold maxLen; simp; omega
               · rw [← HLk.out]; simp; omega
               · have := HM3.out.size; simp; omega
               intro v4 w4 hown4 hm4 hat4
               have M4 := (((Mod.refl (fun b => v'.ownBlock = some b) w3).drew.alloc _)).trans hm4 (fun b h => .inl h)
               have s0 := (M4.cell (p := ⟨w.heap.size, 0, none⟩) hbl (fun h => by have h5 := (HF3.out _ h).1; simp only at h5; omega)).trans t0
               have s1 := (M4.cell (p := ⟨w.heap.size, 1, none⟩) hbl (fun h => by have h5 := (HF3.out _ h).1; simp only at h5; omega)).trans t1
               have hbl4 : w.heap.size < w4.heap.size := Nat.lt_of_lt_of_le hbl M4.size
               have hs4 : W2.heap.size ≤ w4.heap.size := Nat.le_trans HM3.out.size M4.size
               have HO4 := Lib.hid hown4
               have HF4 := Lib.hid hown4.fresh
               have HRd4 := Lib.hid (HRd3.out.mod M4 (fun b hb => ⟨Nat.lt_of_lt_of_le hb HM3.out.size, fun h => by have h5 := (HF3.out _ h).1; omega⟩))
               have HMw4 := Lib.hid (HMw3.out.trans M4 (fun b h => .inr (by have h5 := (HF3.out _ h).1; omega)))
               clear hown4 hm4 hat4 M4)
            | (refine step_app (base := W2.heap.size) (xs := xs.take k ++ [⟨aT, aV⟩]) (ys := xs.drop k) (D := fun b => b < W2.heap.size) (v := v4) rfl (.tmp 41) (.tmp 44) rfl ats_t At.cs_len At.cs_one rfl HO4.out _ rfl HLd.out HRd4.out ?_ ?_ ?_ ?_
               · rw [List.length_append, ← HLd.out, ← HLk.out]; unfold maxLen; simp; omega
               · rw [List.length_append, ← HLd.out, ← HLk.out]; simp; omega
               · exact hs4
               intro v5 w5 hown5 hm5 hat5
               have u0 := (hm5.cell (p := ⟨w.heap.size, 0, none⟩) hbl4 (fun h => by have h5 := (HF4.out _ h).1; simp only at h5; omega)).trans s0
               have u1 := (hm5.cell (p := ⟨w.heap.size, 1, none⟩) hbl4 (fun h => by have h5 := (HF4.out _ h).1; simp only at h5; omega)).trans s1
               have HO5 := Lib.hid hown5
               have HMw5 := Lib.hid (HMw4.out.trans hm5 (fun b h => .inr (by have h5 := (HF4.out _ h).1; omega)))
               clear hown5 hm5 hat5)
            | fail)
          go_wp2
          obtain ⟨A5, c5, hv5, hrd5, hfr5, -⟩ := OwnS.rd HO5.out At.cs_len
          subst hv5
          have hcp := Lib.hid (HO5.out.cap rfl).1
          go_ret
          exact ⟨A5, c5, by rw [hput.out]; rfl, by rw [hput.out]; exact hrd5.mono fun b hb => (hfr5 b hb).2, by rw [hput.out]; exact hcp.out, HMw5.out⟩
      · rw [hlx] at HC
        have hall := Lib.hid (show ∀ i (h : i < xs.length), i < k + 1 → ltA xs[i] ⟨aT, aV⟩ = true from fun i h hi => by
          rcases Nat.lt_or_ge i k with hik | hik
          · exact H1.out i h hik
          · obtain rfl : i = k := by omega
            rw [← HX.out]; exact hlx)
        clear hlx
        go_wp2
        refine wp_region_quiet_below (by kernel_rfl) (by kernel_rfl) ?_
        repeat (go_big_quiet_step ((first | (go_at_call 26; exact regM fun X _ => (HC.out X).mono fun _ _ ⟨he, hm⟩ => ⟨he, by rw [← hm]; (repeat' (first | exact Mod.refl _ _ | assumption | refine Mod.alloc ?_ _ | refine Mod.drew ?_ | refine Mod.drewN ?_ _ | refine Mod.setCell ?_ (by first | exact Or.inl rfl | (right; simp; done) | (right; simp; omega) | (left; simp; done)) _))⟩) | fail)))
        refine wpQuiet_nil ?_
        intro W1 hW1
        have HM1 := Lib.hid (HM.out.trans' (mod_of_regrown hW1))
        clear hW1 a0 a1 p0 p1 p0' p1'
        go_wp2
        exact ⟨⟨k + 1, by omega, by go_num, hall.out, HM1.out⟩, by simp only [intOf]; omega⟩
    · obtain rfl : k = n := by omega
      have hkn : decide ((k : Int) < (k : Int)) = false := by simp
      have hdn : xs.drop k = [] := by rw [HN.out, List.drop_length]
      have hput := Lib.hid (show putA ⟨aT, aV⟩ xs = (xs.take k ++ [⟨aT, aV⟩]) ++ xs.drop k by
        rw [putA_at _ xs k (by rw [HN.out]; exact Nat.le_refl _) H1.out (fun h => by have := HN.out; omega), if_neg (by rw [List.getElem?_eq_none (by rw [HN.out]; exact Nat.le_refl _)]; simp)]; simp)
      go_wp2
      refine wp_region_quiet_below (by kernel_rfl) (by kernel_rfl) ?_
      repeat (go_big_quiet_step (fail))
      refine wpQuiet_nil ?_
      intro W1 hW1
      have HM1 := Lib.hid (mod_of_regrown hW1)
      clear hW1
      go_wp2
      refine wp_region_quiet_below (by kernel_rfl) (by kernel_rfl) ?_
      repeat (go_big_quiet_step (fail))
      refine wpQuiet_nil ?_
      intro W2 hW2
      have HMw2 := Lib.hid (HMw.out.trans' (HM1.out.trans' (mod_of_regrown hW2)))
      have HB2 := Lib.hid (hp_mod HB0.out (HMr.out.trans' (HM1.out.trans' (mod_of_regrown hW2))) id)
      clear hW2 a0 a1
      have HDn := Lib.hid hdn
      clear hdn
      by_cases hck : c = k
      case' pos => obtain rfl : k = c := hck.symm
      all_goals
        rcases A with _ | ⟨b1, o1, sp⟩
        all_goals
          have HRk := Lib.hid (show Rd (fun b => b < W2.heap.size) W2 2 At.cs _ (xs.take k) from rd_take (HA.out _ HMw2.out) k)
          have HLk := Lib.hid (show k = (xs.take k).length by rw [List.length_take, ← HN.out]; omega)
          have HLd := Lib.hid (show (xs.drop k).length = 0 by rw [HDn.out]; rfl)
          have hsz2 : w.heap.size + 1 ≤ W2.heap.size := hp_lt HB2.out
          go_wp2_with (first
            | (at_builtin
               refine wpList_app (base := W2.heap.size) (xs := []) (ys := xs.take k) (D := fun b => b < W2.heap.size) (v := .slice none 0 0) rfl (.const (.slice none 0 0)) (.tmp 36) rfl ats_t At.cs_len At.cs_one rfl (OwnS.nil _ _ _ _ _) _ rfl HLk.out HRk.out ?_ ?_ (Nat.le_refl _) ?_
               · rw [List.length_nil, Nat.zero_add, ← HLk.out]; unfold maxLen; omega
               · rw [List.length_nil, Nat.zero_add, ← HLk.out]; omega
               intro v' w3 hown hm3 hat
               have HO3 := Lib.hid (show OwnS W2.heap.size 25 2 At.cs w3 v' (xs.take k) from by rwa [List.nil_append] at hown)
               have HM3 := Lib.hid (show Mod (fun _ => False) W2 w3 from hm3.mono fun b _ h => by cases h)
               clear hown hm3 hat)
            | fail)
          have HB3 := Lib.hid (hp_mod HB2.out HM3.out id)
          have HMw3 := Lib.hid (HMw2.out.trans' HM3.out)
          have HF3 := Lib.hid HO3.out.fresh
          have hsz3 : w.heap.size + 1 ≤ w3.heap.size := hp_lt HB3.out
          have t0 := hp_cell HB3.out 0
          have t1 := hp_cell HB3.out 1
          have hbl := hp_lt HB3.out
          go_region_held3 (fun X => X.cell? ⟨w.heap.size, 0, none⟩ = some (.string ⟨aT.toArray⟩) ∧ X.cell? ⟨w.heap.size, 1, none⟩ = some (.string ⟨aV.toArray⟩)) (first | exact ⟨t0, t1⟩ | exact ⟨(World.cell?_alloc_lt _ _ _ hbl).trans t0, (World.cell?_alloc_lt _ _ _ hbl).trans t1⟩ | exact ⟨s0, s1⟩ | exact ⟨u0, u1⟩ | fail) (first
            | (refine step_app (base := W2.heap.size) (xs := xs.take k) (ys := [⟨aT, aV⟩]) (D := fun _ => True) (v := v') rfl (.tmp 38) (.tmp 40) rfl ats_t At.cs_len At.cs_one rfl (HO3.out.mod (C := fun _ => False) ((Mod.refl _ w3).drew.alloc _) (fun b _ => id)) 1 rfl rfl (rd_oneT (c := #[.string ⟨aT.toArray⟩, .string ⟨aV.toArray⟩]) (t := 25) (fr := (0, 0)) (hp_new _ _) rfl) ?_ ?_ ?_ ?_
               · rw [← HLk.out]; unfold maxLen; simp; omega
               · rw [← HLk.out]; simp; omega
               · have := HM3.out.size; simp; omega
               intro v4 w4 hown4 hm4 hat4
               have M4 := (((Mod.refl (fun b => v'.ownBlock = some b) w3).drew.alloc _)).trans hm4 (fun b h => .inl h)
               have s0 := (M4.cell (p := ⟨w.heap.size, 0, none⟩) hbl (fun h => by have h5 := (HF3.out _ h).1; simp only at h5; omega)).trans t0
               have s1 := (M4.cell (p := ⟨w.heap.size, 1, none⟩) hbl (fun h => by have h5 := (HF3.out _ h).1; simp only at h5; omega)).trans t1
               have hbl4 : w.heap.size < w4.heap.size := Nat.lt_of_lt_of_le hbl M4.size
               have hs4 : W2.heap.size ≤ w4.heap.size := Nat.le_trans HM3.out.size M4.size
               have HO4 := Lib.hid hown4
               have HF4 := Lib.hid hown4.fresh
               have HRd4 := Lib.hid (fun A' : Option Addr => show Rd (fun b => b < W2.heap.size) w4 2 At.cs A' (xs.drop k) from by rw [HDn.out]; exact Rd.nil _ _ _ _ _)
               have HMw4 := Lib.hid (HMw3.out.trans M4 (fun b h => .inr (by have h5 := (HF3.out _ h).1; omega)))
               clear hown4 hm4 hat4 M4)
            | (refine step_app (base := W2.heap.size) (xs := xs.take k ++ [⟨aT, aV⟩]) (ys := xs.drop k) (D := fun b => b < W2.heap.size) (v := v4) rfl (.tmp 41) (.tmp 44) rfl ats_t At.cs_len At.cs_one rfl HO4.out _ rfl (by first | exact HLd.out.symm | (rw [HLd.out]; omega)) (HRd4.out _) ?_ ?_ ?_ ?_
               · rw [List.length_append, HLd.out, ← HLk.out]; unfold maxLen; simp; omega
               · rw [List.length_append, HLd.out, ← HLk.out]; simp; omega
               · exact hs4
               intro v5 w5 hown5 hm5 hat5
               have u0 := (hm5.cell (p := ⟨w.heap.size, 0, none⟩) hbl4 (fun h => by have h5 := (HF4.out _ h).1; simp only at h5; omega)).trans s0
               have u1 := (hm5.cell (p := ⟨w.heap.size, 1, none⟩) hbl4 (fun h => by have h5 := (HF4.out _ h).1; simp only at h5; omega)).trans s1
               have HO5 := Lib.hid hown5
               have HMw5 := Lib.hid (HMw4.out.trans hm5 (fun b h => .inr (by have h5 := (HF4.out _ h).1; omega)))
               clear hown5 hm5 hat5)
            | fail)
          go_wp2
          obtain ⟨A5, c5, hv5, hrd5, hfr5, -⟩ := OwnS.rd HO5.out At.cs_len
          subst hv5
          have hcp := Lib.hid (HO5.out.cap rfl).1
          go_ret
          exact ⟨A5, c5, by rw [hput.out]; rfl, by rw [hput.out]; exact hrd5.mono fun b hb => (hfr5 b hb).2, by rw [hput.out]; exact hcp.out, HMw5.out⟩
end Go.Proofs.Ytccnkcaagigceaa
