/-
  Foldings gone over: lists compared by the library, what changes, the iterator.
-/
import Derived.Test.YtidbgfmknhlmnaaGreatDoorFoldD
namespace Go.Proofs.YtidbgfmknhlmnaaGreatDoor
open Go.RowKit Go.Shelf Go.Sort
attribute [local go_sem] Oper.semAt_some

set_option maxRecDepth 100000 in
set_option maxHeartbeats 1000000 in
theorem iequal_any (D1 D2 : Nat → Prop) (A B : Option Addr) (c d : Nat) (xs ys : List Int) (w : World) (hA : Rd D1 w 1 csI A xs) (hB : Rd D2 w 1 csI B ys) (hx : xs.length ≤ maxLen) (hy : ys.length ≤ maxLen) (h1 : ∀ b, D1 b → b < w.heap.size) (h2 : ∀ b, D2 b → b < w.heap.size) :
    Calls Tryz.prog 41 #[.slice A xs.length c, .slice B ys.length d] w fun e w' => e = .returned (.bool (decide (xs = ys))) ∧ Mod (fun _ => False) w w' := by
  unfold maxLen at hx hy
  obtain ⟨n, hn⟩ : ∃ n, n = xs.length := ⟨_, rfl⟩
  obtain ⟨m, hm⟩ : ∃ m, m = ys.length := ⟨_, rfl⟩
  rw [← hn] at hx ⊢
  rw [← hm] at hy ⊢
  have HN := Lib.hid hn
  have HM := Lib.hid hm
  have HA := Lib.hid hA
  have HB := Lib.hid hB
  have H1 := Lib.hid h1
  have H2 := Lib.hid h2
  obtain ⟨r, hr⟩ : ∃ r, r = decide (xs = ys) := ⟨_, rfl⟩
  rw [← hr]
  have HR := Lib.hid hr
  clear hn hm hA hB h1 h2 hr
  by_cases hnm : n = m
  · subst hnm
    have hne : ((n : Int) != (n : Int)) = false := by simp
    go_enter Tryz.func41, Tryz.ntmps41
    go_wp2
    go_loopw [13] (fun i wr => ∃ k : Nat, k ≤ n ∧ i = .int .i64 k ∧ xs.take k = ys.take k ∧ Mod (fun _ => False) w wr) (fun i _ => n - (intOf i).toNat)
    case atStart => exact ⟨0, Nat.zero_le _, rfl, by simp, Mod.refl _ _⟩
    case round =>
      obtain ⟨k, hk, rfl, he, hmw⟩ := hrel
      have HE := Lib.hid he
      have HMw := Lib.hid hmw
      clear he hmw
      by_cases hlt : k < n
      · have hkx : k < xs.length := by rw [← HN.out]; exact hlt
        have hky : k < ys.length := by rw [← HM.out]; exact hlt
        obtain ⟨b1, o1, rfl, -, q1⟩ := rdI (HA.out.mod HMw.out (fun b hb => ⟨H1.out b hb, id⟩)) hkx
        obtain ⟨b2, o2, rfl, -, q2⟩ := rdI (HB.out.mod HMw.out (fun b hb => ⟨H2.out b hb, id⟩)) hky
        obtain ⟨x, hx'⟩ : ∃ x, x = xs[k] := ⟨_, rfl⟩
        obtain ⟨y, hy'⟩ : ∃ y, y = ys[k] := ⟨_, rfl⟩
        rw [← hx'] at q1
        rw [← hy'] at q2
        have HTx := Lib.hid (show xs.take (k + 1) = xs.take k ++ [x] by rw [hx']; exact List.take_succ_eq_append_getElem hkx)
        have HTy := Lib.hid (show ys.take (k + 1) = ys.take k ++ [y] by rw [hy']; exact List.take_succ_eq_append_getElem hky)
        clear hx' hy'
        by_cases hxy : x = y
        · subst hxy
          have hne2 : (x != x) = false := by simp
          go_wp2
          go_quiet (fail)
          go_wp2
          exact ⟨⟨k + 1, by omega, by go_num, by rw [HTx.out, HTy.out, HE.out], HMw.out.drewN _⟩, by simp only [intOf]; omega⟩
        · have hne2 : (x != y) = true := by simp [hxy]
          have HF := Lib.hid (show r = false by
            rw [HR.out]
            simp only [decide_eq_false_iff_not]
            intro e
            subst e
            have := HTx.out.symm.trans HTy.out
            rw [List.append_cancel_left_eq] at this
            simp at this
            exact hxy this)
          clear hxy
          go_wp2
          go_quiet (fail)
          go_wp2
          go_ret
          exact ⟨by rw [HF.out]; rfl, HMw.out.drewN _⟩
      · obtain rfl : k = n := by omega
        have HT := Lib.hid (show r = true by
          rw [HR.out]
          have h := HE.out
          rw [HN.out, List.take_length] at h
          rw [← HN.out, HM.out, List.take_length] at h
          simpa using h)
        go_wp2
        go_ret
        exact ⟨by rw [HT.out]; rfl, HMw.out⟩
  · have hne : ((n : Int) != (m : Int)) = true := by simp; omega
    have HF := Lib.hid (show r = false by
      rw [HR.out]
      simp only [decide_eq_false_iff_not]
      intro e
      subst e
      exact hnm (HN.out.trans HM.out.symm))
    clear hnm
    go_enter Tryz.func41, Tryz.ntmps41
    go_wp2
    go_ret
    exact ⟨by rw [HF.out]; rfl, Mod.refl _ _⟩
theorem fullM_keys (hs : List FH) : (fullM hs).map Prod.fst = ((hs.map FH.x).filter isCF).map fun x => (x.R : Int) := by
  induction hs with
  | nil => rfl
  | cons h t ih =>
    rw [List.map_cons, List.filter_cons]
    by_cases hc : isCF h.x = true
    · have e : fullM (h :: t) = ((h.x.R : Int), h.sl) :: fullM t := by simp [fullM, hc]
      rw [e, if_pos hc, List.map_cons, List.map_cons, ih]
    · have e : fullM (h :: t) = fullM t := by simp [fullM, hc]
      rw [e, if_neg hc, ih]
theorem full_key {hs : List FH} {r : Int} (h : r ∈ (fullM hs).map Prod.fst) : ∃ y ∈ hs, mGet r (fullM hs) = some y.sl ∧ fullL (hs.map FH.x) r = natI y.x.row := by
  rcases full_find hs r with ⟨hg, -⟩ | hg
  · obtain ⟨p, hp, rfl⟩ := List.mem_map.1 h
    exact absurd rfl (mGet_none.1 hg p hp)
  · exact hg
def chgP (ls : List FL) (r : Int) : Bool := !(decide (fullL ls r = [r]))
theorem chgP_eq (ls : List FL) (ks : List Int) : ks.filter (chgP ls) = ks.filter (fun r => !(fullL ls r == [r])) := by
  congr 1
  funext r
  unfold chgP
  cases h : (fullL ls r == [r])
  · have : ¬ fullL ls r = [r] := by simpa using h
    simp [this]
  · have : fullL ls r = [r] := by simpa using h
    simp [this]
theorem filter_take (p : Int → Bool) {xs : List Int} {k : Nat} (h : k < xs.length) : (xs.take (k + 1)).filter p = (xs.take k).filter p ++ if p xs[k] then [xs[k]] else [] := by
  rw [List.take_succ_eq_append_getElem h, List.filter_append, List.filter_cons]
  split <;> simp
/-- What All hands back. -/
def AllV (v : Value) (ls : List FL) (w : World) (e : Ending) (w' : World) : Prop :=
  ∃ bl bf ul, e = .returned (.func (.func 44) #[] #[ptrV bl, ptrV bf]) ∧ w.heap.size ≤ bf ∧ bf < bl ∧ bl < w'.heap.size ∧ w'.heap[bl]? = some (.cells #[ul] 22 (0, 0)) ∧ w'.heap[bf]? = some (.cells #[v] 24 (0, 0)) ∧ OwnS (bl + 1) 21 1 csI w' ul (chgL ls) ∧ Mod (fun _ => False) w w'
set_option maxRecDepth 100000 in
set_option maxHeartbeats 4000000 in
theorem dall_any (D : Nat → Prop) (v : Value) (hs : List FH) (w : World) (hF : FoldIn D w v hs) (hD : ∀ b, D b → b < w.heap.size) (hlen : hs.length ≤ 1000000) :
    Calls Tryz.prog 27 #[v] w (AllV v (hs.map FH.x) w) := by
  have hno : (v = .pointer none ∨ ∃ fb, v = ptrV fb ∧ w.cell? ⟨fb, 0, none⟩ = some (.map none)) → hs = [] → Calls Tryz.prog 27 #[v] w (AllV v (hs.map FH.x) w) := by
    rintro h rfl
    have HT := Lib.hid (fun X (hX : Mod (fun _ => False) w X) => dthere_no v X (by
      rcases h with h | ⟨fb, h1, h2⟩
      · exact .inl h
      · exact .inr ⟨fb, h1, cell_mod h2 hX id⟩))
    have hp : v = .pointer none ∨ ∃ fb, v = ptrV fb := h.imp id fun ⟨fb, h, _⟩ => ⟨fb, h⟩
    clear h hF hD hlen
    rcases hp with rfl | ⟨fb, rfl⟩
    · have H0 := Lib.hid (OwnS.nil (w.heap.size + 1 + 1) 21 1 csI ((w.alloc (.cells #[.pointer none] 24)).alloc (.cells #[.slice none 0 0] 22)))
      go_enter Tryz.func27, Tryz.ntmps27
      go_wp2_with (first | (go_at_call 29; (with_reducible refine (HT.out _ (by (repeat' (with_reducible (first | exact Mod.refl _ _ | assumption | refine Mod.alloc ?_ _ | refine Mod.drew ?_ | refine Mod.drewN ?_ _ | refine Mod.setCell ?_ (by first | exact Or.inl rfl | (right; simp; done) | (right; simp; omega) | (left; simp; done)) _))))).mono ?_); rintro e w2 ⟨rfl, rfl⟩) | fail)
      go_ret
      exact ⟨w.heap.size + 1, w.heap.size, _, rfl, Nat.le_refl _, by omega, by simp, hp_at _ _ (by simp), by (repeat' (first | exact hp_new _ _ | exact hp_at _ _ (by simp; done) | refine hp_alloc ?_ _ | refine hp_drew ?_ | refine hp_drewN ?_ _ | apply hp_set | refine hp_far ?_ (by first | (simp; omega) | (simp; done)) _)), H0.out, by (repeat' (first | exact Mod.refl _ _ | assumption | refine Mod.alloc ?_ _ | refine Mod.drew ?_ | refine Mod.drewN ?_ _ | refine Mod.setCell ?_ (by first | exact Or.inl rfl | (right; simp; done) | (right; simp; omega) | (left; simp; done)) _))⟩
    · have H0 := Lib.hid (OwnS.nil (w.heap.size + 1 + 1) 21 1 csI ((w.alloc (.cells #[ptrV fb] 24)).alloc (.cells #[.slice none 0 0] 22)))
      go_enter Tryz.func27, Tryz.ntmps27
      go_wp2_with (first | (go_at_call 29; (with_reducible refine (HT.out _ (by (repeat' (with_reducible (first | exact Mod.refl _ _ | assumption | refine Mod.alloc ?_ _ | refine Mod.drew ?_ | refine Mod.drewN ?_ _ | refine Mod.setCell ?_ (by first | exact Or.inl rfl | (right; simp; done) | (right; simp; omega) | (left; simp; done)) _))))).mono ?_); rintro e w2 ⟨rfl, rfl⟩) | fail)
      go_ret
      exact ⟨w.heap.size + 1, w.heap.size, _, rfl, Nat.le_refl _, by omega, by simp, hp_at _ _ (by simp), by (repeat' (first | exact hp_new _ _ | exact hp_at _ _ (by simp; done) | refine hp_alloc ?_ _ | refine hp_drew ?_ | refine hp_drewN ?_ _ | apply hp_set | refine hp_far ?_ (by first | (simp; omega) | (simp; done)) _)), H0.out, by (repeat' (first | exact Mod.refl _ _ | assumption | refine Mod.alloc ?_ _ | refine Mod.drew ?_ | refine Mod.drewN ?_ _ | refine Mod.setCell ?_ (by first | exact Or.inl rfl | (right; simp; done) | (right; simp; omega) | (left; simp; done)) _))⟩
  rcases hF with ⟨rfl, h0⟩ | ⟨fb, rfl, d0, h1, h2⟩ | ⟨fb, m1, m2, rfl, d0, d1, d2, hM, hR, hG⟩
  · exact hno (.inl rfl) h0
  · exact hno (.inr ⟨fb, rfl, h1⟩) h2
  clear hno
  obtain ⟨B, hB⟩ : ∃ B, B = w.heap.size := ⟨_, rfl⟩
  obtain ⟨ls, hls⟩ : ∃ ls, ls = hs.map FH.x := ⟨_, rfl⟩
  rw [← hls] at hG ⊢
  have HLS := Lib.hid hls
  have HM0 := Lib.hid hM
  have HR := Lib.hid hR
  have HG := Lib.hid hG
  have HD := Lib.hid hD
  have HB := Lib.hid hB
  have hfb := cell_lt hM.c1
  have hm1 := hp_lt hM.h1
  simp only at hfb
  rw [← hB] at hfb hm1
  have HT := Lib.hid (fun X (hX : Mod (fun _ => False) w X) => dthere_yes fb m1 X (cell_mod hM.c1 hX id))
  have HC1 := Lib.hid (fun X (hX : Mod (fun _ => False) w X) => (cell_mod hM.c1 hX id : X.cell? ⟨fb, 0, none⟩ = some (.map (some m1))))
  have HK := Lib.hid (fun Bt X (hX : Mod (fun _ => False) w X) hBt => sortedKeys_any Bt m1 (fullM hs) X hBt (hp_mod hM.h1 hX id) (by
    unfold fullM
    have := List.length_filter_le (fun h : FH => isCF h.x) hs
    rw [List.length_map]; omega))
  have HHL := Lib.hid hlen
  clear hM hR hG hD hls hlen hB
  go_enter Tryz.func27, Tryz.ntmps27
  go_wp2_with (first
    | (go_at_call 29; (with_reducible refine (HT.out _ (by (repeat' (with_reducible (first | exact Mod.refl _ _ | assumption | refine Mod.alloc ?_ _ | refine Mod.drew ?_ | refine Mod.drewN ?_ _ | refine Mod.setCell ?_ (by first | exact Or.inl rfl | (right; simp; done) | (right; simp; omega) | (left; simp; done)) _))))).mono ?_); rintro e w2 ⟨rfl, rfl⟩; have c1 := HC1.out ((w.alloc (.cells #[ptrV fb] 24)).alloc (.cells #[.slice none 0 0] 22)) (by (repeat' (with_reducible (first | exact Mod.refl _ _ | assumption | refine Mod.alloc ?_ _ | refine Mod.drew ?_ | refine Mod.drewN ?_ _ | refine Mod.setCell ?_ (by first | exact Or.inl rfl | (right; simp; done) | (right; simp; omega) | (left; simp; done)) _)))))
    | (go_at_call 43; refine (mkeys_any _ _).mono ?_; rintro e w2 ⟨rfl, rfl⟩)
    | (go_at_call 42; (with_reducible refine (HK.out _ _ (by (repeat' (with_reducible (first | exact Mod.refl _ _ | assumption | refine Mod.alloc ?_ _ | refine Mod.drew ?_ | refine Mod.drewN ?_ _ | refine Mod.setCell ?_ (by first | exact Or.inl rfl | (right; simp; done) | (right; simp; omega) | (left; simp; done)) _)))) (hp_at _ _ (by simp))).mono ?_); rintro e w3 ⟨vk, ks, rfl, hok, hperm, hsort, hm3⟩
       obtain ⟨Ak, ck, hvk, hrk, hfk, hlk⟩ := hok.rd csI_len
       subst hvk)
    | fail)
  have hk0 := hok.fresh
  have M3 : Mod (fun _ => False) w w3 := Mod.trans' (by (repeat' (first | exact Mod.refl _ _ | assumption | refine Mod.alloc ?_ _ | refine Mod.drew ?_ | refine Mod.drewN ?_ _ | refine Mod.setCell ?_ (by first | exact Or.inl rfl | (right; simp; done) | (right; simp; omega) | (left; simp; done)) _))) hm3
  have q0 : w3.heap[w.heap.size]? = some (.cells #[ptrV fb] 24 (0, 0)) := hp_mod (by (repeat' (first | exact hp_new _ _ | exact hp_at _ _ (by simp; done) | refine hp_alloc ?_ _ | refine hp_drew ?_ | refine hp_drewN ?_ _ | apply hp_set | refine hp_far ?_ (by first | (simp; omega) | (simp; done)) _))) hm3 id
  have q1 : w3.heap[w.heap.size + 1]? = some (.cells #[.slice none 0 0] 22 (0, 0)) := hp_mod (hp_alloc (hp_at _ _ (by simp)) _) hm3 id
  have hs3 := hm3.size
  simp only [World.size_alloc] at hk0 hs3
  have hBw := HB.out
  rw [← hBw] at q0 q1 hk0 hs3
  have hrk2 : Rd (fun b => B + 1 + 1 + 1 ≤ b ∧ b < w3.heap.size) w3 1 csI Ak ks := hrk.mono fun b hb => hk0 b hb
  obtain ⟨n, hn⟩ : ∃ n, n = ks.length := ⟨_, rfl⟩
  have hnl : n ≤ 1000000 := by
    have h1 := hperm.length_eq
    rw [fullM_keys, List.length_map] at h1
    have h2 := List.length_filter_le isCF (hs.map FH.x)
    rw [List.length_map] at h2
    have h3 := HHL.out
    omega
  have HC := Lib.hid (show ks.filter (chgP ls) = chgL ls by
    rw [chgP_eq]
    refine chg_of_sorted (hperm.trans ?_) hsort HG.out
    rw [fullM_keys, ← HLS.out])
  have HKey := Lib.hid (show ∀ r ∈ ks, ∃ y ∈ hs, mGet r (fullM hs) = some y.sl ∧ fullL ls r = natI y.x.row from fun r hr => by
    rw [HLS.out]; exact full_key (hperm.mem_iff.1 hr))
  have HRk := Lib.hid hrk2
  have HN := Lib.hid hn
  have HM3 := Lib.hid M3
  have HQ0 := Lib.hid q0
  rw [← hBw, ← hn]
  clear hok hperm hsort hm3 hrk hfk hlk hk0 q0 hrk2 hn M3 hBw c1
  go_loopw [15] (fun i wr => ∃ (k : Nat) (u : Value), k ≤ n ∧ i = .int .i64 k ∧ wr.heap[B + 1]? = some (.cells #[u] 22 (0, 0)) ∧ OwnS w3.heap.size 21 1 csI wr u ((ks.take k).filter (chgP ls)) ∧ Mod (fun b => b = B + 1) w3 wr) (fun i _ => n - (intOf i).toNat)
  case atStart => exact ⟨0, _, Nat.zero_le _, rfl, q1, OwnS.nil _ _ _ _ _, Mod.refl _ _⟩
  case round =>
    obtain ⟨k, u, hk, rfl, hq1, ho, hm⟩ := hrel
    have HQ1 := Lib.hid hq1
    have HO := Lib.hid ho
    have HM := Lib.hid hm
    clear q1 hq1 ho hm
    by_cases hlt : k < n
    · have hkx : k < ks.length := by rw [← HN.out]; exact hlt
      have MW : Mod (fun _ => False) w wr := HM3.out.trans HM.out fun b hb => .inr (by have := HB.out; omega)
      obtain ⟨b, off, rfl, hb1, qk⟩ := rdI (HRk.out.mod HM.out (fun b hb => ⟨hb.2, by have := hb.1; omega⟩)) hkx
      obtain ⟨x, hx⟩ : ∃ x, x = ks[k] := ⟨_, rfl⟩
      rw [← hx] at qk
      obtain ⟨y, hy, hg, hf⟩ := HKey.out x (by rw [hx]; exact List.getElem_mem _)
      have c0 := hp_cell (hp_mod HQ0.out HM.out (by omega)) 0
      have c1 := HC1.out wr MW
      have hlk := run_mget (P := Tryz.prog) (w := wr) kvK_t Tryz.underlying60 (z := .slice none 0 0) (by kernel_rfl) (hp_mod HM0.out.h1 MW id) x false
      rw [hg] at hlk
      have hlk : (Instr.lookup 60 (.map (some m1)) (.int .i32 x) false).run Tryz.prog wr = .ok (.slice y.A y.x.row.length y.c) wr := hlk
      have hlen := aloneL_len (HG.out.alone y.x (by rw [HLS.out]; exact List.mem_map_of_mem hy))
      have hro := HR.out y hy
      have HE := Lib.hid (show ∀ W, Mod (fun _ => False) wr W → W.heap[wr.heap.size]? = some (.cells #[.int .i32 x] 21 (0, 0)) → Calls Tryz.prog 41 #[.slice y.A y.x.row.length y.c, .slice (some ⟨wr.heap.size, 0, none⟩) 1 1] W fun e w' => e = .returned (.bool (decide (natI y.x.row = [x]))) ∧ Mod (fun _ => False) W w' from fun W hW hWx => by
        have := iequal_any D (fun b => b = wr.heap.size) y.A (some ⟨wr.heap.size, 0, none⟩) y.c 1 (natI y.x.row) [x] W (hro.mod (MW.trans' hW) fun b hb => ⟨HD.out b hb, id⟩) (Rd.one hWx rfl) (by rw [natI_len]; unfold maxLen; omega) (by simp [maxLen]) (fun b hb => by have := HD.out b hb; have := MW.size; have := hW.size; omega) (fun b hb => by subst hb; exact hp_lt hWx)
        rwa [natI_len] at this)
      have HT := Lib.hid (show (ks.take (k + 1)).filter (chgP ls) = (ks.take k).filter (chgP ls) ++ if chgP ls x then [x] else [] by rw [hx]; exact filter_take _ hkx)
      have hz : chgP ls x = !(decide (natI y.x.row = [x])) := by unfold chgP; rw [hf]
      rw [hz] at HT
      have cU := hp_cell HQ1.out 0
      have hs0 := HM.out.size
      clear hx hg hf hlen hro hz MW
      generalize decide (natI y.x.row = [x]) = z at HE HT
      cases z
      · have hlenT : ((ks.take k).filter (chgP ls)).length ≤ 1000000 := by
          have := List.length_filter_le (chgP ls) (ks.take k)
          rw [List.length_take] at this; omega
        have HLT := Lib.hid hlenT
        clear hlenT
        go_wp2_with (first
          | (go_at_call 41
             (with_reducible refine (HE.out _ (by (repeat' (with_reducible (first | exact Mod.refl _ _ | assumption | refine Mod.alloc ?_ _ | refine Mod.drew ?_ | refine Mod.drewN ?_ _ | refine Mod.setCell ?_ (by first | exact Or.inl rfl | (right; simp; done) | (right; simp; omega) | (left; simp; done)) _)))) (hp_new _ _)).mono ?_)
             rintro e w4 ⟨rfl, hm4⟩
             have M4 : Mod (fun _ => False) wr w4 := Mod.trans' (by (repeat' (first | exact Mod.refl _ _ | assumption | refine Mod.alloc ?_ _ | refine Mod.drew ?_ | refine Mod.drewN ?_ _ | refine Mod.setCell ?_ (by first | exact Or.inl rfl | (right; simp; done) | (right; simp; omega) | (left; simp; done)) _))) hm4
             have hU4 := hp_mod HQ1.out M4 id
             have cU4 := hp_cell hU4 0
             have HU4 := Lib.hid hU4
             have HM4 := Lib.hid M4
             have HO4 := Lib.hid (HO.out.mod M4 fun _ _ => id)
             have hs4 := M4.size
             clear hm4 M4 hU4)
          | (at_builtin
             refine wpList_app (base := w3.heap.size) (xs := (ks.take k).filter (chgP ls)) (ys := [x]) (D := fun b => b = w4.heap.size) rfl (.tmp 29) (.tmp 31) rfl i32s_t csI_len csI_one rfl (HO4.out.mod ((Mod.refl (fun _ => False) w4).alloc _) fun _ _ => id) 1 rfl rfl (Rd.one (hp_new _ _) rfl) ?_ ?_ ?_ ?_
             · have := HLT.out; simp [maxLen]; omega
             · have := HLT.out; simp; omega
             · simp; omega
             intro v' w5 hown5 hm5 _
             obtain ⟨A5, c5, hv5, -, hf5, -⟩ := hown5.rd csI_len
             obtain ⟨m5, hl5⟩ : ∃ m5, m5 = ((ks.take k).filter (chgP ls) ++ [x]).length := ⟨_, rfl⟩
             rw [← hl5] at hv5
             subst hv5
             clear hl5
             have hU5 : w5.heap[B + 1]? = some (.cells #[u] 22 (0, 0)) := hp_mod (hp_alloc HU4.out _) hm5 (fun h => by have := (HO4.out.fresh _ h).1; omega)
             have cU5 := hp_cell hU5 0
             have fU5 := hp_free hU5 0
             have HU5 := Lib.hid hU5
             have HM5 := Lib.hid (show Mod (fun b => b = B + 1) w3 w5 from ((HM.out.trans (HM4.out.alloc _) fun _ h => h.elim).trans hm5 fun b h => .inr (HO4.out.fresh b h).1))
             have HO5 := Lib.hid hown5
             clear hm5 hown5 hU5)
          | fail)
        refine ⟨⟨k + 1, _, by omega, by go_num, hp_eq (hp_set HU5.out 0 _) rfl, ?_, HM5.out.setCell (p := ⟨B + 1, 0, none⟩) (.inl rfl) _⟩, by simp only [intOf]; omega⟩
        rw [show (ks.take (k + 1)).filter (chgP ls) = (ks.take k).filter (chgP ls) ++ [x] from HT.out]
        refine HO5.out.keep ((Mod.refl (fun b => b = B + 1) w5).setCell (p := ⟨B + 1, 0, none⟩) (.inl rfl) _ |>.agree fun b hb => ⟨(HO5.out.fresh b hb).2, fun e => by have := (HO5.out.fresh b hb).1; omega⟩)
      · go_wp2_with (first
          | (go_at_call 41
             (with_reducible refine (HE.out _ (by (repeat' (with_reducible (first | exact Mod.refl _ _ | assumption | refine Mod.alloc ?_ _ | refine Mod.drew ?_ | refine Mod.drewN ?_ _ | refine Mod.setCell ?_ (by first | exact Or.inl rfl | (right; simp; done) | (right; simp; omega) | (left; simp; done)) _)))) (hp_new _ _)).mono ?_)
             rintro e w4 ⟨rfl, hm4⟩
             have HM4 := Lib.hid (show Mod (fun _ => False) wr w4 from Mod.trans' (by (repeat' (first | exact Mod.refl _ _ | assumption | refine Mod.alloc ?_ _ | refine Mod.drew ?_ | refine Mod.drewN ?_ _ | refine Mod.setCell ?_ (by first | exact Or.inl rfl | (right; simp; done) | (right; simp; omega) | (left; simp; done)) _))) hm4)
             clear hm4)
          | fail)
        refine ⟨⟨k + 1, u, by omega, by go_num, hp_mod HQ1.out HM4.out id, ?_, HM.out.trans HM4.out fun _ h => h.elim⟩, by simp only [intOf]; omega⟩
        rw [HT.out]
        simpa using HO.out.mod HM4.out fun _ _ => id
    · obtain rfl : k = n := by omega
      have HE := Lib.hid (show (ks.take k).filter (chgP ls) = chgL ls by rw [HN.out, List.take_length]; exact HC.out)
      rw [HE.out] at HO
      have hl1 := hp_lt HQ1.out
      go_wp2
      go_ret
      exact ⟨B + 1, B, u, rfl, by rw [HB.out]; exact Nat.le_refl _, by omega, hl1, HQ1.out, hp_mod HQ0.out HM.out (by omega), HO.out.less (by omega), HM3.out.trans HM.out fun b hb => .inr (by have := HB.out; omega)⟩

/-! ### The iterator -/
def foldIt (ls : List FL) (D : Nat → Prop) : It :=
  ⟨(chgL ls).length, 2, fun k enc R W => ∃ A c, enc = #[.int .i32 (at_ (chgL ls) k), .slice A (fullL ls (at_ (chgL ls) k)).length c] ∧ Rd R W 1 csI A (fullL ls (at_ (chgL ls) k)), D, fun _ => False, fun _ _ => True⟩
theorem foldIt_ok {ls : List FL} {D : Nat → Prop} : (foldIt ls D).Ok :=
  ⟨fun k enc R W ⟨A, c, h, _⟩ => by rw [h]; rfl, fun k enc R W W' ⟨A, c, h1, h2⟩ hA => ⟨A, c, h1, h2.keep hA⟩, fun _ _ _ _ _ => trivial, fun _ h => h.elim⟩
set_option maxRecDepth 100000 in
set_option maxHeartbeats 2000000 in
theorem dall1_iter (bl bf c : Nat) (A : Option Addr) (v : Value) (hs : List FH) (ls : List FL) (hls : hs.map FH.x = ls) (D : Nat → Prop) (w : World) (hbl : w.cell? ⟨bl, 0, none⟩ = some (.slice A (chgL ls).length c)) (hbf : w.cell? ⟨bf, 0, none⟩ = some v)
    (d1 : D bl) (d2 : D bf) (hDl : ∀ b, D b → b < w.heap.size) (hR : Rd D w 1 csI A (chgL ls)) (hF : FoldIn D w v hs) (hlen : (chgL ls).length ≤ 1000000) :
    IterG Tryz.prog 44 #[ptrV bl, ptrV bf] (foldIt ls D) w := by
  intro y J Jx C0 W hAg _ hC hJ hJx hY h0 _
  have hbl' := (hAg.cell (p := ⟨bl, 0, none⟩) d1).trans hbl
  have hbf' := (hAg.cell (p := ⟨bf, 0, none⟩) d2).trans hbf
  obtain ⟨xs, hxs⟩ : ∃ xs, xs = chgL ls := ⟨_, rfl⟩
  have HY := Lib.hid hY
  simp only [foldIt, ← hxs] at HY
  have hgoal : (foldIt ls D).n = xs.length := by rw [hxs]; rfl
  have hE : (foldIt ls D).E = fun _ => False := rfl
  have hS : (foldIt ls D).S = fun _ _ => True := rfl
  rw [hgoal, hE, hS]
  rw [← hxs] at hbl' hlen hR
  obtain ⟨n, hn⟩ : ∃ n, n = xs.length := ⟨_, rfl⟩
  rw [← hn] at hbl' hlen ⊢
  have HN := Lib.hid hn
  have HRd := Lib.hid (hR.keep hAg)
  have HF := Lib.hid (hF.keep hAg)
  have HDl := Lib.hid (show ∀ b, D b → b < W.heap.size from fun b hb => Nat.lt_of_lt_of_le (hDl b hb) hAg.size)
  have HC := Lib.hid (show ∀ b, C0 b → b < W.heap.size ∧ ¬ D b from fun b hb => ⟨(hC b hb).1, (hC b hb).2.1⟩)
  have HBF := Lib.hid hbf'
  have HBl := Lib.hid hls
  have hbfl := cell_lt hbf'
  have HD2 := Lib.hid d2
  clear hY hbl hbf hC hR hF hDl hAg hxs hn hgoal hE hS hbf' hls d1 d2
  refine callsIn_wide.1 (callsIn_of_wp (n := 0) (F := Fence.wide) Tryz.func44 rfl trivial ?_ rfl)
  simp only [Tryz.ntmps44, List.size_toArray, List.length_cons, List.length_nil, Nat.reduceAdd, Nat.reduceSub, Array.replicate_succ, Array.replicate_zero, List.push_toArray, List.append_toArray, List.nil_append, List.cons_append]
  gi_wp2
  gi_loopw [8] (fun i wr => ∃ (k : Nat) (C : Nat → Prop), k ≤ n ∧ i = .int .i64 k ∧ J k C wr ∧ Mod C0 W wr ∧ (∀ b, C b → b < wr.heap.size ∧ (C0 b ∨ W.heap.size ≤ b))) (fun i _ => n - (intOf i).toNat)
  case atStart => exact ⟨0, C0, Nat.zero_le _, rfl, h0, Mod.refl _ _, fun b hb => ⟨(HC.out b hb).1, .inl hb⟩⟩
  case round =>
    obtain ⟨k, C, hk, rfl, hj, hm, hb⟩ := hrel
    have HM := Lib.hid hm
    have HB := Lib.hid hb
    clear hbl' hm hb
    by_cases hlt : k < n
    · have hkx : k < xs.length := by rw [← HN.out]; exact hlt
      obtain ⟨b, off, hA, -, q1⟩ := rdI (HRd.out.mod HM.out (fun b hb => ⟨HDl.out b hb, fun h => (HC.out b h).2 hb⟩)) hkx
      have hA := hA
      subst hA
      obtain ⟨x, hx⟩ : ∃ x, x = xs[k] := ⟨_, rfl⟩
      rw [← hx] at q1
      have hat : at_ xs k = x := by rw [hx]; exact at_lt hkx
      have cF := cell_mod HBF.out HM.out (fun h => (HC.out bf h).2 HD2.out)
      have HX := Lib.hid hat
      have HFull := Lib.hid (show Calls Tryz.prog 15 #[v, .int .i32 x] wr fun e w' => ∃ u, e = .returned u ∧ OwnS wr.heap.size 21 1 csI w' u (fullL ls x) ∧ Mod (fun _ => False) wr w' by
        rw [← HBl.out]
        exact dfull_any D v hs x wr (HF.out.mod HM.out fun b hb => ⟨HDl.out b hb, fun h => (HC.out b h).2 hb⟩))
      clear hx hat
      gi_wp2_with (first
        | ((refine ⟨trivial, rfl, ?_⟩; gi_at_call 15)
           refine ci HFull.out ?_
           rintro e w1 ⟨u, rfl, ho, hm1⟩
           obtain ⟨A1, c1, hu, hr1, hf1, -⟩ := ho.rd csI_len
           subst hu
           obtain ⟨fn, tmps, assign, body, hy, hR⟩ := HY.out k hkx #[.int .i32 x, .slice A1 (fullL ls x).length c1] (fun b => wr.heap.size ≤ b ∧ b < w1.heap.size) C w1 (hJ _ _ _ _ hj (hm1.agree fun b h => ⟨(HB.out b h).1, id⟩)) trivial ⟨A1, c1, by rw [HX.out], by rw [HX.out]; exact hr1.mono fun b hb => hf1 b hb⟩ (fun b hb => ⟨hb.2, fun h => by have := (HB.out b h).1; have := hb.1; omega⟩) ((HM.out.trans hm1 fun _ h => h.elim).mono fun _ _ h => .inl h) (fun b h => ⟨Nat.lt_of_lt_of_le (HB.out b h).1 hm1.size, (HB.out b h).2⟩)
           have HM1 := Lib.hid hm1
           clear ho hm1 hr1 hf1)
        | fail)
      refine ⟨rfl, (hR _).mono ?_⟩
      have hs1 := HM1.out.size
      have hs2 := HM.out.size
      rintro e W3 (⟨rfl, C', hJ3, hm3, hb3⟩ | ⟨rfl, C', hJ3, hm3, hb3⟩)
      all_goals
        have M3 := (HM.out.trans HM1.out (fun b h => h.elim)).trans hm3 (fun b h => (HB.out b h).2)
        have B3 : ∀ b, C' b → b < W3.heap.size ∧ (C0 b ∨ W.heap.size ≤ b) := fun b h => ⟨(hb3 b h).1, (hb3 b h).2.elim (fun h => (HB.out b h).2) (fun h => .inr (by omega))⟩
      · gi_wp2
        go_roundw
        case rel => exact ⟨k + 1, C', by omega, by go_num, hJ3, M3, B3⟩
        case measure => simp only [intOf]; omega
      · gi_wp2
        refine bodyPost_ret (results_none rfl _ _ _) rfl ?_
        exact ⟨⟨_, rfl⟩, .inr ⟨k + 1, by omega, by omega, trivial, C', hJ3, M3.mono fun _ _ h => .inl h, B3⟩⟩
    · obtain rfl : k = n := by omega
      gi_wp2
      go_end0
      exact ⟨⟨_, rfl⟩, .inl ⟨trivial, C, hj, HM.out.mono fun _ _ h => .inl h, HB.out⟩⟩
end Go.Proofs.YtidbgfmknhlmnaaGreatDoor
