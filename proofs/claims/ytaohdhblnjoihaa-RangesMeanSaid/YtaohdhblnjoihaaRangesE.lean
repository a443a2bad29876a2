/-
  The reference's Of.
-/
import Derived.Test.YtaohdhblnjoihaaRangesD
import Derived.IntWalk
namespace Go.Proofs.Ytaohdhblnjoihaa
open Go.RowKit Go.Shelf
attribute [local go_sem] Oper.semAt_some

theorem apart_snoc {xs : List Rg} {k : Nat} (hk : k < xs.length) (h : Apart (xs.take k)) (h2 : ∀ j (hj : j < xs.length), j < k → ovl xs[k] xs[j] = false) : Apart (xs.take (k + 1)) := by
  unfold Apart at *
  rw [List.take_succ_eq_append_getElem hk]
  refine List.pairwise_append.2 ⟨h, List.pairwise_singleton _ _, fun a ha b hb => ?_⟩
  obtain rfl := List.mem_singleton.1 hb
  obtain ⟨i, hi, rfl⟩ := List.getElem_of_mem ha
  rw [List.getElem_take]
  simp at hi
  rw [ovl_comm]
  exact h2 i (by omega) (by omega)
theorem not_apart_at {xs : List Rg} {k j : Nat} (hk : k < xs.length) (hj : j < k) (h : ovl xs[k] (xs[j]'(by omega)) = true) : ¬ Apart xs := by
  intro ha
  have := List.pairwise_iff_getElem.1 ha j k (by omega) hk hj
  rw [ovl_comm, h] at this
  cases this

theorem insR_at : ∀ (L : List Rg) (x : Rg) (j : Nat), j ≤ L.length → (∀ m (hm : m < L.length), m < j → L[m].lo < x.lo) → (∀ hm : j < L.length, ¬ L[j].lo < x.lo) → insR L x = L.take j ++ x :: L.drop j
  | [], x, j, hj, _, _ => by
    have : j = 0 := by simpa using hj
    subst this
    rfl
  | y :: ys, x, 0, _, _, h2 => by
    have := h2 (by simp)
    simp only [List.getElem_cons_zero] at this
    unfold insR
    rw [if_neg this]
    rfl
  | y :: ys, x, j + 1, hj, h1, h2 => by
    have := h1 0 (by simp) (by omega)
    simp only [List.getElem_cons_zero] at this
    unfold insR
    rw [if_pos this, insR_at ys x j (by simpa using hj) (fun m hm hmj => h1 (m + 1) (by simpa using hm) (by omega)) (fun hm => h2 (by simpa using hm))]
    rfl
theorem sortR_len (l : List Rg) : (sortR l).length = l.length := (sortR_perm l).length_eq
theorem ins_mid (L : List Rg) (z x : Rg) (j : Nat) (hj : j < L.length) : ((L ++ [z]).take (j + 1) ++ L.drop j ++ (L ++ [z]).drop (j + 1 + (L.drop j).length)).set j x = L.take j ++ x :: L.drop j := by
  apply List.ext_getElem?
  intro i
  grind
theorem ins_end (L : List Rg) (z x : Rg) : (L ++ [z]).set L.length x = L.take L.length ++ x :: L.drop L.length := by
  simp
theorem own_set3 {base g n c j : Nat} {w : World} {M : List Rg} (h : OwnS base 24 3 Rg.cs w (.slice (some ⟨g, 0, none⟩) n c) M) (hn : n = M.length) (hj : j < n) (x : Rg) :
    OwnS base 24 3 Rg.cs (((w.setCell ⟨g, j * 3, none⟩ (.int .i32 x.lo)).setCell ⟨g, j * 3 + 1, none⟩ (.int .i32 x.hi)).setCell ⟨g, j * 3 + 2, none⟩ (.int .i64 x.v)) (.slice (some ⟨g, 0, none⟩) n c) (M.set j x) := by
  have hjl : j < M.length := by omega
  have h1 := OwnS.set1 Rg.cs_len h hn hj (j := 0) (by omega) (u := .int .i32 x.lo) (y := ⟨x.lo, M[j].hi, M[j].v⟩) rfl
  have h2 := OwnS.set1 Rg.cs_len h1 (k := j) (by simpa using hn) hj (j := 1) (by omega) (u := .int .i32 x.hi) (y := ⟨x.lo, x.hi, M[j].v⟩) (by simp [Rg.cs])
  have h3 := OwnS.set1 Rg.cs_len h2 (k := j) (by simpa using hn) hj (j := 2) (by omega) (u := .int .i64 x.v) (y := x) (by simp [Rg.cs])
  rw [List.set_set, List.set_set] at h3
  exact h3
/-- What the reference's Of makes. -/
def RefEnds (w : World) (xs : List Rg) (e : Ending) (w' : World) : Prop :=
  ∃ v, e = .returned (.tuple #[v, .int .i64 (errR xs)]) ∧ OwnS w.heap.size 24 3 Rg.cs w' v (mapR xs) ∧ Mod (fun _ => False) w w'
theorem refEnds_err {w w' : World} {xs : List Rg} {n : Int} (h : errR xs = n) (hn : n ≠ 0) (hm : Mod (fun _ => False) w w') : RefEnds w xs (.returned (.tuple #[.slice none 0 0, .int .i64 n])) w' :=
  ⟨_, by rw [h], by unfold mapR; rw [if_neg (by rw [h]; exact hn)]; exact OwnS.nil _ _ _ _ _, hm⟩

set_option maxRecDepth 100000 in
set_option maxHeartbeats 4000000 in
theorem rrof_any (A : Option Addr) (c : Nat) (xs : List Rg) (w : World) (hA : Rd (fun b => b < w.heap.size) w 3 Rg.cs A xs) (hl : xs.length ≤ 1000000) (hf : ∀ x ∈ xs, FitR x) :
    Calls Try.prog 11 #[.slice A xs.length c] w (RefEnds w xs) := by
  obtain ⟨n, hn⟩ : ∃ n, n = xs.length := ⟨_, rfl⟩
  rw [← hn] at hl ⊢
  have HN := Lib.hid hn
  have HA := Lib.hid hA
  have HF := Lib.hid hf
  clear hn hA hf
  go_enter Try.func11, Try.ntmps11
  go_wp2
  go_loopw [4] (fun i wr => ∃ k : Nat, k ≤ n ∧ i = .int .i64 k ∧ (∀ j (hj : j < xs.length), j < k → badR xs[j] = false) ∧ ∃ q, wr = w.drewN q) (fun i _ => n - (intOf i).toNat)
  case atStart => exact ⟨0, Nat.zero_le _, rfl, fun j hj h => by omega, 0, rfl⟩
  case round =>
    obtain ⟨k, hk, rfl, h1, q, rfl⟩ := hrel
    have H1 := Lib.hid h1
    clear h1
    by_cases hlt : k < n
    · have hkx : k < xs.length := by rw [← HN.out]; exact hlt
      obtain ⟨b', off, rfl, -, k0, k1, k2⟩ := rd3 HA.out hkx
      obtain ⟨x, hx⟩ : ∃ x, x = xs[k] := ⟨_, rfl⟩
      rw [← hx] at k0 k1 k2
      have HX := Lib.hid hx
      clear hx
      cases hbad : badR x with
      | true =>
        have HE := Lib.hid (show errR xs = 2 by unfold errR; rw [if_pos (List.any_eq_true.2 ⟨xs[k], List.getElem_mem _, by rw [← HX.out]; exact hbad⟩)])
        by_cases hx0 : x.lo < 0
        · clear hbad
          go_wp2
          go_quiet (fail)
          go_wp2
          go_ret2
          exact refEnds_err HE.out (by decide) (by (repeat' (first | exact Mod.refl _ _ | assumption | refine Mod.alloc ?_ _ | refine Mod.drew ?_ | refine Mod.drewN ?_ _ | refine Mod.setCell ?_ (by first | exact Or.inl rfl | (right; simp; done) | (right; simp; omega) | (left; simp; done)) _)))
        · have hx1 : x.hi < x.lo := by simp [badR] at hbad; omega
          clear hbad
          go_wp2
          go_quiet (fail)
          go_wp2
          go_ret2
          exact refEnds_err HE.out (by decide) (by (repeat' (first | exact Mod.refl _ _ | assumption | refine Mod.alloc ?_ _ | refine Mod.drew ?_ | refine Mod.drewN ?_ _ | refine Mod.setCell ?_ (by first | exact Or.inl rfl | (right; simp; done) | (right; simp; omega) | (left; simp; done)) _)))
      | false =>
        have HB := Lib.hid hbad
        have hx0 : ¬ x.lo < 0 := by simp [badR] at hbad; omega
        have hx1 : ¬ x.hi < x.lo := by simp [badR] at hbad; omega
        clear hbad
        go_wp2
        go_quiet (fail)
        go_wp2
        go_roundw
        case rel =>
          refine ⟨k + 1, by omega, by go_num, fun j hj hjk => ?_, _, rfl⟩
          rcases Nat.eq_or_lt_of_le (Nat.le_of_lt_succ hjk) with h | h
          · subst h; rw [← HX.out]; exact HB.out
          · exact H1.out j hj h
        case measure => simp only [intOf]; omega
    · have HG := Lib.hid (show Good xs by
        refine (good_iff xs).1 ?_
        rw [List.any_eq_false]
        intro z hz
        obtain ⟨j, hj, rfl⟩ := List.getElem_of_mem hz
        rw [H1.out j hj (by have := HN.out; omega)]
        simp)
      clear H1 hk
      go_wp2
      go_loopw [5] (fun i wr => ∃ k : Nat, k ≤ n ∧ i = .int .i64 k ∧ Apart (xs.take k) ∧ ∃ q, wr = w.drewN q) (fun i _ => n - (intOf i).toNat)
      case atStart => exact ⟨0, Nat.zero_le _, rfl, List.Pairwise.nil, _, rfl⟩
      case round =>
        obtain ⟨k, hk, rfl, h1, q, rfl⟩ := hrel
        have H1 := Lib.hid h1
        clear h1
        by_cases hlt : k < n
        · have hkx : k < xs.length := by rw [← HN.out]; exact hlt
          obtain ⟨b', off, rfl, -, k0, k1, k2⟩ := rd3 HA.out hkx
          obtain ⟨x, hx⟩ : ∃ x, x = xs[k] := ⟨_, rfl⟩
          rw [← hx] at k0 k1 k2
          have HX := Lib.hid hx
          clear hx
          go_wp2
          go_loopw [6] (fun i wr => ∃ j : Nat, j ≤ k ∧ i = .int .i64 j ∧ (∀ m (hm : m < xs.length), m < j → ovl x xs[m] = false) ∧ ∃ q, wr = w.drewN q) (fun i _ => k - (intOf i).toNat)
          case atStart => exact ⟨0, Nat.zero_le _, rfl, fun j hj h => by omega, _, rfl⟩
          case round =>
            obtain ⟨j, hj, rfl, h2, q, rfl⟩ := hrel
            have H2 := Lib.hid h2
            clear h2
            by_cases hjk : j < k
            · have hjx : j < xs.length := by omega
              obtain ⟨b2, off2, he2, -, l0, l1, l2⟩ := rd3 HA.out hjx
              injection he2 with he2
              injection he2 with he3 he4
              subst he3 he4
              obtain ⟨y, hy⟩ : ∃ y, y = xs[j] := ⟨_, rfl⟩
              rw [← hy] at l0 l1 l2
              have HY := Lib.hid hy
              clear hy
              by_cases hc1 : x.lo ≤ y.hi
              · by_cases hc2 : y.lo ≤ x.hi
                · have HE := Lib.hid (show errR xs = 9 by
                    rcases errR_cases xs with ⟨h, h2⟩ | ⟨h, _⟩ | ⟨h, h2, h3⟩
                    · rw [(good_iff xs).2 HG.out] at h2; cases h2
                    · exact h
                    · exfalso
                      exact not_apart_at hkx hjk (by rw [← HX.out, ← HY.out]; simp [ovl, hc1, hc2]) h3)
                  go_wp2
                  go_quiet (fail)
                  go_wp2
                  go_ret2
                  exact refEnds_err HE.out (by decide) (by (repeat' (first | exact Mod.refl _ _ | assumption | refine Mod.alloc ?_ _ | refine Mod.drew ?_ | refine Mod.drewN ?_ _ | refine Mod.setCell ?_ (by first | exact Or.inl rfl | (right; simp; done) | (right; simp; omega) | (left; simp; done)) _)))
                · have HV := Lib.hid (show ovl x y = false by simp [ovl, hc2])
                  go_wp2
                  go_quiet (fail)
                  go_wp2
                  go_roundw
                  case rel =>
                    refine ⟨j + 1, by omega, by go_num, fun m hm hmj => ?_, _, rfl⟩
                    rcases Nat.eq_or_lt_of_le (Nat.le_of_lt_succ hmj) with h | h
                    · subst h; rw [← HY.out]; exact HV.out
                    · exact H2.out m hm h
                  case measure => simp only [intOf]; omega
              · have HV := Lib.hid (show ovl x y = false by simp [ovl, hc1])
                have hd1 : decide (x.lo ≤ y.hi) = false := by simpa using hc1
                go_wp2
                go_quiet (fail)
                go_wp2
                go_roundw
                case rel =>
                  refine ⟨j + 1, by omega, by go_num, fun m hm hmj => ?_, _, rfl⟩
                  rcases Nat.eq_or_lt_of_le (Nat.le_of_lt_succ hmj) with h | h
                  · subst h; rw [← HY.out]; exact HV.out
                  · exact H2.out m hm h
                case measure => simp only [intOf]; omega
            · go_wp2
              go_roundw
              case rel => exact ⟨k + 1, by omega, by go_num, apart_snoc hkx H1.out (fun m hm hmk => by rw [← HX.out]; exact H2.out m hm (by omega)), _, rfl⟩
              case measure => simp only [intOf]; omega
        · have HP := Lib.hid (show Apart xs by have h := H1.out; rwa [List.take_of_length_le (by have := HN.out; omega)] at h)
          clear H1 hk
          go_wp2
          obtain ⟨z0, hz0⟩ : ∃ z0 : Rg, z0 = ⟨0, 0, 0⟩ := ⟨_, rfl⟩
          have HZ := Lib.hid hz0
          clear hz0
          go_loopw [7, 8] (fun v i wr => ∃ k : Nat, k ≤ n ∧ i = .int .i64 k ∧ OwnS w.heap.size 24 3 Rg.cs wr v (sortR (xs.take k)) ∧ Mod (fun _ => False) w wr) (fun _ i _ => n - (intOf i).toNat)
          case atStart => exact ⟨0, Nat.zero_le _, rfl, OwnS.nil _ _ _ _ _, by (repeat' (first | exact Mod.refl _ _ | assumption | refine Mod.alloc ?_ _ | refine Mod.drew ?_ | refine Mod.drewN ?_ _ | refine Mod.setCell ?_ (by first | exact Or.inl rfl | (right; simp; done) | (right; simp; omega) | (left; simp; done)) _))⟩
          case round =>
            obtain ⟨k, hk, rfl, hown, hm⟩ := hrel
            obtain ⟨wo, hwo⟩ : ∃ wo : World, wo = wr := ⟨_, rfl⟩
            rw [← hwo] at hown hm ⊢
            clear hwo
            obtain ⟨L, hL⟩ : ∃ L, L = sortR (xs.take k) := ⟨_, rfl⟩
            rw [← hL] at hown
            have hLl : L.length = k := by rw [hL, sortR_len]; simp; have := HN.out; omega
            obtain ⟨A4, c4, rfl, hr4, hfr4, hml4⟩ := OwnS.rd hown Rg.cs_len
            rw [hLl] at hown hr4 hfr4 ⊢
            have HL := Lib.hid hL
            have HLl := Lib.hid hLl
            have HO := Lib.hid hown
            have HR := Lib.hid hr4
            have HFr := Lib.hid hfr4
            have HM := Lib.hid hm
            clear hL hLl hown hr4 hfr4 hm hml4
            by_cases hlt : k < n
            · have hkx : k < xs.length := by rw [← HN.out]; exact hlt
              obtain ⟨b', off, rfl, hb'l, k0, k1, k2⟩ := rd3 (HA.out.mod HM.out (fun b hb => ⟨hb, id⟩)) hkx
              obtain ⟨x, hx⟩ : ∃ x, x = xs[k] := ⟨_, rfl⟩
              rw [← hx] at k0 k1 k2
              have HXk := Lib.hid hx
              have HT := Lib.hid (show sortR (xs.take (k + 1)) = insR L x by rw [List.take_succ_eq_append_getElem hkx, sortR_snoc, ← HL.out, hx])
              clear hx
              go_wp2
              go_loopw [9] (fun i wr => ∃ j : Nat, j ≤ k ∧ i = .int .i64 j ∧ (∀ m (hm : m < L.length), m < j → L[m].lo < x.lo) ∧ ∃ q, wr = wo.drewN q) (fun i _ => k - (intOf i).toNat)
              case atStart => exact ⟨0, Nat.zero_le _, rfl, fun j hj h => by omega, 0, rfl⟩
              case round =>
                obtain ⟨j, hj, rfl, h1, q, rfl⟩ := hrel
                have H1 := Lib.hid h1
                clear h1
                by_cases hjk : j < k
                · have hjx : j < L.length := by rw [HLl.out]; exact hjk
                  obtain ⟨g4, goff, he4, hgo, l0, l1, l2⟩ := rd3 HR.out hjx
                  subst he4
                  obtain ⟨y, hy⟩ : ∃ y, y = L[j] := ⟨_, rfl⟩
                  rw [← hy] at l0 l1 l2
                  have HY := Lib.hid hy
                  clear hy
                  by_cases hc1 : y.lo < x.lo
                  · go_wp2
                    go_quiet (fail)
                    go_wp2
                    go_roundw
                    case rel =>
                      refine ⟨j + 1, by omega, by go_num, fun m hm hmj => ?_, _, rfl⟩
                      rcases Nat.eq_or_lt_of_le (Nat.le_of_lt_succ hmj) with h | h
                      · subst h; rw [← HY.out]; exact hc1
                      · exact H1.out m hm h
                    case measure => simp only [intOf]; omega
                  · have HI := Lib.hid (show sortR (xs.take (k + 1)) = L.take j ++ x :: L.drop j by rw [HT.out]; exact insR_at L x j (by omega) H1.out (fun h => by rw [← HY.out]; exact hc1))
                    go_wp2
                    go_quiet (fail)
                    go_wp2_with (at_builtin
                                 refine wpList_app (base := w.heap.size) (xs := L) (ys := [z0]) (D := fun _ => True) (v := .slice (some ⟨g4, goff, none⟩) k c4) rfl (.tmp 98) (.tmp 100) rfl rgs_t Rg.cs_len Rg.cs_one rfl (HO.out.mod (C := fun _ => False) (by (repeat' (first | exact Mod.refl _ _ | assumption | refine Mod.alloc ?_ _ | refine Mod.drew ?_ | refine Mod.drewN ?_ _ | refine Mod.setCell ?_ (by first | exact Or.inl rfl | (right; simp; done) | (right; simp; omega) | (left; simp; done)) _))) (fun b _ => id)) 1 rfl rfl (rd_oneT (g := wo.heap.size) (c := #[.int .i32 0, .int .i32 0, .int .i64 0]) (t := 24) (fr := (0, 0)) (by (repeat' (first | exact hp_new _ _ | exact hp_at _ _ (by simp; done) | refine hp_alloc ?_ _ | refine hp_drew ?_ | refine hp_drewN ?_ _ | apply hp_set | refine hp_far ?_ (by first | (simp; omega) | (simp; done)) _))) (by rw [HZ.out]; rfl)) ?_ ?_ ?_ ?_
                                 · rw [HLl.out]; simp [maxLen]; omega
                                 · rw [HLl.out]; simp; omega
                                 · have := HM.out.size; simp; omega
                                 intro v5 w5 hown5 hm5 _
                                 obtain ⟨g, c5, hv5, hgb, hgl, hgf⟩ := hown5.at_ (by simp)
                                 have hl5 : (L ++ [z0]).length = k + 1 := by rw [List.length_append, HLl.out]; rfl
                                 obtain ⟨hcap1, hcap2⟩ := hown5.cap hv5
                                 rw [hl5] at hv5 hcap1
                                 subst hv5
                                 have M5 : Mod (fun _ => False) w w5 := (show Mod (fun _ => False) w _ by have := HM.out; (repeat' (first | exact Mod.refl _ _ | assumption | refine Mod.alloc ?_ _ | refine Mod.drew ?_ | refine Mod.drewN ?_ _ | refine Mod.setCell ?_ (by first | exact Or.inl rfl | (right; simp; done) | (right; simp; omega) | (left; simp; done)) _))).trans hm5 (fun b hb => .inr (HFr.out b hb).1)
                                 have HO5 := Lib.hid hown5
                                 have HL5 := Lib.hid hl5
                                 clear hown5 hm5 hl5)
                    have hj1 : ¬ c5 = j + 1 := by omega
                    have hj2 : ¬ c5 = j := by omega
                    have hyl : (L.drop j).length = k - j := by rw [List.length_drop, HLl.out]
                    have HYl := Lib.hid hyl
                    have hr5 := rd_of5 HO5.out Rg.cs_len
                    have hr5' : Rd (fun b => (Value.slice (some ⟨g, 0, none⟩) (k + 1) c5).ownBlock = some b) w5 3 Rg.cs (some ⟨g, j * 3, none⟩) (L.drop j) := by
                      have h := rd_take (rd_drop hr5 (j := j) (by rw [HL5.out]; omega)) (k - j)
                      have e : ((L ++ [z0]).drop j).take (k - j) = L.drop j := by
                        rw [List.drop_append_of_le_length (by omega), List.take_append_of_le_length (by omega), List.take_of_length_le (by omega)]
                      rw [e, Nat.zero_add] at h
                      exact h
                    have HR5 := Lib.hid (fun X (hX : Mod (fun _ => False) w5 X) => hr5'.mod hX (fun b hb => ⟨(HO5.out.fresh b hb).2, id⟩))
                    have HO5' := Lib.hid (fun X (hX : Mod (fun _ => False) w5 X) => HO5.out.mod hX (fun b _ => id))
                    have hs1 : (0 : Int) ≤ (j : Int) + 1 := by omega
                    have hs2 : (j : Int) + 1 ≤ (k : Int) + 1 := by omega
                    have hs5 : (j : Int) ≤ (k : Int) + 1 := by omega
                    have hs3 : ((j : Int) + 1).toNat = j + 1 := by omega
                    have hs4 : IntKind.i64.wrap ((j : Int) + 1) = (j : Int) + 1 := IntWalk.i64_in _ (by omega)
                    clear hyl hr5 hr5'
                    go_region_law? ((
                      refine step_copy_own (tgt := j + 1) (xs := L ++ [z0]) (ys := L.drop j) (dLen := k - j) (dCap := c5 - (j + 1)) (sLen := k + 1 - j) (sCap := c5 - j) rfl (.tmp 105) (.tmp 108) rfl rgs_t Rg.cs_len Rg.cs_one ?_ rfl ?_ (HO5'.out _ (by (repeat' (first | exact Mod.refl _ _ | assumption | refine Mod.alloc ?_ _ | refine Mod.drew ?_ | refine Mod.drewN ?_ _ | refine Mod.setCell ?_ (by first | exact Or.inl rfl | (right; simp; done) | (right; simp; omega) | (left; simp; done)) _)))) HL5.out.symm (HR5.out _ (by (repeat' (first | exact Mod.refl _ _ | assumption | refine Mod.alloc ?_ _ | refine Mod.drew ?_ | refine Mod.drewN ?_ _ | refine Mod.setCell ?_ (by first | exact Or.inl rfl | (right; simp; done) | (right; simp; omega) | (left; simp; done)) _)))) ?_ ?_ ?_
                      · go_simp
                      · go_simp
                      · rw [HYl.out]; show _ = min _ _; omega
                      · rw [HYl.out]; omega
                      intro w6 hown6 hm6
                      obtain ⟨N6, hN6⟩ : ∃ N6, N6 = (L ++ [z0]).take (j + 1) ++ L.drop j ++ (L ++ [z0]).drop (j + 1 + (L.drop j).length) := ⟨_, rfl⟩
                      rw [← hN6] at hown6
                      have hl6 : k + 1 = N6.length := by rw [hN6]; have := HLl.out; simp; omega
                      have HS6 := Lib.hid (show N6.set j x = L.take j ++ x :: L.drop j by rw [hN6]; exact ins_mid L z0 x j (by have := HLl.out; omega))
                      have hm6' : Mod (fun _ => False) w w6 := (show Mod (fun _ => False) w _ by have := M5; (repeat' (first | exact Mod.refl _ _ | assumption | refine Mod.alloc ?_ _ | refine Mod.drew ?_ | refine Mod.drewN ?_ _ | refine Mod.setCell ?_ (by first | exact Or.inl rfl | (right; simp; done) | (right; simp; omega) | (left; simp; done)) _))).trans hm6 (fun b hb => by subst hb; exact .inr hgb)
                      obtain ⟨b2, off2, he2, -, p0, p1, p2⟩ := rd3 (HA.out.mod hm6' (fun b hb => ⟨hb, id⟩)) hkx
                      injection he2 with he2
                      injection he2 with he3 he4
                      subst he3 he4
                      rw [← HXk.out] at p0 p1 p2
                      obtain ⟨g', c6, hv6, -, -, hgf6⟩ := hown6.at_ (by omega)
                      rw [← hl6] at hv6
                      injection hv6 with hv7 hv8 hv9
                      injection hv7 with hv7
                      injection hv7 with hv7
                      subst hv7 hv9
                      have q0 := hown6.cell Rg.cs_len (by rw [← hl6]) (k := j) (j := 0) (by omega) rfl
                      have q1 := hown6.cell Rg.cs_len (by rw [← hl6]) (k := j) (j := 1) (by omega) rfl
                      have q2 := hown6.cell Rg.cs_len (by rw [← hl6]) (k := j) (j := 2) (by omega) rfl
                      have qf0 := hgf6 (j * 3)
                      have qf1 := hgf6 (j * 3 + 1)
                      have qf2 := hgf6 (j * 3 + 2)
                      obtain ⟨e, he⟩ : ∃ e, e = N6[j]'(by omega) := ⟨_, rfl⟩
                      rw [← he] at q0 q1 q2
                      rw [Nat.add_zero] at q0
                      have HO6 := Lib.hid hown6
                      have HM6 := Lib.hid hm6'
                      have HL6 := Lib.hid hl6
                      clear hown6 hm6 hm6' hl6 hN6 hgf6 he))
                    all_goals
                      clear hs1 hs2 hs3 hs4 hs5
                      go_wp2
                      refine ⟨⟨k + 1, by omega, by go_num, ?_, ?_⟩, by simp only [intOf]; omega⟩
                      · rw [HI.out, ← HS6.out]
                        exact own_set3 HO6.out HL6.out (by omega) x
                      · exact ((HM6.out.setCell (p := ⟨g, j * 3, none⟩) (.inr hgb) _).setCell (p := ⟨g, j * 3 + 1, none⟩) (.inr hgb) _).setCell (p := ⟨g, j * 3 + 2, none⟩) (.inr hgb) _
                · obtain rfl : j = k := by omega
                  have HI := Lib.hid (show sortR (xs.take (j + 1)) = L.take j ++ x :: L.drop j by rw [HT.out]; exact insR_at L x j (by rw [HLl.out]; exact Nat.le_refl _) H1.out (fun h => by have := HLl.out; omega))
                  go_wp2
                  go_quiet (fail)
                  go_wp2_with (at_builtin
                               refine wpList_app (base := w.heap.size) (xs := L) (ys := [z0]) (D := fun _ => True) (v := .slice A4 j c4) rfl (.tmp 98) (.tmp 100) rfl rgs_t Rg.cs_len Rg.cs_one rfl (HO.out.mod (C := fun _ => False) (by (repeat' (first | exact Mod.refl _ _ | assumption | refine Mod.alloc ?_ _ | refine Mod.drew ?_ | refine Mod.drewN ?_ _ | refine Mod.setCell ?_ (by first | exact Or.inl rfl | (right; simp; done) | (right; simp; omega) | (left; simp; done)) _))) (fun b _ => id)) 1 rfl rfl (rd_oneT (g := wo.heap.size) (c := #[.int .i32 0, .int .i32 0, .int .i64 0]) (t := 24) (fr := (0, 0)) (by (repeat' (first | exact hp_new _ _ | exact hp_at _ _ (by simp; done) | refine hp_alloc ?_ _ | refine hp_drew ?_ | refine hp_drewN ?_ _ | apply hp_set | refine hp_far ?_ (by first | (simp; omega) | (simp; done)) _))) (by rw [HZ.out]; rfl)) ?_ ?_ ?_ ?_
                               · rw [HLl.out]; simp [maxLen]; omega
                               · rw [HLl.out]; simp; omega
                               · have := HM.out.size; simp; omega
                               intro v5 w5 hown5 hm5 _
                               obtain ⟨g, c5, hv5, hgb, hgl, hgf⟩ := hown5.at_ (by simp)
                               have hl5 : (L ++ [z0]).length = j + 1 := by rw [List.length_append, HLl.out]; rfl
                               obtain ⟨hcap1, hcap2⟩ := hown5.cap hv5
                               rw [hl5] at hv5 hcap1
                               subst hv5
                               have M5 : Mod (fun _ => False) w w5 := (show Mod (fun _ => False) w _ by have := HM.out; (repeat' (first | exact Mod.refl _ _ | assumption | refine Mod.alloc ?_ _ | refine Mod.drew ?_ | refine Mod.drewN ?_ _ | refine Mod.setCell ?_ (by first | exact Or.inl rfl | (right; simp; done) | (right; simp; omega) | (left; simp; done)) _))).trans hm5 (fun b hb => .inr (HFr.out b hb).1)
                               have HO5 := Lib.hid hown5
                               have HL5 := Lib.hid hl5
                               clear hown5 hm5 hl5)
                  have hj2 : ¬ c5 = j := by omega
                  have hl6 := HL5.out
                  have q0 := HO5.out.cell Rg.cs_len (by rw [hl6]) (k := j) (j := 0) (by omega) rfl
                  have q1 := HO5.out.cell Rg.cs_len (by rw [hl6]) (k := j) (j := 1) (by omega) rfl
                  have q2 := HO5.out.cell Rg.cs_len (by rw [hl6]) (k := j) (j := 2) (by omega) rfl
                  have qf0 := hgf (j * 3)
                  have qf1 := hgf (j * 3 + 1)
                  have qf2 := hgf (j * 3 + 2)
                  obtain ⟨e, he⟩ : ∃ e, e = (L ++ [z0])[j]'(by omega) := ⟨_, rfl⟩
                  rw [← he] at q0 q1 q2
                  rw [Nat.add_zero] at q0
                  obtain ⟨b2, off2, he2, -, p0, p1, p2⟩ := rd3 (HA.out.mod M5 (fun b hb => ⟨hb, id⟩)) hkx
                  injection he2 with he2
                  injection he2 with he3 he4
                  subst he3 he4
                  rw [← HXk.out] at p0 p1 p2
                  clear hgf hl6 he
                  have hs1 : (0 : Int) ≤ (j : Int) + 1 := by omega
                  have hs5 : (j : Int) ≤ (j : Int) + 1 := by omega
                  have hs3 : ((j : Int) + 1).toNat = j + 1 := by omega
                  have hs4 : IntKind.i64.wrap ((j : Int) + 1) = (j : Int) + 1 := IntWalk.i64_in _ (by omega)
                  by_cases hcc : c5 = j + 1
                  · subst hcc
                    go_region_law ((
                      refine step_copy_zero (D := some ⟨g, 0, none⟩) (dLen := 0) (dCap := 0) (A := some ⟨g, j * 3, none⟩) (sLen := 1) (sCap := 1) rfl (.tmp 105) (.tmp 108) rfl rgs_t ?_ ?_ rfl ?_
                      · go_simp
                      · go_simp))
                    all_goals
                      clear hs1 hs3 hs4 hs5
                      go_wp2
                      refine ⟨⟨j + 1, by omega, by go_num, ?_, ?_⟩, by simp only [intOf]; omega⟩
                      · rw [HI.out]
                        have h := own_set3 HO5.out HL5.out.symm (show j < j + 1 by omega) x
                        have e2 := ins_end L z0 x
                        rw [HLl.out] at e2
                        rw [← e2]
                        exact h.mod (C := fun _ => False) (by (repeat' (first | exact Mod.refl _ _ | assumption | refine Mod.alloc ?_ _ | refine Mod.drew ?_ | refine Mod.drewN ?_ _ | refine Mod.setCell ?_ (by first | exact Or.inl rfl | (right; simp; done) | (right; simp; omega) | (left; simp; done)) _))) (fun b _ => id)
                      · have hm3 := ((M5.setCell (p := ⟨g, j * 3, none⟩) (.inr hgb) (.int .i32 x.lo)).setCell (p := ⟨g, j * 3 + 1, none⟩) (.inr hgb) (.int .i32 x.hi)).setCell (p := ⟨g, j * 3 + 2, none⟩) (.inr hgb) (.int .i64 x.v)
                        first | exact hm3 | exact hm3.drew
                  · go_region_law ((
                      refine step_copy_zero (D := some ⟨g, (j + 1) * 3, none⟩) (dLen := 0) (dCap := c5 - (j + 1)) (A := some ⟨g, j * 3, none⟩) (sLen := 1) (sCap := c5 - j) rfl (.tmp 105) (.tmp 108) rfl rgs_t ?_ ?_ rfl ?_
                      · go_simp
                      · go_simp))
                    all_goals
                      clear hs1 hs3 hs4 hs5
                      go_wp2
                      refine ⟨⟨j + 1, by omega, by go_num, ?_, ?_⟩, by simp only [intOf]; omega⟩
                      · rw [HI.out]
                        have h := own_set3 HO5.out HL5.out.symm (show j < j + 1 by omega) x
                        have e2 := ins_end L z0 x
                        rw [HLl.out] at e2
                        rw [← e2]
                        exact h.mod (C := fun _ => False) (by (repeat' (first | exact Mod.refl _ _ | assumption | refine Mod.alloc ?_ _ | refine Mod.drew ?_ | refine Mod.drewN ?_ _ | refine Mod.setCell ?_ (by first | exact Or.inl rfl | (right; simp; done) | (right; simp; omega) | (left; simp; done)) _))) (fun b _ => id)
                      · have hm3 := ((M5.setCell (p := ⟨g, j * 3, none⟩) (.inr hgb) (.int .i32 x.lo)).setCell (p := ⟨g, j * 3 + 1, none⟩) (.inr hgb) (.int .i32 x.hi)).setCell (p := ⟨g, j * 3 + 2, none⟩) (.inr hgb) (.int .i64 x.v)
                        first | exact hm3 | exact hm3.drew
            · obtain rfl : k = n := by omega
              have htk : xs.take k = xs := List.take_of_length_le (by have := HN.out; omega)
              have HG' := Lib.hid (show Good L by rw [HL.out, htk]; exact (good_perm (sortR_perm xs)).2 HG.out)
              have HAs := Lib.hid (show Asc L by rw [HL.out, htk]; exact asc_of ((good_perm (sortR_perm xs)).2 HG.out) (sortR_up xs) ((apart_perm (sortR_perm xs)).2 HP.out))
              have HFL := Lib.hid (show ∀ x ∈ L, FitR x from fun x hx => by rw [HL.out, htk] at hx; exact HF.out x ((sortR_perm xs).mem_iff.1 hx))
              have HEr := Lib.hid (errR_zero.2 ⟨HG.out, HP.out⟩)
              have HMp := Lib.hid (show joinR L = mapR xs by rw [HL.out, htk]; unfold mapR; rw [if_pos HEr.out])
              clear htk
              go_wp2
              go_loopw [10, 11] (fun v i wr => ∃ i' : Nat, i' ≤ k ∧ i = .int .i64 i' ∧ OwnS wo.heap.size 24 3 Rg.cs wr v (joinR (L.take i')) ∧ Mod (fun _ => False) wo wr) (fun _ i _ => k - (intOf i).toNat)
              case atStart => exact ⟨0, Nat.zero_le _, rfl, OwnS.nil _ _ _ _ _, Mod.refl _ _⟩
              case round =>
                obtain ⟨i, hi, rfl, hown, hm⟩ := hrel
                obtain ⟨acc, hacc⟩ : ∃ acc, acc = joinR (L.take i) := ⟨_, rfl⟩
                rw [← hacc] at hown
                have HAcc := Lib.hid hacc
                obtain ⟨A5, c5, rfl, hr5, hfr5, hml5⟩ := OwnS.rd hown Rg.cs_len
                have hlen : acc.length ≤ i := by rw [hacc]; exact Nat.le_trans (joinR_le _) (by simp; omega)
                have HM5 := Lib.hid hm
                have HFr5 := Lib.hid hfr5
                clear hm hfr5 hacc
                by_cases hik : i < k
                · have hix : i < L.length := by rw [HLl.out]; exact hik
                  obtain ⟨b', off, rfl, hb'l, k0, k1, k2⟩ := rd3 (HR.out.mod HM5.out (fun b hb => ⟨(HFr.out b hb).2, id⟩)) hix
                  have hfx := HFL.out L[i] (List.getElem_mem _)
                  have hgx := HG'.out L[i] (List.getElem_mem _)
                  obtain ⟨x, hx⟩ : ∃ x, x = L[i] := ⟨_, rfl⟩
                  rw [← hx] at k0 k1 k2 hfx hgx
                  have HT := Lib.hid (show joinR (L.take (i + 1)) = joinS acc x by rw [List.take_succ_eq_append_getElem hix, joinR_snoc, ← HAcc.out, hx])
                  unfold FitR at hfx
                  obtain ⟨f1, f2, f3, f4⟩ := hfx
                  obtain ⟨g1, g2⟩ := hgx
                  clear hx
                  rcases snoc_cases acc with rfl | ⟨ini, y, rfl⟩
                  · have HJ := Lib.hid (show joinR (L.take (i + 1)) = [] ++ [x] by rw [HT.out]; rfl)
                    have HOw := Lib.hid hown
                    clear hown hr5 hlen
                    go_wp2
                    go_quiet (fail)
                    go_wp2_with (at_builtin
                                 refine wpList_app (base := wo.heap.size) (xs := []) (ys := [x]) (D := fun _ => True) (v := .slice A5 0 c5) rfl (.tmp 166) (.tmp 171) rfl rgs_t Rg.cs_len Rg.cs_one rfl (HOw.out.mod (C := fun _ => False) (by (repeat' (first | exact Mod.refl _ _ | assumption | refine Mod.alloc ?_ _ | refine Mod.drew ?_ | refine Mod.drewN ?_ _ | refine Mod.setCell ?_ (by first | exact Or.inl rfl | (right; simp; done) | (right; simp; omega) | (left; simp; done)) _))) (fun b _ => id)) 1 rfl rfl (rd_oneT (g := wr.heap.size) (c := #[.int .i32 x.lo, .int .i32 x.hi, .int .i64 x.v]) (t := 24) (fr := (0, 0)) (by (repeat' (first | exact hp_new _ _ | exact hp_at _ _ (by simp; done) | refine hp_alloc ?_ _ | refine hp_drew ?_ | refine hp_drewN ?_ _ | apply hp_set | refine hp_far ?_ (by first | (simp; omega) | (simp; done)) _))) rfl) ?_ ?_ ?_ ?_
                                 · simp [maxLen]
                                 · simp
                                 · have := HM5.out.size; simp; omega
                                 intro v6 w6 hown6 hm6 _
                                 obtain ⟨A6, c6, rfl, -, -, -⟩ := OwnS.rd hown6 Rg.cs_len
                                 have M6 : Mod (fun _ => False) wo w6 := (show Mod (fun _ => False) wo _ by have := HM5.out; (repeat' (first | exact Mod.refl _ _ | assumption | refine Mod.alloc ?_ _ | refine Mod.drew ?_ | refine Mod.drewN ?_ _ | refine Mod.setCell ?_ (by first | exact Or.inl rfl | (right; simp; done) | (right; simp; omega) | (left; simp; done)) _))).trans hm6 (fun b hb => .inr (HFr5.out b hb).1)
                                 have HO6 := Lib.hid hown6
                                 clear hown6 hm6)
                    refine ⟨⟨i + 1, by omega, by go_num, by rw [HJ.out]; exact HO6.out, M6⟩, by simp only [intOf]; omega⟩
                  · obtain ⟨q, hq⟩ : ∃ q, q = ini.length := ⟨_, rfl⟩
                    have hq1 : (ini ++ [y]).length = q + 1 := by simp [hq]
                    rw [hq1] at hown hlen ⊢
                    obtain ⟨g, c4', hv, hgb, hgl, hgf⟩ := hown.at_ (by simp)
                    rw [hq1] at hv
                    injection hv with e1 e2 e3
                    subst e1 e3
                    have j0 : wr.cell? ⟨g, q * 3, none⟩ = some (.int .i32 y.lo) := hown.cell Rg.cs_len (by rw [hq1]) (k := q) (j := 0) (by simp [hq]) (by simp [hq, Rg.cs])
                    have j1 : wr.cell? ⟨g, q * 3 + 1, none⟩ = some (.int .i32 y.hi) := hown.cell Rg.cs_len (by rw [hq1]) (k := q) (j := 1) (by simp [hq]) (by simp [hq, Rg.cs])
                    have j2 : wr.cell? ⟨g, q * 3 + 2, none⟩ = some (.int .i64 y.v) := hown.cell Rg.cs_len (by rw [hq1]) (k := q) (j := 2) (by simp [hq]) (by simp [hq, Rg.cs])
                    have jf := hgf (q * 3 + 1)
                    have HQ := Lib.hid hq
                    have HQ1 := Lib.hid hq1
                    have HOw := Lib.hid hown
                    have HJ0 := Lib.hid (show joinR (L.take (i + 1)) = joinS (ini ++ [y]) x from HT.out)
                    clear hown hr5 hgf hq hq1
                    have hd0 : decide ((0 : Int) < (q : Int) + 1) = true := by rw [decide_eq_true_iff]; omega
                    have hd1 : (q : Int) + 1 - 1 = (q : Int) := by omega
                    have hd2 : IntKind.i64.wrap ((q : Int) + 1 - 1) = (q : Int) := by rw [IntWalk.i64_in _ (by omega)]; omega
                    have HL6 := Lib.hid (show (ini ++ [y] ++ [x]).length = q + 2 by rw [List.length_append, HQ1.out]; rfl)
                    by_cases hj1 : y.hi = x.lo - 1
                    · have hb1 : (y.hi == x.lo - 1) = true := by simpa using hj1
                      by_cases hj2 : y.v = x.v
                      · have hb2 : (y.v == x.v) = true := by simpa using hj2
                        have HJ := Lib.hid (show joinR (L.take (i + 1)) = ini ++ [⟨y.lo, x.hi, y.v⟩] by rw [HJ0.out, joinS_snoc, if_pos ⟨hj1, hj2⟩])
                        clear hj1 hj2
                        go_wp2
                        go_quiet (fail)
                        go_wp2
                        refine ⟨⟨i + 1, by omega, by go_num, ?_, ?_⟩, by simp only [intOf]; omega⟩
                        · rw [HJ.out]
                          have h := OwnS.set1 Rg.cs_len HOw.out (k := q) (j := 1) HQ1.out.symm (by omega) (by omega) (u := .int .i32 x.hi) (y := ⟨y.lo, x.hi, y.v⟩) (by simp [HQ.out, Rg.cs])
                          rw [List.set_append_right _ _ (by rw [HQ.out]; exact Nat.le_refl _), HQ.out, Nat.sub_self, List.set_cons_zero, ← HQ.out] at h
                          exact h.keep ⟨rfl, rfl, rfl, Nat.le_refl _, fun b _ => rfl⟩
                        · have h := HM5.out.setCell (p := ⟨g, q * 3 + 1, none⟩) (.inr hgb) (.int .i32 x.hi)
                          exact ⟨h.os, h.tape, h.output, h.size, h.block⟩
                      · have hb2 : (y.v == x.v) = false := by simpa using hj2
                        have HJ := Lib.hid (show joinR (L.take (i + 1)) = ini ++ [y] ++ [x] by rw [HJ0.out, joinS_snoc, if_neg (fun h => hj2 h.2)])
                        clear hj1 hj2
                        go_wp2
                        go_quiet (fail)
                        go_wp2_with (at_builtin
                                     refine wpList_app (base := wo.heap.size) (xs := ini ++ [y]) (ys := [x]) (D := fun _ => True) (v := .slice (some ⟨g, 0, none⟩) (q + 1) c5) rfl (.tmp 166) (.tmp 171) rfl rgs_t Rg.cs_len Rg.cs_one rfl (HOw.out.mod (C := fun _ => False) (by (repeat' (first | exact Mod.refl _ _ | assumption | refine Mod.alloc ?_ _ | refine Mod.drew ?_ | refine Mod.drewN ?_ _ | refine Mod.setCell ?_ (by first | exact Or.inl rfl | (right; simp; done) | (right; simp; omega) | (left; simp; done)) _))) (fun b _ => id)) 1 rfl rfl (rd_oneT (g := wr.heap.size) (c := #[.int .i32 x.lo, .int .i32 x.hi, .int .i64 x.v]) (t := 24) (fr := (0, 0)) (by (repeat' (first | exact hp_new _ _ | exact hp_at _ _ (by simp; done) | refine hp_alloc ?_ _ | refine hp_drew ?_ | refine hp_drewN ?_ _ | apply hp_set | refine hp_far ?_ (by first | (simp; omega) | (simp; done)) _))) rfl) ?_ ?_ ?_ ?_
                                     · rw [HQ1.out]; simp [maxLen]; omega
                                     · rw [HQ1.out]; simp; omega
                                     · have := HM5.out.size; simp; omega
                                     intro v6 w6 hown6 hm6 _
                                     obtain ⟨A6, c6, hv6, -, -, -⟩ := OwnS.rd hown6 Rg.cs_len
                                     rw [HL6.out] at hv6
                                     subst hv6
                                     have M6 : Mod (fun _ => False) wo w6 := (show Mod (fun _ => False) wo _ by have := HM5.out; (repeat' (first | exact Mod.refl _ _ | assumption | refine Mod.alloc ?_ _ | refine Mod.drew ?_ | refine Mod.drewN ?_ _ | refine Mod.setCell ?_ (by first | exact Or.inl rfl | (right; simp; done) | (right; simp; omega) | (left; simp; done)) _))).trans hm6 (fun b hb => .inr (HFr5.out b hb).1)
                                     have HO6 := Lib.hid hown6
                                     clear hown6 hm6)
                        refine ⟨⟨i + 1, by omega, by go_num, by rw [HJ.out]; exact HO6.out, M6⟩, by simp only [intOf]; omega⟩
                    · have hb1 : (y.hi == x.lo - 1) = false := by simpa using hj1
                      have HJ := Lib.hid (show joinR (L.take (i + 1)) = ini ++ [y] ++ [x] by rw [HJ0.out, joinS_snoc, if_neg (fun h => hj1 h.1)])
                      clear hj1
                      go_wp2
                      go_quiet (fail)
                      go_wp2_with (at_builtin
                                   refine wpList_app (base := wo.heap.size) (xs := ini ++ [y]) (ys := [x]) (D := fun _ => True) (v := .slice (some ⟨g, 0, none⟩) (q + 1) c5) rfl (.tmp 166) (.tmp 171) rfl rgs_t Rg.cs_len Rg.cs_one rfl (HOw.out.mod (C := fun _ => False) (by (repeat' (first | exact Mod.refl _ _ | assumption | refine Mod.alloc ?_ _ | refine Mod.drew ?_ | refine Mod.drewN ?_ _ | refine Mod.setCell ?_ (by first | exact Or.inl rfl | (right; simp; done) | (right; simp; omega) | (left; simp; done)) _))) (fun b _ => id)) 1 rfl rfl (rd_oneT (g := wr.heap.size) (c := #[.int .i32 x.lo, .int .i32 x.hi, .int .i64 x.v]) (t := 24) (fr := (0, 0)) (by (repeat' (first | exact hp_new _ _ | exact hp_at _ _ (by simp; done) | refine hp_alloc ?_ _ | refine hp_drew ?_ | refine hp_drewN ?_ _ | apply hp_set | refine hp_far ?_ (by first | (simp; omega) | (simp; done)) _))) rfl) ?_ ?_ ?_ ?_
                                   · rw [HQ1.out]; simp [maxLen]; omega
                                   · rw [HQ1.out]; simp; omega
                                   · have := HM5.out.size; simp; omega
                                   intro v6 w6 hown6 hm6 _
                                   obtain ⟨A6, c6, hv6, -, -, -⟩ := OwnS.rd hown6 Rg.cs_len
                                   rw [HL6.out] at hv6
                                   subst hv6
                                   have M6 : Mod (fun _ => False) wo w6 := (show Mod (fun _ => False) wo _ by have := HM5.out; (repeat' (first | exact Mod.refl _ _ | assumption | refine Mod.alloc ?_ _ | refine Mod.drew ?_ | refine Mod.drewN ?_ _ | refine Mod.setCell ?_ (by first | exact Or.inl rfl | (right; simp; done) | (right; simp; omega) | (left; simp; done)) _))).trans hm6 (fun b hb => .inr (HFr5.out b hb).1)
                                   have HO6 := Lib.hid hown6
                                   clear hown6 hm6)
                      refine ⟨⟨i + 1, by omega, by go_num, by rw [HJ.out]; exact HO6.out, M6⟩, by simp only [intOf]; omega⟩
                · have HO6 := Lib.hid (show OwnS w.heap.size 24 3 Rg.cs wr (.slice A5 acc.length c5) (mapR xs) by
                    rw [← HMp.out, ← List.take_of_length_le (l := L) (i := i) (by rw [HLl.out]; omega), ← HAcc.out]
                    exact hown.less HM.out.size)
                  clear hown hr5
                  go_wp2
                  go_ret2
                  exact ⟨_, by rw [HEr.out]; rfl, HO6.out, HM.out.trans' HM5.out⟩
end Go.Proofs.Ytaohdhblnjoihaa
