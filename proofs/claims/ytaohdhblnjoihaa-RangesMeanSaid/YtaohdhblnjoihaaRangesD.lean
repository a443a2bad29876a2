/-
  The package ranges: Of.
-/
import Derived.Test.YtaohdhblnjoihaaRangesC
namespace Go.Proofs.Ytaohdhblnjoihaa
open Go.RowKit Go.Shelf
attribute [local go_sem] Oper.semAt_some

theorem joinR_le (l : List Rg) : (joinR l).length ≤ l.length := by
  have : ∀ (l acc : List Rg), (l.foldl joinS acc).length ≤ acc.length + l.length := by
    intro l
    induction l with
    | nil => intro acc; simp
    | cons x l ih =>
      intro acc
      have h1 : (joinS acc x).length ≤ acc.length + 1 := by
        rcases snoc_cases acc with rfl | ⟨i, y, rfl⟩
        · simp [joinS_nil]
        · rw [joinS_snoc]; split <;> simp
      have := ih (joinS acc x)
      simp only [List.foldl_cons, List.length_cons]
      omega
  have := this l []
  simpa [joinR] using this
theorem wp_as {P : Program} {c : Code} {Q : Exit → Act → World → Prop} {a : Act} {w : World} (Φ : World → Prop) (hΦ : Φ w) (h : ∀ W, Φ W → c.wp P Q a W) : c.wp P Q a w := h w hΦ
/-- What Of makes. -/
def OfEnds (w : World) (xs : List Rg) (e : Ending) (w' : World) : Prop :=
  Mod (fun _ => False) w w' ∧ ((errR xs ≠ 0 ∧ e = .returned (.tuple #[.pointer none, .int .i64 (errR xs)])) ∨
    (errR xs = 0 ∧ ∃ b, w.heap.size ≤ b ∧ e = .returned (.tuple #[.pointer (some ⟨b, 0, none⟩), .int .i64 0]) ∧ MapAt w' b (mapR xs)))

set_option maxRecDepth 100000 in
set_option maxHeartbeats 4000000 in
theorem of_any (A : Option Addr) (c : Nat) (xs : List Rg) (w : World) (hA : Rd (fun b => b < w.heap.size) w 3 Rg.cs A xs) (hl : xs.length ≤ 1000000) (hf : ∀ x ∈ xs, FitR x) :
    Calls Try.prog 8 #[.slice A xs.length c] w (OfEnds w xs) := by
  have HC := Lib.hid (rcontains_any A c xs w hA (by simp [maxLen]; omega))
  have HA := Lib.hid hA
  have HF := Lib.hid hf
  obtain ⟨n, hn⟩ : ∃ n, n = xs.length := ⟨_, rfl⟩
  cases hbad : xs.any badR with
  | true =>
    rw [hbad] at HC
    have HE := Lib.hid (show errR xs = 2 by unfold errR; rw [if_pos hbad])
    rw [← hn] at HC ⊢
    clear hn hA hf hbad hl
    go_enter Try.func8, Try.ntmps8
    go_wp2_with (go_at_call 19; refine HC.out.mono ?_; rintro e w' ⟨rfl, hm⟩)
    go_ret2
    exact ⟨hm, .inl ⟨by rw [HE.out]; decide, by rw [HE.out]; rfl⟩⟩
  | false =>
    rw [hbad] at HC
    have HG := Lib.hid ((good_iff xs).1 hbad)
    have HCl := Lib.hid (fun W (hW : Mod (fun _ => False) w W) => rclone_any (fun b => b < w.heap.size) A c xs W (hA.mod hW fun b hb => ⟨hb, id⟩) (by omega))
    rw [← hn] at HC HCl hl ⊢
    have HN := Lib.hid hn
    clear hn hA hf hbad
    go_enter Try.func8, Try.ntmps8
    go_wp2_with (first
      | (go_at_call 19; refine HC.out.mono ?_; rintro e w1 ⟨rfl, hm1⟩)
      | (go_at_call 21; refine (HCl.out _ hm1).mono ?_; rintro e w2 ⟨A2, c2, rfl, hown2, hm2⟩
         have M2 := hm1.trans' hm2
         have hfr2 := hown2.fresh
         have HO2 := Lib.hid hown2
         clear hm2 hown2)
      | (go_at_call 22; refine (rsort_any _ A2 n c2 xs _ HO2.out HN.out (by omega)).mono ?_; rintro e w3 ⟨rfl, s, hp, hup, hr3, hm3⟩
         have M3 := M2.trans hm3 (fun b hb => .inr (by have := (hfr2 b hb).1; have := hm1.size; omega))
         have HP := Lib.hid hp
         have HUp := Lib.hid hup
         have hs := hp.length_eq
         have HR3 := Lib.hid ((hr3.lt Rg.cs_len (by decide)).mono (D' := fun b => b < w3.heap.size) fun b hb => hb.2)
         clear hm3 hp hup hr3)
      | fail)
    rw [← HN.out] at hs
    have HS := Lib.hid hs
    have HGs := Lib.hid ((good_perm HP.out).2 HG.out)
    have HFs := Lib.hid (show ∀ x ∈ s, FitR x from fun x hx => HF.out x (HP.out.mem_iff.1 hx))
    clear hs
    go_loopw [19] (fun i wr => ∃ (k : Nat) (mv : Value), k ≤ n ∧ i = .int .i64 k ∧ wr.heap[w3.heap.size]? = some (.cells #[mv, .bool true] 48 (0, 0)) ∧
      OwnS (w3.heap.size + 1) 24 3 Rg.cs wr mv (joinR (s.take k)) ∧ Mod (fun _ => False) w3 wr ∧ Asc (s.take k)) (fun i _ => n - (intOf i).toNat)
    case atStart => exact ⟨0, .slice none 0 0, Nat.zero_le _, rfl, hp_new _ _, OwnS.nil _ _ _ _ _, by (repeat' (first | exact Mod.refl _ _ | assumption | refine Mod.alloc ?_ _ | refine Mod.drew ?_ | refine Mod.drewN ?_ _ | refine Mod.setCell ?_ (by first | exact Or.inl rfl | (right; simp; done) | (right; simp; omega) | (left; simp; done)) _)), asc_zero s⟩
    case round =>
      obtain ⟨k, mv, hk, rfl, hb, hown, hm, hasc⟩ := hrel
      obtain ⟨acc, hacc⟩ : ∃ acc, acc = joinR (s.take k) := ⟨_, rfl⟩
      rw [← hacc] at hown
      have HAcc := Lib.hid hacc
      obtain ⟨A4, c4, rfl, hr4, hfr4, hml4⟩ := OwnS.rd hown Rg.cs_len
      have hlen : acc.length ≤ k := by rw [hacc]; exact Nat.le_trans (joinR_le _) (by simp; omega)
      have hblt := hp_lt hb
      have HM := Lib.hid hm
      have HAsc := Lib.hid hasc
      have HFr := Lib.hid hfr4
      clear hm hasc hfr4 hacc
      by_cases hlt : k < n
      · have hkx : k < s.length := by rw [HS.out]; exact hlt
        obtain ⟨b', off, rfl, hb'l, k0, k1, k2⟩ := rd3 (HR3.out.mod HM.out (fun b hb => ⟨hb, id⟩)) hkx
        have hfx := HFs.out s[k] (List.getElem_mem _)
        have hgx := HGs.out s[k] (List.getElem_mem _)
        obtain ⟨x, hx⟩ : ∃ x, x = s[k] := ⟨_, rfl⟩
        rw [← hx] at k0 k1 k2 hfx hgx
        have HX := Lib.hid hx
        have HT := Lib.hid (show s.take (k + 1) = s.take k ++ [x] by rw [hx]; exact List.take_succ_eq_append_getElem hkx)
        unfold FitR at hfx
        obtain ⟨f1, f2, f3, f4⟩ := hfx
        obtain ⟨g1, g2⟩ := hgx
        clear hx
        rcases snoc_cases acc with rfl | ⟨ini, y, rfl⟩
        · have hk0 : k = 0 := by
            rcases Nat.eq_zero_or_pos k with h | h
            · exact h
            · exfalso
              have e := HAcc.out
              obtain ⟨k', rfl⟩ : ∃ k', k = k' + 1 := ⟨k - 1, by omega⟩
              rw [List.take_succ_eq_append_getElem (show k' < s.length by omega)] at e
              obtain ⟨i, y, h2, _⟩ := joinR_last (s.take k') s[k']
              rw [h2] at e
              simp at e
          have HAsc1 := Lib.hid (show Asc (s.take (k + 1)) by rw [hk0]; exact asc_one s)
          have HJ := Lib.hid (show joinR (s.take (k + 1)) = [] ++ [x] by rw [HT.out, joinR_snoc, ← HAcc.out]; rfl)
          have m0 := hp_cell hb 0
          have HB := Lib.hid hb
          have HOw := Lib.hid hown
          clear hb hown hk0 hr4 hlen
          go_wp2
          go_quiet (fail)
          go_wp2
          go_quiet (fail)
          go_wp2
          refine wp_as (fun W => W.heap[w3.heap.size]? = some (.cells #[.slice A4 0 c4, .bool true] 48 (0, 0)) ∧ W.heap[wr.heap.size]? = some (.cells #[.int .i32 x.lo, .int .i32 x.hi, .int .i64 x.v] 24 (0, 0)) ∧ OwnS (w3.heap.size + 1) 24 3 Rg.cs W (.slice A4 0 c4) [] ∧ Mod (fun _ => False) wr W)
            ⟨by (repeat' (first | exact HB.out | exact hp_new _ _ | refine hp_alloc ?_ _ | refine hp_drew ?_ | refine hp_drewN ?_ _ | apply hp_set | refine hp_far ?_ (by first | (simp; omega) | (simp; done)) _)), by (repeat' (first | exact hp_new _ _ | exact hp_at _ _ (by simp; done) | refine hp_alloc ?_ _ | refine hp_drew ?_ | refine hp_drewN ?_ _ | apply hp_set | refine hp_far ?_ (by first | (simp; omega) | (simp; done)) _)), HOw.out.mod (C := fun _ => False) (by (repeat' (first | exact Mod.refl _ _ | assumption | refine Mod.alloc ?_ _ | refine Mod.drew ?_ | refine Mod.drewN ?_ _ | refine Mod.setCell ?_ (by first | exact Or.inl rfl | (right; simp; done) | (right; simp; omega) | (left; simp; done)) _))) (fun b _ => id), by (repeat' (first | exact Mod.refl _ _ | assumption | refine Mod.alloc ?_ _ | refine Mod.drew ?_ | refine Mod.drewN ?_ _ | refine Mod.setCell ?_ (by first | exact Or.inl rfl | (right; simp; done) | (right; simp; omega) | (left; simp; done)) _))⟩ ?_
          rintro W1 ⟨hb1, hx1, ho1, hm1'⟩
          have z0 := hp_cell hb1 0
          have zf := hp_free hb1 0
          have y0 := hp_cell hx1 0
          have y1 := hp_cell hx1 1
          have y2 := hp_cell hx1 2
          have hz1 := hp_lt hb1
          have hz2 := hp_lt hx1
          have HB1 := Lib.hid hb1
          have HM1 := Lib.hid hm1'
          have HO1 := Lib.hid ho1
          clear hb1 hx1 ho1 hm1' HB HOw m0
          go_region_law? ((
            refine step_app (base := w3.heap.size + 1) (xs := []) (ys := [x]) (D := fun _ => True) (v := .slice A4 0 c4) rfl (.tmp 33) (.tmp 35) rfl rgs_t Rg.cs_len Rg.cs_one rfl (HO1.out.mod (C := fun _ => False) (by (repeat' (first | exact Mod.refl _ _ | assumption | refine Mod.alloc ?_ _ | refine Mod.drew ?_ | refine Mod.drewN ?_ _ | refine Mod.setCell ?_ (by first | exact Or.inl rfl | (right; simp; done) | (right; simp; omega) | (left; simp; done)) _))) (fun b _ => id)) 1 rfl rfl (rd_oneT (g := W1.heap.size) (c := #[.int .i32 x.lo, .int .i32 x.hi, .int .i64 x.v]) (t := 24) (fr := (0, 0)) (by (repeat' (first | exact hp_new _ _ | exact hp_at _ _ (by simp; done) | refine hp_alloc ?_ _ | refine hp_drew ?_ | refine hp_drewN ?_ _ | apply hp_set | refine hp_far ?_ (by first | (simp; omega) | (simp; done)) _))) rfl) ?_ ?_ ?_ ?_
            · simp [maxLen]
            · simp
            · have := HM1.out.size; simp; omega
            intro v' w' hown' hm' hat'
            obtain ⟨A5, c5, rfl, hr5, hf5, -⟩ := OwnS.rd hown' Rg.cs_len
            have hb2 : w'.heap[w3.heap.size]? = some (.cells #[.slice A4 0 c4, .bool true] 48 (0, 0)) := hp_mod (by (repeat' (first | exact HB1.out | exact hp_new _ _ | refine hp_alloc ?_ _ | refine hp_drew ?_ | refine hp_drewN ?_ _ | apply hp_set | refine hp_far ?_ (by first | (simp; omega) | (simp; done)) _))) hm' (fun h => by have := (HFr.out _ h).1; omega)
            have z2 := hp_cell hb2 0
            have zf2 := hp_free hb2 0
            have HB2 := Lib.hid hb2
            have HM2 := Lib.hid hm'
            clear hb2 hm'))
          all_goals
            go_wp2
            refine ⟨⟨k + 1, .slice A5 1 c5, by omega, by go_num, hp_eq (hp_set HB2.out 0 _) rfl, ?_, ?_, HAsc1.out⟩, by simp only [intOf]; omega⟩
            · rw [HJ.out]
              exact hown'.keep ⟨rfl, rfl, rfl, by simp [World.setCell], fun b hb => Below.heap_setCell _ _ _ _ (by have := (hf5 b hb).1; simp; omega)⟩
            · have M1 := HM.out.trans' HM1.out
              exact ((show Mod (fun _ => False) w3 _ by (repeat' (first | exact Mod.refl _ _ | assumption | refine Mod.alloc ?_ _ | refine Mod.drew ?_ | refine Mod.drewN ?_ _ | refine Mod.setCell ?_ (by first | exact Or.inl rfl | (right; simp; done) | (right; simp; omega) | (left; simp; done)) _))).trans HM2.out (fun b hb => .inr (by have := (HFr.out b hb).1; omega))).setCell (.inr (Nat.le_refl _)) _
        · obtain ⟨q, hq⟩ : ∃ q, q = ini.length := ⟨_, rfl⟩
          have hq1 : (ini ++ [y]).length = q + 1 := by simp [hq]
          rw [hq1] at hb hown hlen
          obtain ⟨g, c4', hv, hgb, hgl, hgf⟩ := hown.at_ (by simp)
          rw [hq1] at hv
          injection hv with e1 e2 e3
          subst e1 e3
          have j0 : wr.cell? ⟨g, q * 3, none⟩ = some (.int .i32 y.lo) := hown.cell Rg.cs_len (by rw [hq1]) (k := q) (j := 0) (by simp [hq]) (by simp [hq, Rg.cs])
          have j1 : wr.cell? ⟨g, q * 3 + 1, none⟩ = some (.int .i32 y.hi) := hown.cell Rg.cs_len (by rw [hq1]) (k := q) (j := 1) (by simp [hq]) (by simp [hq, Rg.cs])
          have j2 : wr.cell? ⟨g, q * 3 + 2, none⟩ = some (.int .i64 y.v) := hown.cell Rg.cs_len (by rw [hq1]) (k := q) (j := 2) (by simp [hq]) (by simp [hq, Rg.cs])
          have jf := hgf (q * 3 + 1)
          have HQ := Lib.hid hq
          have HQ1 := Lib.hid hq1
          have m0 := hp_cell hb 0
          have HB := Lib.hid hb
          have HOw := Lib.hid hown
          clear hb hown hr4 hgf hq hq1
          have hkp : 0 < k := by
            rcases Nat.eq_zero_or_pos k with h | h
            · exfalso; have e := HAcc.out; rw [h] at e; simp [joinR] at e
            · exact h
          have hlast : y.hi = s[k - 1].hi := by
            have e := HAcc.out
            obtain ⟨i', y', h2, h3⟩ := joinR_last (s.take (k - 1)) s[k - 1]
            rw [← List.take_succ_eq_append_getElem (show k - 1 < s.length by omega), show k - 1 + 1 = k by omega, ← e] at h2
            have := (List.append_inj' h2 rfl).2
            simp at this
            rw [this, h3]
          by_cases hge : x.lo ≤ y.hi
          · have HE := Lib.hid (show errR xs = 9 by
              rcases errR_cases xs with ⟨h, h2⟩ | ⟨h, _⟩ | ⟨h, h2, h3⟩
              · rw [(good_iff xs).2 HG.out] at h2; cases h2
              · exact h
              · exfalso
                refine not_apart HGs.out HUp.out (k := k - 1) (by omega) ?_ ((apart_perm HP.out).2 h3)
                have e : s[k - 1 + 1]'(by omega) = s[k] := by congr 1; omega
                rw [e, ← HX.out, ← hlast]
                exact hge)
            clear hlast
            go_wp2
            go_quiet (fail)
            go_wp2
            go_ret2
            exact ⟨M3.trans' (by have := HM.out; (repeat' (first | exact Mod.refl _ _ | assumption | refine Mod.alloc ?_ _ | refine Mod.drew ?_ | refine Mod.drewN ?_ _ | refine Mod.setCell ?_ (by first | exact Or.inl rfl | (right; simp; done) | (right; simp; omega) | (left; simp; done)) _))), .inl ⟨by rw [HE.out]; decide, by rw [HE.out]; rfl⟩⟩
          · have HAsc1 := Lib.hid (show Asc (s.take (k + 1)) by
              have h := asc_step HGs.out (k := k - 1) (by omega) (by rw [show k - 1 + 1 = k by omega]; exact HAsc.out) (by
                have e : s[k - 1 + 1]'(by omega) = s[k] := by congr 1; omega
                rw [e, ← HX.out, ← hlast]
                omega)
              rwa [show k - 1 + 2 = k + 1 by omega] at h)
            clear hlast
            have HJ0 := Lib.hid (show joinR (s.take (k + 1)) = joinS (ini ++ [y]) x by rw [HT.out, joinR_snoc, ← HAcc.out])
            by_cases hj1 : y.hi = x.lo - 1
            · have hb1 : (y.hi == x.lo - 1) = true := by simpa using hj1
              by_cases hj2 : y.v = x.v
              · have hb2 : (y.v == x.v) = true := by simpa using hj2
                have HJ := Lib.hid (show joinR (s.take (k + 1)) = ini ++ [⟨y.lo, x.hi, y.v⟩] by rw [HJ0.out, joinS_snoc, if_pos ⟨hj1, hj2⟩])
                clear hj1 hj2
                go_wp2
                go_quiet (fail)
                go_wp2
                go_quiet (fail)
                go_wp2
                refine wp_as (fun W => W.heap[w3.heap.size]? = some (.cells #[.slice (some ⟨g, 0, none⟩) (q + 1) c4, .bool true] 48 (0, 0)) ∧ W.heap[wr.heap.size]? = some (.cells #[.int .i32 x.lo, .int .i32 x.hi, .int .i64 x.v] 24 (0, 0)) ∧ OwnS (w3.heap.size + 1) 24 3 Rg.cs W (.slice (some ⟨g, 0, none⟩) (q + 1) c4) (ini ++ [y]) ∧ Mod (fun _ => False) wr W)
                  ⟨by (repeat' (first | exact HB.out | exact hp_new _ _ | refine hp_alloc ?_ _ | refine hp_drew ?_ | refine hp_drewN ?_ _ | apply hp_set | refine hp_far ?_ (by first | (simp; omega) | (simp; done)) _)), by (repeat' (first | exact hp_new _ _ | exact hp_at _ _ (by simp; done) | refine hp_alloc ?_ _ | refine hp_drew ?_ | refine hp_drewN ?_ _ | apply hp_set | refine hp_far ?_ (by first | (simp; omega) | (simp; done)) _)), HOw.out.mod (C := fun _ => False) (by (repeat' (first | exact Mod.refl _ _ | assumption | refine Mod.alloc ?_ _ | refine Mod.drew ?_ | refine Mod.drewN ?_ _ | refine Mod.setCell ?_ (by first | exact Or.inl rfl | (right; simp; done) | (right; simp; omega) | (left; simp; done)) _))) (fun b _ => id), by (repeat' (first | exact Mod.refl _ _ | assumption | refine Mod.alloc ?_ _ | refine Mod.drew ?_ | refine Mod.drewN ?_ _ | refine Mod.setCell ?_ (by first | exact Or.inl rfl | (right; simp; done) | (right; simp; omega) | (left; simp; done)) _))⟩ ?_
                rintro W1 ⟨hb1', hx1, ho1, hm1'⟩
                have z0 := hp_cell hb1' 0
                have y0 := hp_cell hx1 0
                have y1 := hp_cell hx1 1
                have y2 := hp_cell hx1 2
                have v1 := (hm1'.cell (p := ⟨g, q * 3 + 1, none⟩) hgl id).trans j1
                have vf := (hm1'.frozen (p := ⟨g, q * 3 + 1, none⟩) hgl id).trans jf
                have HB1 := Lib.hid hb1'
                have HM1 := Lib.hid hm1'
                have HO1 := Lib.hid ho1
                clear hb1' hx1 ho1 hm1' HB HOw m0 j0 j1 j2 jf
                go_region
                all_goals
                  go_wp2
                  refine ⟨⟨k + 1, .slice (some ⟨g, 0, none⟩) (q + 1) c4, by omega, by go_num, ?_, ?_, ?_, HAsc1.out⟩, by simp only [intOf]; omega⟩
                  · exact hp_far (show _ = _ by (repeat' (first | exact HB1.out | exact hp_new _ _ | refine hp_alloc ?_ _ | refine hp_drew ?_ | refine hp_drewN ?_ _ | apply hp_set | refine hp_far ?_ (by first | (simp; omega) | (simp; done)) _))) (by show w3.heap.size ≠ g; omega) _
                  · rw [HJ.out]
                    have h := OwnS.set1 Rg.cs_len HO1.out (k := q) (j := 1) HQ1.out.symm (by omega) (by omega) (u := .int .i32 x.hi) (y := ⟨y.lo, x.hi, y.v⟩) (by simp [HQ.out, Rg.cs])
                    rw [List.set_append_right _ _ (by rw [HQ.out]; exact Nat.le_refl _), HQ.out, Nat.sub_self, List.set_cons_zero, ← HQ.out] at h
                    exact h
                  · have M1 := HM.out.trans' HM1.out
                    have h := M1.setCell (p := ⟨g, q * 3 + 1, none⟩) (.inr (by show w3.heap.size ≤ g; omega)) (.int .i32 x.hi)
                    first | exact h | exact h.drew | exact h.drewN _
              · have hb2 : (y.v == x.v) = false := by simpa using hj2
                have HJ := Lib.hid (show joinR (s.take (k + 1)) = ini ++ [y] ++ [x] by rw [HJ0.out, joinS_snoc, if_neg (fun h => hj2 h.2)])
                clear hj1 hj2
                go_wp2
                go_quiet (fail)
                go_wp2
                go_quiet (fail)
                go_wp2
                have HL5 := Lib.hid (show (ini ++ [y] ++ [x]).length = q + 2 by rw [List.length_append, HQ1.out]; rfl)
                refine wp_as (fun W => W.heap[w3.heap.size]? = some (.cells #[.slice (some ⟨g, 0, none⟩) (q + 1) c4, .bool true] 48 (0, 0)) ∧ W.heap[wr.heap.size]? = some (.cells #[.int .i32 x.lo, .int .i32 x.hi, .int .i64 x.v] 24 (0, 0)) ∧ OwnS (w3.heap.size + 1) 24 3 Rg.cs W (.slice (some ⟨g, 0, none⟩) (q + 1) c4) (ini ++ [y]) ∧ Mod (fun _ => False) wr W)
                  ⟨by (repeat' (first | exact HB.out | exact hp_new _ _ | refine hp_alloc ?_ _ | refine hp_drew ?_ | refine hp_drewN ?_ _ | apply hp_set | refine hp_far ?_ (by first | (simp; omega) | (simp; done)) _)), by (repeat' (first | exact hp_new _ _ | exact hp_at _ _ (by simp; done) | refine hp_alloc ?_ _ | refine hp_drew ?_ | refine hp_drewN ?_ _ | apply hp_set | refine hp_far ?_ (by first | (simp; omega) | (simp; done)) _)), HOw.out.mod (C := fun _ => False) (by (repeat' (first | exact Mod.refl _ _ | assumption | refine Mod.alloc ?_ _ | refine Mod.drew ?_ | refine Mod.drewN ?_ _ | refine Mod.setCell ?_ (by first | exact Or.inl rfl | (right; simp; done) | (right; simp; omega) | (left; simp; done)) _))) (fun b _ => id), by (repeat' (first | exact Mod.refl _ _ | assumption | refine Mod.alloc ?_ _ | refine Mod.drew ?_ | refine Mod.drewN ?_ _ | refine Mod.setCell ?_ (by first | exact Or.inl rfl | (right; simp; done) | (right; simp; omega) | (left; simp; done)) _))⟩ ?_
                rintro W1 ⟨hb1, hx1, ho1, hm1'⟩
                have z0 := hp_cell hb1 0
                have zf := hp_free hb1 0
                have y0 := hp_cell hx1 0
                have y1 := hp_cell hx1 1
                have y2 := hp_cell hx1 2
                have hz1 := hp_lt hb1
                have hz2 := hp_lt hx1
                have HB1 := Lib.hid hb1
                have HM1 := Lib.hid hm1'
                have HO1 := Lib.hid ho1
                clear hb1 hx1 ho1 hm1' HB HOw m0
                go_region_law? ((
                  refine step_app (base := w3.heap.size + 1) (xs := ini ++ [y]) (ys := [x]) (D := fun _ => True) (v := .slice (some ⟨g, 0, none⟩) (q + 1) c4) rfl (.tmp 33) (.tmp 35) rfl rgs_t Rg.cs_len Rg.cs_one rfl (HO1.out.mod (C := fun _ => False) (by (repeat' (first | exact Mod.refl _ _ | assumption | refine Mod.alloc ?_ _ | refine Mod.drew ?_ | refine Mod.drewN ?_ _ | refine Mod.setCell ?_ (by first | exact Or.inl rfl | (right; simp; done) | (right; simp; omega) | (left; simp; done)) _))) (fun b _ => id)) 1 rfl rfl (rd_oneT (g := W1.heap.size) (c := #[.int .i32 x.lo, .int .i32 x.hi, .int .i64 x.v]) (t := 24) (fr := (0, 0)) (by (repeat' (first | exact hp_new _ _ | exact hp_at _ _ (by simp; done) | refine hp_alloc ?_ _ | refine hp_drew ?_ | refine hp_drewN ?_ _ | apply hp_set | refine hp_far ?_ (by first | (simp; omega) | (simp; done)) _))) rfl) ?_ ?_ ?_ ?_
                  · rw [HQ1.out]; simp [maxLen]; omega
                  · rw [HQ1.out]; simp; omega
                  · have := HM1.out.size; simp; omega
                  intro v' w' hown' hm' hat'
                  obtain ⟨A5, c5, rfl, hr5, hf5, -⟩ := OwnS.rd hown' Rg.cs_len
                  have hl5 := HL5.out
                  rw [hl5] at hown' hat' hf5 ⊢
                  clear hl5
                  have hb2 : w'.heap[w3.heap.size]? = some (.cells #[.slice (some ⟨g, 0, none⟩) (q + 1) c4, .bool true] 48 (0, 0)) := hp_mod (by (repeat' (first | exact HB1.out | exact hp_new _ _ | refine hp_alloc ?_ _ | refine hp_drew ?_ | refine hp_drewN ?_ _ | apply hp_set | refine hp_far ?_ (by first | (simp; omega) | (simp; done)) _))) hm' (fun h => by have := (HFr.out _ h).1; omega)
                  have z2 := hp_cell hb2 0
                  have zf2 := hp_free hb2 0
                  have HB2 := Lib.hid hb2
                  have HM2 := Lib.hid hm'
                  clear hb2 hm'))
                all_goals
                  go_wp2
                  refine ⟨⟨k + 1, .slice A5 (q + 2) c5, by omega, by go_num, hp_eq (hp_set HB2.out 0 _) rfl, ?_, ?_, HAsc1.out⟩, by simp only [intOf]; omega⟩
                  · rw [HJ.out]
                    exact hown'.keep ⟨rfl, rfl, rfl, by simp [World.setCell], fun b hb => Below.heap_setCell _ _ _ _ (by have := (hf5 b hb).1; simp; omega)⟩
                  · have M1 := HM.out.trans' HM1.out
                    exact ((show Mod (fun _ => False) w3 _ by (repeat' (first | exact Mod.refl _ _ | assumption | refine Mod.alloc ?_ _ | refine Mod.drew ?_ | refine Mod.drewN ?_ _ | refine Mod.setCell ?_ (by first | exact Or.inl rfl | (right; simp; done) | (right; simp; omega) | (left; simp; done)) _))).trans HM2.out (fun b hb => .inr (by have := (HFr.out b hb).1; omega))).setCell (.inr (Nat.le_refl _)) _
            · have hb1 : (y.hi == x.lo - 1) = false := by simpa using hj1
              have HJ := Lib.hid (show joinR (s.take (k + 1)) = ini ++ [y] ++ [x] by rw [HJ0.out, joinS_snoc, if_neg (fun h => hj1 h.1)])
              clear hj1
              go_wp2
              go_quiet (fail)
              go_wp2
              go_quiet (fail)
              go_wp2
              have HL5 := Lib.hid (show (ini ++ [y] ++ [x]).length = q + 2 by rw [List.length_append, HQ1.out]; rfl)
              refine wp_as (fun W => W.heap[w3.heap.size]? = some (.cells #[.slice (some ⟨g, 0, none⟩) (q + 1) c4, .bool true] 48 (0, 0)) ∧ W.heap[wr.heap.size]? = some (.cells #[.int .i32 x.lo, .int .i32 x.hi, .int .i64 x.v] 24 (0, 0)) ∧ OwnS (w3.heap.size + 1) 24 3 Rg.cs W (.slice (some ⟨g, 0, none⟩) (q + 1) c4) (ini ++ [y]) ∧ Mod (fun _ => False) wr W)
                ⟨by (repeat' (first | exact HB.out | exact hp_new _ _ | refine hp_alloc ?_ _ | refine hp_drew ?_ | refine hp_drewN ?_ _ | apply hp_set | refine hp_far ?_ (by first | (simp; omega) | (simp; done)) _)), by (repeat' (first | exact hp_new _ _ | exact hp_at _ _ (by simp; done) | refine hp_alloc ?_ _ | refine hp_drew ?_ | refine hp_drewN ?_ _ | apply hp_set | refine hp_far ?_ (by first | (simp; omega) | (simp; done)) _)), HOw.out.mod (C := fun _ => False) (by (repeat' (first | exact Mod.refl _ _ | assumption | refine Mod.alloc ?_ _ | refine Mod.drew ?_ | refine Mod.drewN ?_ _ | refine Mod.setCell ?_ (by first | exact Or.inl rfl | (right; simp; done) | (right; simp; omega) | (left; simp; done)) _))) (fun b _ => id), by (repeat' (first | exact Mod.refl _ _ | assumption | refine Mod.alloc ?_ _ | refine Mod.drew ?_ | refine Mod.drewN ?_ _ | refine Mod.setCell ?_ (by first | exact Or.inl rfl | (right; simp; done) | (right; simp; omega) | (left; simp; done)) _))⟩ ?_
              rintro W1 ⟨hb1, hx1, ho1, hm1'⟩
              have z0 := hp_cell hb1 0
              have zf := hp_free hb1 0
              have y0 := hp_cell hx1 0
              have y1 := hp_cell hx1 1
              have y2 := hp_cell hx1 2
              have hz1 := hp_lt hb1
              have hz2 := hp_lt hx1
              have HB1 := Lib.hid hb1
              have HM1 := Lib.hid hm1'
              have HO1 := Lib.hid ho1
              clear hb1 hx1 ho1 hm1' HB HOw m0
              go_region_law? ((
                refine step_app (base := w3.heap.size + 1) (xs := ini ++ [y]) (ys := [x]) (D := fun _ => True) (v := .slice (some ⟨g, 0, none⟩) (q + 1) c4) rfl (.tmp 33) (.tmp 35) rfl rgs_t Rg.cs_len Rg.cs_one rfl (HO1.out.mod (C := fun _ => False) (by (repeat' (first | exact Mod.refl _ _ | assumption | refine Mod.alloc ?_ _ | refine Mod.drew ?_ | refine Mod.drewN ?_ _ | refine Mod.setCell ?_ (by first | exact Or.inl rfl | (right; simp; done) | (right; simp; omega) | (left; simp; done)) _))) (fun b _ => id)) 1 rfl rfl (rd_oneT (g := W1.heap.size) (c := #[.int .i32 x.lo, .int .i32 x.hi, .int .i64 x.v]) (t := 24) (fr := (0, 0)) (by (repeat' (first | exact hp_new _ _ | exact hp_at _ _ (by simp; done) | refine hp_alloc ?_ _ | refine hp_drew ?_ | refine hp_drewN ?_ _ | apply hp_set | refine hp_far ?_ (by first | (simp; omega) | (simp; done)) _))) rfl) ?_ ?_ ?_ ?_
                · rw [HQ1.out]; simp [maxLen]; omega
                · rw [HQ1.out]; simp; omega
                · have := HM1.out.size; simp; omega
                intro v' w' hown' hm' hat'
                obtain ⟨A5, c5, rfl, hr5, hf5, -⟩ := OwnS.rd hown' Rg.cs_len
                have hl5 := HL5.out
                rw [hl5] at hown' hat' hf5 ⊢
                clear hl5
                have hb2 : w'.heap[w3.heap.size]? = some (.cells #[.slice (some ⟨g, 0, none⟩) (q + 1) c4, .bool true] 48 (0, 0)) := hp_mod (by (repeat' (first | exact HB1.out | exact hp_new _ _ | refine hp_alloc ?_ _ | refine hp_drew ?_ | refine hp_drewN ?_ _ | apply hp_set | refine hp_far ?_ (by first | (simp; omega) | (simp; done)) _))) hm' (fun h => by have := (HFr.out _ h).1; omega)
                have z2 := hp_cell hb2 0
                have zf2 := hp_free hb2 0
                have HB2 := Lib.hid hb2
                have HM2 := Lib.hid hm'
                clear hb2 hm'))
              all_goals
                go_wp2
                refine ⟨⟨k + 1, .slice A5 (q + 2) c5, by omega, by go_num, hp_eq (hp_set HB2.out 0 _) rfl, ?_, ?_, HAsc1.out⟩, by simp only [intOf]; omega⟩
                · rw [HJ.out]
                  exact hown'.keep ⟨rfl, rfl, rfl, by simp [World.setCell], fun b hb => Below.heap_setCell _ _ _ _ (by have := (hf5 b hb).1; simp; omega)⟩
                · have M1 := HM.out.trans' HM1.out
                  exact ((show Mod (fun _ => False) w3 _ by (repeat' (first | exact Mod.refl _ _ | assumption | refine Mod.alloc ?_ _ | refine Mod.drew ?_ | refine Mod.drewN ?_ _ | refine Mod.setCell ?_ (by first | exact Or.inl rfl | (right; simp; done) | (right; simp; omega) | (left; simp; done)) _))).trans HM2.out (fun b hb => .inr (by have := (HFr.out b hb).1; omega))).setCell (.inr (Nat.le_refl _)) _
      · have hks : s.take k = s := List.take_of_length_le (by have := HS.out; omega)
        have HE := Lib.hid (join_sorted HP.out HG.out (by have h := HAsc.out; rwa [hks] at h))
        have HO := Lib.hid (show OwnS (w3.heap.size + 1) 24 3 Rg.cs wr (.slice A4 acc.length c4) (mapR xs) by rw [← HE.out.2, ← hks, ← HAcc.out]; exact hown)
        have HB := Lib.hid hb
        clear hb hown hr4 hks
        go_wp2
        go_ret2
        refine ⟨M3.trans' HM.out, .inr ⟨HE.out.1, _, M3.size, rfl, ?_⟩⟩
        obtain ⟨A6, c6, hv6, hr6, hf6, -⟩ := OwnS.rd HO.out Rg.cs_len
        refine ⟨A6, c6, by rw [← hv6]; exact HB.out, hr6.mono fun b hb => (hf6 b hb).2⟩
end Go.Proofs.Ytaohdhblnjoihaa
