/-
  Texts of this claim, one behind the other: CliM, CliO.
-/
import Derived.Test.YtmalclclopnlnaaGreatPk36
import Derived.Test.YtmalclclopnlnaaGreatPk42
/-
  The package clients: the table of bytes.
-/
namespace Go.Proofs.YtmalclclopnlnaaGreat
open Go.RowKit Go.Shelf
attribute [local go_sem] Oper.semAt_some

/-- A number taken; yes or no; what is left. -/
def tkN (K : Nat) (s : Bs) : Nat × Bool × Bs := match takeN K s with
  | none => (0, false, s)
  | some (n, s') => (n, true, s')
theorem tkN_len (K : Nat) (s : Bs) : (tkN K s).2.2.length ≤ s.length := by
  unfold tkN takeN
  by_cases h : s.length < K
  · rw [if_pos h]; exact Nat.le_refl _
  · rw [if_neg h]; show (s.drop K).length ≤ _; rw [List.length_drop]; omega
theorem tkN_lt (K : Nat) (s : Bs) : (tkN K s).1 < 256 ^ K := by
  unfold tkN takeN
  by_cases h : s.length < K
  · rw [if_pos h]; exact Nat.pow_pos (by decide)
  · rw [if_neg h]
    show beN (s.take K) < _
    have := beN_lt (s.take K)
    rw [List.length_take, Nat.min_eq_left (by omega)] at this
    exact this
theorem ttk_any (K : Nat) (hK : K = 4 ∨ K = 8) (D : Nat → Prop) (z : Nat) (s : Bs) (w : World) (h : BufS D z w s) (hz : ∀ b, D b → b ≠ z ∧ b < w.heap.size) (hs : s.length ≤ 1099511627776) :
    Calls Tryz.prog 38 #[.pointer (some ⟨z, 0, none⟩), .int .i64 (K : Int)] w fun e w' => e = .returned (.tuple #[.int .u64 ((tkN K s).1 : Int), .bool (tkN K s).2.1]) ∧ BufS D z w' (tkN K s).2.2 ∧ Mod (fun b => b = z) w w' := by
  refine (ttake_any K hK D z s w h.at_ hz hs).mono fun e w' hr => ?_
  unfold tkN
  unfold TkEnds at hr
  cases ht : takeN K s with
  | none =>
    rw [ht] at hr
    obtain ⟨rfl, rfl⟩ := hr
    exact ⟨rfl, h, Mod.refl _ _⟩
  | some v =>
    obtain ⟨n, s'⟩ := v
    rw [ht] at hr
    exact hr
/-- A row, by the three numbers. -/
def badR (c n z : Nat × Bool × Bs) : Bool := !c.2.1 || (!n.2.1 || (!z.2.1 || decide (z.2.2.length < z.1)))
theorem rowT_bad {s : Bs} (h : badR (tkN 8 s) (tkN 8 (tkN 8 s).2.2) (tkN 4 (tkN 8 (tkN 8 s).2.2).2.2) = true) : rowT s = none := by
  unfold rowT
  unfold badR tkN at h
  cases h1 : takeN 8 s with
  | none => rfl
  | some v1 =>
    obtain ⟨c, s1⟩ := v1
    rw [h1] at h
    simp only at h ⊢
    cases h2 : takeN 8 s1 with
    | none => rfl
    | some v2 =>
      obtain ⟨n, s2⟩ := v2
      rw [h2] at h
      simp only at h ⊢
      cases h3 : takeN 4 s2 with
      | none => rfl
      | some v3 =>
        obtain ⟨z, s3⟩ := v3
        rw [h3] at h
        simp only at h ⊢
        simp at h
        rw [if_pos h]
theorem rowT_good {s : Bs} (h : badR (tkN 8 s) (tkN 8 (tkN 8 s).2.2) (tkN 4 (tkN 8 (tkN 8 s).2.2).2.2) = false) :
    rowT s = some ((tkN 8 s).1, (tkN 8 (tkN 8 s).2.2).1, (tkN 4 (tkN 8 (tkN 8 s).2.2).2.2).2.2.take (tkN 4 (tkN 8 (tkN 8 s).2.2).2.2).1, (tkN 4 (tkN 8 (tkN 8 s).2.2).2.2).2.2.drop (tkN 4 (tkN 8 (tkN 8 s).2.2).2.2).1) := by
  unfold rowT
  unfold badR at h
  unfold tkN at h ⊢
  cases h1 : takeN 8 s with
  | none => rw [h1] at h; simp at h
  | some v1 =>
    obtain ⟨c, s1⟩ := v1
    rw [h1] at h
    simp only at h ⊢
    cases h2 : takeN 8 s1 with
    | none => rw [h2] at h; simp at h
    | some v2 =>
      obtain ⟨n, s2⟩ := v2
      rw [h2] at h
      simp only at h ⊢
      cases h3 : takeN 4 s2 with
      | none => rw [h3] at h; simp at h
      | some v3 =>
        obtain ⟨z, s3⟩ := v3
        rw [h3] at h
        simp only at h ⊢
        simp at h
        rw [if_neg (by omega)]
/-- What Of ends in. -/
def TOf (O : Option (List Told)) (w : World) (e : Ending) (w' : World) : Prop :=
  (match O with
    | some L => ∃ p m ms F, e = .returned (.tuple #[.pointer (some ⟨p, 0, none⟩), .int .i64 0]) ∧ TabAt F p m 47 w' L ms ∧ w.heap.size ≤ p ∧ w.heap.size ≤ m ∧ ∀ b, F b → w.heap.size ≤ b
    | none => e = .returned (.tuple #[.pointer none, .int .i64 4])) ∧ Mod (fun _ => False) w w'
end Go.Proofs.YtmalclclopnlnaaGreat
/-
  The package clients: the table of bytes, walked.
-/
namespace Go.Proofs.YtmalclclopnlnaaGreat
open Go.RowKit Go.Shelf
attribute [local go_sem] Oper.semAt_some

theorem TOf.no {w w' : World} {O : Option (List Told)} (h : O = none) (hm : Mod (fun _ => False) w w') : TOf O w (.returned (.tuple #[.pointer none, .int .i64 4])) w' := by
  rw [h]; exact ⟨rfl, hm⟩
set_option maxRecDepth 100000 in
set_option maxHeartbeats 4000000 in
theorem tof_any (D0 : Nat → Prop) (A : Option Addr) (c0 : Nat) (s : Bs) (w : World) (hA : Rd D0 w 1 csU A s) (hl : s.length ≤ 1099511627776) (hc : s.length ≤ c0) :
    Calls Tryz.prog 21 #[.slice A s.length c0] w (TOf (tabOf s) w) := by
  have hA' := hA.lt csU_len (by decide)
  obtain ⟨D, hD⟩ : ∃ D : Nat → Prop, D = fun b => D0 b ∧ b < w.heap.size := ⟨_, rfl⟩
  rw [← hD] at hA'
  have hDl : ∀ b, D b → b < w.heap.size := fun b hb => by rw [hD] at hb; exact hb.2
  obtain ⟨n, hn⟩ : ∃ n, n = s.length := ⟨_, rfl⟩
  obtain ⟨zb, hzb⟩ : ∃ z, z = w.heap.size := ⟨_, rfl⟩
  obtain ⟨W1, hW1⟩ : ∃ W1, W1 = w.alloc (.cells #[.slice A n c0] 35) := ⟨_, rfl⟩
  have hm1 : Mod (fun _ => False) w W1 := by rw [hW1]; (repeat' (first | exact Mod.refl _ _ | assumption | refine Mod.alloc ?_ _ | refine Mod.drew ?_ | refine Mod.drewN ?_ _ | refine Mod.setCell ?_ (by first | exact Or.inl rfl | (right; simp; done) | (right; simp; omega) | (left; simp; done)) _))
  have hb1 : W1.heap[zb]? = some (.cells #[.slice A n c0] 35 (0, 0)) := by rw [hW1, hzb]; exact hp_new _ _
  have hT4 := ttake_any 4 (.inl rfl) D zb s W1 ⟨A, c0, by rw [hb1, hn], hA'.mod hm1 fun b hb => ⟨hDl b hb, id⟩, hc⟩ (fun b hb => ⟨by have := hDl b hb; omega, Nat.lt_of_lt_of_le (hDl b hb) hm1.size⟩) hl
  rw [hW1, hzb] at hT4
  have hT4 : Calls Tryz.prog 38 #[.pointer (some ⟨w.heap.size, 0, none⟩), .int .i64 4] (w.alloc (.cells #[.slice A n c0] 35)) (TkEnds D w.heap.size (takeN 4 s) (w.alloc (.cells #[.slice A n c0] 35))) := hT4
  rw [← hn]
  obtain ⟨O, hO⟩ : ∃ O, O = tabOf s := ⟨_, rfl⟩
  rw [← hO]
  have hbd : readT s = none → O = none := fun h => by rw [hO]; unfold tabOf; rw [h]
  have hgd : ∀ L, readT s = some L → O = if tabV L = s then some L else none := fun L h => by rw [hO]; unfold tabOf; rw [h]
  have hrd : readT s = match takeN 4 s with | none => none | some (k, s') => if 16 < k then none else rowsT k [] s' := rfl
  have hEq : ∀ (B : Option Addr) (c : Nat) (L : List Told) X, Mod (fun _ => False) w X → (∃ base, OwnS base 5 1 csU X (.slice B (tabV L).length c) (tabV L)) → Calls Tryz.prog 29 #[.slice B (tabV L).length c, .slice A n c0] X fun e w' => e = .returned (.bool (decide (tabV L = s))) ∧ X = w' := fun B c L X hX hB => by
    obtain ⟨base, hB⟩ := hB
    have := bequal_any _ D B A c c0 (tabV L) s X (rd_of5 hB csU_len) (hA'.mod hX fun b hb => ⟨hDl b hb, id⟩)
    rw [← hn] at this
    exact this
  have HEq := Lib.hid hEq
  have HT4 := Lib.hid hT4
  have HBd := Lib.hid hbd
  have HGd := Lib.hid hgd
  have HRd := Lib.hid hrd
  have HL := Lib.hid hl
  have HD := Lib.hid hDl
  have HM1 := Lib.hid hm1
  obtain ⟨o4, ho4⟩ : ∃ o, o = takeN 4 s := ⟨_, rfl⟩
  rw [← ho4] at HT4 HRd
  have HO4 := Lib.hid ho4
  clear hT4 hO hbd hgd hrd hEq hb1 hA' hA hn hl hc hDl hm1 hD ho4
  cases o4 with
  | none =>
    have HO := Lib.hid (HBd.out HRd.out)
    go_enter Tryz.func21, Tryz.ntmps21
    go_wp2_with (first
      | (go_at_call 38
         (with_reducible refine HT4.out.mono ?_)
         rintro e w2 ⟨rfl, rfl⟩)
      | fail)
    refine bodyPost_ret (v := .tuple #[.pointer none, .int .i64 4]) (by simp [results, Tryz.results21, go_sem]) rfl (TOf.no HO.out (by (repeat' (first | exact Mod.refl _ _ | assumption | refine Mod.alloc ?_ _ | refine Mod.drew ?_ | refine Mod.drewN ?_ _ | refine Mod.setCell ?_ (by first | exact Or.inl rfl | (right; simp; done) | (right; simp; omega) | (left; simp; done)) _))))
  | some v4 =>
    obtain ⟨many, s1⟩ := v4
    have HRd := Lib.hid (show readT s = if 16 < many then none else rowsT many [] s1 from HRd.out)
    have hs1l : s1.length ≤ 1099511627776 := by
      have h := HO4.out
      unfold takeN at h
      split at h
      · cases h
      · injection h with h
        injection h with h1 h2
        have := HL.out
        rw [h2, List.length_drop]; omega
    have HT4 := Lib.hid (show Calls Tryz.prog 38 #[.pointer (some ⟨w.heap.size, 0, none⟩), .int .i64 4] (w.alloc (.cells #[.slice A n c0] 35)) fun e w' => e = .returned (.tuple #[.int .u64 (many : Int), .bool true]) ∧ BufS D w.heap.size w' s1 ∧ Mod (fun b => b = w.heap.size) (w.alloc (.cells #[.slice A n c0] 35)) w' from HT4.out)
    by_cases hmany : 16 < many
    · have HO := Lib.hid (HBd.out (by rw [HRd.out, if_pos hmany]))
      have i1 : decide (16 < many) = true := decide_eq_true hmany
      have i2 : decide ((16 : Int) < (many : Int)) = true := decide_eq_true (by omega)
      go_enter Tryz.func21, Tryz.ntmps21
      go_wp2_with (first
        | (go_at_call 38
           (with_reducible refine HT4.out.mono ?_)
           rintro e w2 ⟨rfl, -, hm2⟩
           have HM2 := Lib.hid (Mod.trans (C := fun _ => False) (w := w) (by (repeat' (first | exact Mod.refl _ _ | assumption | refine Mod.alloc ?_ _ | refine Mod.drew ?_ | refine Mod.drewN ?_ _ | refine Mod.setCell ?_ (by first | exact Or.inl rfl | (right; simp; done) | (right; simp; omega) | (left; simp; done)) _))) hm2 fun b hb => by right; omega)
           clear hm2)
        | fail)
      refine bodyPost_ret (v := .tuple #[.pointer none, .int .i64 4]) (by simp [results, Tryz.results21, go_sem]) rfl (TOf.no HO.out HM2.out)
    · have HR := Lib.hid (show readT s = rowsT many [] s1 by rw [HRd.out, if_neg hmany])
      have i1 : decide (16 < many) = false := decide_eq_false hmany
      have i2 : decide ((16 : Int) < (many : Int)) = false := decide_eq_false (by omega)
      clear HRd
      have HNew := Lib.hid (fun X => tnew_any X)
      go_enter Tryz.func21, Tryz.ntmps21
      go_wp2_with (first
        | (go_at_call 38
           (with_reducible refine HT4.out.mono ?_)
           rintro e w2 ⟨rfl, hbuf2, hm2⟩
           have HBuf2 := Lib.hid hbuf2
           have HM2 := Lib.hid (Mod.trans (C := fun _ => False) (w := w) (by (repeat' (first | exact Mod.refl _ _ | assumption | refine Mod.alloc ?_ _ | refine Mod.drew ?_ | refine Mod.drewN ?_ _ | refine Mod.setCell ?_ (by first | exact Or.inl rfl | (right; simp; done) | (right; simp; omega) | (left; simp; done)) _))) hm2 fun b hb => by right; omega)
           have hs2 : w.heap.size < w2.heap.size := by have := hm2.size; simp at this; omega
           clear hm2 hbuf2)
        | (go_at_call 19
           (with_reducible refine (HNew.out _).mono ?_)
           rintro e w3 ⟨p, m, rfl, hat3, hp3, hmm3, hm3⟩
           have HAt3 := Lib.hid hat3
           have HM3 := Lib.hid (HM2.out.trans' hm3)
           have HBuf3 := Lib.hid (HBuf2.out.mod hm3 id fun b hb => ⟨Nat.lt_of_lt_of_le (HD.out b hb) (by omega), id⟩)
           have hs3 := hm3.size
           clear hat3 hm3)
        | fail)
      go_loopw [29] (fun i wr => ∃ (k : Nat) (Lk : List Told) (sk : Bs) (ms : List TC) (F : Nat → Prop), i = .int .u64 (k : Int) ∧ k ≤ many ∧ rowsT (many - k) Lk sk = readT s ∧ sk.length ≤ 1099511627776 ∧ BufS D w.heap.size wr sk ∧ TabAt F p m 47 wr Lk ms ∧ (∀ b, F b → w.heap.size < b) ∧ Mod (fun _ => False) w wr) (fun i _ => many - (intOf i).toNat)
      case atStart => exact ⟨0, [], s1, [], _, rfl, Nat.zero_le _, HR.out.symm, hs1l, HBuf3.out, HAt3.out, fun _ h => h.elim, HM3.out⟩
      case round =>
        obtain ⟨k, Lk, sk, ms, F, rfl, hk, hrows, hskl, hbuf, hat, hF, hm⟩ := hrel
        have HM := Lib.hid hm
        have HBuf := Lib.hid hbuf
        have HAt := Lib.hid hat
        have HF := Lib.hid hF
        have HRows := Lib.hid hrows
        have hsr := hm.size
        have hltr : w.heap.size < wr.heap.size := by obtain ⟨_, _, _, h, _⟩ := hbuf; exact hp_lt h
        clear hrows hbuf hat hF hm
        by_cases hkm : k = many
        · subst hkm
          have hR2 : readT s = some Lk := by
            have := HRows.out
            rw [Nat.sub_self] at this
            exact this.symm
          have hO := HGd.out Lk hR2
          have HBy := Lib.hid (tbytes_any F p m _ Lk ms wr HAt.out)
          obtain ⟨nb, hnb⟩ : ∃ k, k = (tabV Lk).length := ⟨_, rfl⟩
          rw [← hnb] at HBy
          have HEq2 := Lib.hid (fun B c X hX hB => HEq.out B c Lk X hX hB)
          rw [← hnb] at HEq2
          obtain ⟨d, hd⟩ : ∃ d, d = decide (tabV Lk = s) := ⟨_, rfl⟩
          rw [← hd] at HEq2
          have HO := Lib.hid (show O = if d = true then some Lk else none by rw [hO, hd]; simp)
          clear hR2 hO hd hnb
          cases d
          · have HO := Lib.hid (show O = none from HO.out)
            go_wp2_with (first
              | (go_at_call 18
                 (with_reducible refine HBy.out.mono ?_)
                 rintro e w4 ⟨B4, c4, rfl, ho4, hm4⟩
                 have HM4 := Lib.hid (HM.out.trans' hm4)
                 have HO4b := Lib.hid ho4
                 clear hm4 ho4)
              | (go_at_call 29
                 (with_reducible refine (HEq2.out _ _ _ HM4.out ⟨_, HO4b.out⟩).mono ?_)
                 rintro e w5 ⟨rfl, rfl⟩)
              | fail)
            refine bodyPost_ret (v := .tuple #[.pointer none, .int .i64 4]) (by simp [results, Tryz.results21, go_sem]) rfl (TOf.no HO.out HM4.out)
          · have HO := Lib.hid (show O = some Lk from HO.out)
            go_wp2_with (first
              | (go_at_call 18
                 (with_reducible refine HBy.out.mono ?_)
                 rintro e w4 ⟨B4, c4, rfl, ho4, hm4⟩
                 have HM4 := Lib.hid (HM.out.trans' hm4)
                 have HO4b := Lib.hid ho4
                 have HMm := Lib.hid hm4
                 clear hm4 ho4)
              | (go_at_call 29
                 (with_reducible refine (HEq2.out _ _ _ HM4.out ⟨_, HO4b.out⟩).mono ?_)
                 rintro e w5 ⟨rfl, rfl⟩)
              | fail)
            refine bodyPost_ret (v := .tuple #[.pointer (some ⟨p, 0, none⟩), .int .i64 0]) (by simp [results, Tryz.results21, go_sem]) rfl ?_
            rw [HO.out]
            exact ⟨⟨p, m, ms, F, rfl, HAt.out.mod HMm.out id id fun _ _ => id, by omega, by omega, fun b hb => Nat.le_of_lt (HF.out b hb)⟩, HM4.out⟩
        · have hk1 : k < many := by omega
          have hlss : decide (k < many) = true := decide_eq_true hk1
          obtain ⟨r, hr⟩ : ∃ r, many - k = r + 1 := ⟨many - k - 1, by omega⟩
          have hstep : readT s = match stepT Lk sk with | none => none | some (L', s') => rowsT r L' s' := by
            have := HRows.out
            rw [hr] at this
            exact this.symm
          have HTk8 := Lib.hid (fun X x (hx : BufS D w.heap.size X x) (hX : w.heap.size < X.heap.size) (hl : x.length ≤ 1099511627776) => ttk_any 8 (.inr rfl) D w.heap.size x X hx (fun b hb => ⟨by have := HD.out b hb; omega, Nat.lt_of_lt_of_le (HD.out b hb) (Nat.le_of_lt hX)⟩) hl)
          have HTk4 := Lib.hid (fun X x (hx : BufS D w.heap.size X x) (hX : w.heap.size < X.heap.size) (hl : x.length ≤ 1099511627776) => ttk_any 4 (.inl rfl) D w.heap.size x X hx (fun b hb => ⟨by have := HD.out b hb; omega, Nat.lt_of_lt_of_le (HD.out b hb) (Nat.le_of_lt hX)⟩) hl)
          have hbad0 := @rowT_bad sk
          have hgood0 := @rowT_good sk
          obtain ⟨v1, hv1⟩ : ∃ v, v = tkN 8 sk := ⟨_, rfl⟩
          rw [← hv1] at hbad0 hgood0
          obtain ⟨v2, hv2⟩ : ∃ v, v = tkN 8 v1.2.2 := ⟨_, rfl⟩
          rw [← hv2] at hbad0 hgood0
          obtain ⟨v3, hv3⟩ : ∃ v, v = tkN 4 v2.2.2 := ⟨_, rfl⟩
          rw [← hv3] at hbad0 hgood0
          have l1 := tkN_len 8 sk
          have l2 := tkN_len 8 v1.2.2
          have l3 := tkN_len 4 v2.2.2
          have b1 := tkN_lt 8 sk
          have b2 := tkN_lt 8 v1.2.2
          have b3 := tkN_lt 4 v2.2.2
          rw [← hv1] at l1 b1
          rw [← hv2] at l2 b2
          rw [← hv3] at l3 b3
          have hTa := HTk8.out wr sk HBuf.out (by omega) hskl
          have hTb := fun X hx hX => HTk8.out X v1.2.2 hx hX (by omega)
          have hTc := fun X hx hX => HTk4.out X v2.2.2 hx hX (by omega)
          rw [← hv1] at hTa
          rw [← hv2] at hTb
          rw [← hv3] at hTc
          obtain ⟨cn, y1, sa⟩ := v1
          obtain ⟨nn, y2, sb⟩ := v2
          obtain ⟨zn, y3, sc⟩ := v3
          simp only at l1 l2 l3 b1 b2 b3 hTa hTb hTc hbad0 hgood0
          have hTa : Calls Tryz.prog 38 #[.pointer (some ⟨w.heap.size, 0, none⟩), .int .i64 8] wr fun e w' => e = .returned (.tuple #[.int .u64 (cn : Int), .bool y1]) ∧ BufS D w.heap.size w' sa ∧ Mod (fun b => b = w.heap.size) wr w' := hTa
          have hTb : ∀ X, BufS D w.heap.size X sa → w.heap.size < X.heap.size → Calls Tryz.prog 38 #[.pointer (some ⟨w.heap.size, 0, none⟩), .int .i64 8] X fun e w' => e = .returned (.tuple #[.int .u64 (nn : Int), .bool y2]) ∧ BufS D w.heap.size w' sb ∧ Mod (fun b => b = w.heap.size) X w' := hTb
          have hTc : ∀ X, BufS D w.heap.size X sb → w.heap.size < X.heap.size → Calls Tryz.prog 38 #[.pointer (some ⟨w.heap.size, 0, none⟩), .int .i64 4] X fun e w' => e = .returned (.tuple #[.int .u64 (zn : Int), .bool y3]) ∧ BufS D w.heap.size w' sc ∧ Mod (fun b => b = w.heap.size) X w' := hTc
          have HTa := Lib.hid hTa
          have HTb := Lib.hid hTb
          have HTc := Lib.hid hTc
          obtain ⟨nsc, hnsc⟩ : ∃ k, k = sc.length := ⟨_, rfl⟩
          have HNsc := Lib.hid hnsc
          have hscl : nsc ≤ 1099511627776 := by omega
          have hwsc : IntKind.u64.wrap (nsc : Int) = (nsc : Int) := wrap_u64 nsc (by omega)
          have HB1 := Lib.hid b1
          have HB2 := Lib.hid b2
          have HStep := Lib.hid hstep
          have hrk : many - (k + 1) = r := by omega
          have HRk := Lib.hid hrk
          obtain ⟨bad, hbd⟩ : ∃ d, d = badR (cn, y1, sa) (nn, y2, sb) (zn, y3, sc) := ⟨_, rfl⟩
          rw [← hbd] at hbad0 hgood0
          have hbd2 : bad = (!y1 || (!y2 || (!y3 || decide (nsc < zn)))) := by rw [hbd, hnsc]; rfl
          have HBad0 := Lib.hid hbad0
          have HGood0 := Lib.hid hgood0
          clear hbad0 hgood0 hTa hTb hTc hv1 hv2 hv3 l1 l2 l3 b1 b2 b3 hstep hr hrk hnsc hbd HTk8 HTk4
          cases bad with
          | true =>
            have HO := Lib.hid (HBd.out (by rw [HStep.out]; unfold stepT; rw [HBad0.out rfl]))
            have hcs : y1 = false ∨ (y1 = true ∧ y2 = false) ∨ (y1 = true ∧ y2 = true ∧ y3 = false) ∨ (y1 = true ∧ y2 = true ∧ y3 = true ∧ nsc < zn) := by
              cases y1 <;> cases y2 <;> cases y3 <;> simp at hbd2 ⊢ <;> exact hbd2
            clear hbd2
            rcases hcs with rfl | ⟨rfl, rfl⟩ | ⟨rfl, rfl, rfl⟩ | ⟨rfl, rfl, rfl, hz⟩
            all_goals
              go_wp2_with (first
                | (go_at_call 38
                   (with_reducible refine HTa.out.mono ?_)
                   rintro e w4 ⟨rfl, hbuf4, hm4⟩
                   have HBuf4 := Lib.hid hbuf4
                   have HM4 := Lib.hid (HM.out.trans hm4 fun b hb => by right; omega)
                   have HMr4 := Lib.hid hm4
                   have hs4 : w.heap.size < w4.heap.size := by have := hm4.size; omega
                   clear hbuf4 hm4)
                | (go_at_call 38
                   (with_reducible refine (HTb.out w4 HBuf4.out hs4).mono ?_)
                   rintro e w5 ⟨rfl, hbuf5, hm5⟩
                   have HBuf5 := Lib.hid hbuf5
                   have HM5 := Lib.hid (HM4.out.trans hm5 fun b hb => by right; omega)
                   have HMr5 := Lib.hid (HMr4.out.trans' hm5)
                   have hs5 : w.heap.size < w5.heap.size := by have := hm5.size; omega
                   clear hbuf5 hm5)
                | (go_at_call 38
                   (with_reducible refine (HTc.out w5 HBuf5.out hs5).mono ?_)
                   rintro e w6 ⟨rfl, hbuf6, hm6⟩
                   obtain ⟨bb, oo, cc, hz6, hrd6, hc6⟩ := hbuf6
                   rw [← HNsc.out] at hz6 hc6
                   have x6 : w6.cell? ⟨w.heap.size, 0, none⟩ = some (.slice (some ⟨bb, oo, none⟩) nsc cc) := by rw [hp_cell hz6]; rfl
                   have HZ6 := Lib.hid hz6
                   have HRd6 := Lib.hid hrd6
                   have M6 := HM5.out.trans hm6 fun b hb => by right; omega
                   have HMr6 := Lib.hid (HMr5.out.trans' hm6)
                   have hs6 : w.heap.size < w6.heap.size := by have := hm6.size; omega
                   have hsr6 : wr.heap.size ≤ w6.heap.size := HMr6.out.size
                   clear hz6 hrd6 hm6)
                | fail)
              refine bodyPost_ret (v := .tuple #[.pointer none, .int .i64 4]) (by simp [results, Tryz.results21, go_sem]) rfl (TOf.no HO.out M6)
          | false =>
            have hcs : y1 = true ∧ y2 = true ∧ y3 = true ∧ ¬ nsc < zn := by
              cases y1 <;> cases y2 <;> cases y3 <;> simp at hbd2 ⊢ <;> exact hbd2
            clear hbd2
            obtain ⟨rfl, rfl, rfl, hz⟩ := hcs
            have hst1 : readT s = match resOf (sc.take zn) with | none => none | some rr => if putE cn nn Lk = 0 then rowsT r (putT ⟨cn, nn, rr⟩ Lk) (sc.drop zn) else none := by
              rw [HStep.out]
              unfold stepT
              rw [HGood0.out rfl]
              simp only
              cases resOf (sc.take zn) with
              | none => rfl
              | some rr =>
                simp only
                by_cases h : putE cn nn Lk = 0
                · rw [if_pos h, if_pos h]
                · rw [if_neg h, if_neg h]
            have hztl : (sc.take zn).length = zn := by rw [List.length_take, ← HNsc.out]; omega
            have hOf : ∀ B c X, Rd D X 1 csU B (sc.take zn) → Calls Tryz.prog 32 #[.slice B zn c] X (ROf (resOf (sc.take zn)) X) := fun B c X hX => by
              have := mof_any D B c (sc.take zn) X hX (by omega)
              rw [hztl] at this
              exact this
            obtain ⟨Ox, hOx⟩ : ∃ o, o = resOf (sc.take zn) := ⟨_, rfl⟩
            have hmayx : ∀ rr, Ox = some rr → mayR rr = true := fun rr h => resOf_may (hOx.symm.trans h)
            rw [← hOx] at hst1 hOf
            have HOf := Lib.hid hOf
            have HSt1 := Lib.hid hst1
            have HMx := Lib.hid hmayx
            have hzs : zn ≤ nsc := by omega
            clear hst1 hOf hmayx hOx hztl HStep HGood0 HBad0
            cases Ox with
            | none =>
              have HO := Lib.hid (HBd.out HSt1.out)
              have HOf := Lib.hid (show ∀ B c X, Rd D X 1 csU B (sc.take zn) → Calls Tryz.prog 32 #[.slice B zn c] X (fun e w' => e = .returned (.tuple #[.agg #[.int .i64 0, .bool false, .slice none 0 0, .slice none 0 0], .int .i64 4]) ∧ Mod (fun _ => False) X w') from HOf.out)
              go_wp2_with (first
                | (go_at_call 38
                   (with_reducible refine HTa.out.mono ?_)
                   rintro e w4 ⟨rfl, hbuf4, hm4⟩
                   have HBuf4 := Lib.hid hbuf4
                   have HM4 := Lib.hid (HM.out.trans hm4 fun b hb => by right; omega)
                   have HMr4 := Lib.hid hm4
                   have hs4 : w.heap.size < w4.heap.size := by have := hm4.size; omega
                   clear hbuf4 hm4)
                | (go_at_call 38
                   (with_reducible refine (HTb.out w4 HBuf4.out hs4).mono ?_)
                   rintro e w5 ⟨rfl, hbuf5, hm5⟩
                   have HBuf5 := Lib.hid hbuf5
                   have HM5 := Lib.hid (HM4.out.trans hm5 fun b hb => by right; omega)
                   have HMr5 := Lib.hid (HMr4.out.trans' hm5)
                   have hs5 : w.heap.size < w5.heap.size := by have := hm5.size; omega
                   clear hbuf5 hm5)
                | (go_at_call 38
                   (with_reducible refine (HTc.out w5 HBuf5.out hs5).mono ?_)
                   rintro e w6 ⟨rfl, hbuf6, hm6⟩
                   obtain ⟨bb, oo, cc, hz6, hrd6, hc6⟩ := hbuf6
                   rw [← HNsc.out] at hz6 hc6
                   have x6 : w6.cell? ⟨w.heap.size, 0, none⟩ = some (.slice (some ⟨bb, oo, none⟩) nsc cc) := by rw [hp_cell hz6]; rfl
                   have HZ6 := Lib.hid hz6
                   have HRd6 := Lib.hid hrd6
                   have M6 := HM5.out.trans hm6 fun b hb => by right; omega
                   have HMr6 := Lib.hid (HMr5.out.trans' hm6)
                   have hs6 : w.heap.size < w6.heap.size := by have := hm6.size; omega
                   have hsr6 : wr.heap.size ≤ w6.heap.size := HMr6.out.size
                   clear hz6 hrd6 hm6)
                | (go_at_call 32
                   (with_reducible refine (HOf.out _ _ _ (rd_take HRd6.out zn)).mono ?_)
                   rintro e w7 ⟨rfl, hm7⟩
                   have HM7 := Lib.hid (M6.trans' hm7)
                   clear hm7)
                | fail)
              refine bodyPost_ret (v := .tuple #[.pointer none, .int .i64 4]) (by simp [results, Tryz.results21, go_sem]) rfl (TOf.no HO.out (HM7.out.alloc _))
            | some rr =>
              have HSt2 := Lib.hid (show readT s = if putE cn nn Lk = 0 then rowsT r (putT ⟨cn, nn, rr⟩ Lk) (sc.drop zn) else none from HSt1.out)
              have hmay := HMx.out rr rfl
              have hwe : ∀ q : RC, q.res = rr → wantE ⟨cn, nn, q.res⟩ Lk = putE cn nn Lk := fun q hq => by unfold wantE; rw [if_pos (by show mayR q.res = true; rw [hq]; exact hmay)]
              have HWe := Lib.hid hwe
              have HOf := Lib.hid (show ∀ B c X, Rd D X 1 csU B (sc.take zn) → Calls Tryz.prog 32 #[.slice B zn c] X (fun e w' => (∃ q : RC, e = .returned (.tuple #[q.val, .int .i64 0]) ∧ q.res = rr ∧ q.Ok (fun b => X.heap.size ≤ b ∧ b < w'.heap.size) w' ∧ q.Fit) ∧ Mod (fun _ => False) X w') from HOf.out)
              obtain ⟨ee, hee⟩ : ∃ e, e = putE cn nn Lk := ⟨_, rfl⟩
              have HEe := Lib.hid hee
              clear hmay hwe hee HSt1 HMx
              by_cases he : ee = 0
              · subst he
                go_upto_region 16 with (first
                  | (go_at_call 38
                     (with_reducible refine HTa.out.mono ?_)
                     rintro e w4 ⟨rfl, hbuf4, hm4⟩
                     have HBuf4 := Lib.hid hbuf4
                     have HM4 := Lib.hid (HM.out.trans hm4 fun b hb => by right; omega)
                     have HMr4 := Lib.hid hm4
                     have hs4 : w.heap.size < w4.heap.size := by have := hm4.size; omega
                     clear hbuf4 hm4)
                  | (go_at_call 38
                     (with_reducible refine (HTb.out w4 HBuf4.out hs4).mono ?_)
                     rintro e w5 ⟨rfl, hbuf5, hm5⟩
                     have HBuf5 := Lib.hid hbuf5
                     have HM5 := Lib.hid (HM4.out.trans hm5 fun b hb => by right; omega)
                     have HMr5 := Lib.hid (HMr4.out.trans' hm5)
                     have hs5 : w.heap.size < w5.heap.size := by have := hm5.size; omega
                     clear hbuf5 hm5)
                  | (go_at_call 38
                     (with_reducible refine (HTc.out w5 HBuf5.out hs5).mono ?_)
                     rintro e w6 ⟨rfl, hbuf6, hm6⟩
                     obtain ⟨bb, oo, cc, hz6, hrd6, hc6⟩ := hbuf6
                     rw [← HNsc.out] at hz6 hc6
                     have x6 : w6.cell? ⟨w.heap.size, 0, none⟩ = some (.slice (some ⟨bb, oo, none⟩) nsc cc) := by rw [hp_cell hz6]; rfl
                     have HZ6 := Lib.hid hz6
                     have HRd6 := Lib.hid hrd6
                     have M6 := HM5.out.trans hm6 fun b hb => by right; omega
                     have HMr6 := Lib.hid (HMr5.out.trans' hm6)
                     have hs6 : w.heap.size < w6.heap.size := by have := hm6.size; omega
                     have hsr6 : wr.heap.size ≤ w6.heap.size := HMr6.out.size
                     clear hz6 hrd6 hm6)
                  | (go_at_call 32
                     (with_reducible refine (HOf.out _ _ _ (rd_take HRd6.out zn)).mono ?_)
                     rintro e w7 ⟨⟨q, rfl, hqr, hqo, hqf⟩, hm7⟩
                     obtain ⟨kq, yq, Aq, nq, cAq, Bq, mq, cBq, hqv, hqc⟩ := q.open
                     have hat7 := (HAt.out.mod HMr6.out (fun e => by omega) (fun e => by omega) fun b hb e => by have := HF.out b hb; omega).mod hm7 id id fun _ _ => id
                     have HAt7 := Lib.hid hat7
                     have HM7 := Lib.hid (M6.trans' hm7)
                     have HZ7 := Lib.hid (hp_mod HZ6.out hm7 id)
                     have HRd7 := Lib.hid (HRd6.out.mod hm7 fun b hb => ⟨by have := HD.out b hb; omega, id⟩)
                     have x7 : w7.cell? ⟨w.heap.size, 0, none⟩ = some (.slice (some ⟨bb, oo, none⟩) nsc cc) := by rw [hp_cell HZ7.out]; rfl
                     have HPut := Lib.hid (fun X (hX : Mod (fun _ => False) w7 X) => tput_any F p m _ Lk ms cn nn q X (hat7.mod hX id id fun _ _ => id) ((hqo.mod hX fun b hb => ⟨hb.2, id⟩).mono fun b hb => Nat.lt_of_lt_of_le hb.2 hX.size) hqf (by have := HB1.out; omega) (by have := HB2.out; omega))
                     rw [hqv] at HPut ⊢
                     have HQr := Lib.hid hqr
                     have hs7 : w6.heap.size ≤ w7.heap.size := hm7.size
                     have hs7l : w.heap.size < w7.heap.size := by omega
                     clear hm7 hat7 hqr hqo hqf hqv hqc)
                  | (go_at_call 12
                     (with_reducible refine (HPut.out _ (by (repeat' (with_reducible (first | exact Mod.refl _ _ | assumption | refine Mod.alloc ?_ _ | refine Mod.drew ?_ | refine Mod.drewN ?_ _ | refine Mod.setCell ?_ (by first | exact Or.inl rfl | (right; simp; done) | (right; simp; omega) | (left; simp; done)) _))))).mono ?_)
                     rintro e w8 ⟨rfl, ⟨ms8, F8, hat8, hF8⟩, hm8⟩
                     have hw8 := HWe.out q HQr.out
                     rw [← HEe.out] at hw8
                     rw [hw8]
                     have hact : actT Lk ⟨cn, nn, q.res⟩ = putT ⟨cn, nn, rr⟩ Lk := by unfold actT; rw [if_pos hw8, HQr.out]
                     rw [hact] at hat8
                     have HAt8 := Lib.hid hat8
                     have HF8 := Lib.hid hF8
                     have HM8 := Lib.hid (Mod.trans (C := fun _ => False) (w := w) (HM7.out.alloc _) hm8 fun b hb => by right; omega)
                     have HZ8 := Lib.hid (hp_mod (hp_alloc HZ7.out _) hm8 (fun e => by omega))
                     have HRd8 := Lib.hid ((HRd7.out.mod (C := fun _ => False) ((Mod.refl _ w7).alloc (.cells #[.int .i64 kq, .bool yq, .slice Aq nq cAq, .slice Bq mq cBq] 37)) fun b hb => ⟨by have := HD.out b hb; omega, id⟩).mod hm8 fun b hb => ⟨by have := HD.out b hb; simp; omega, fun e => by have := HD.out b hb; omega⟩)
                     have x8 : w8.cell? ⟨w.heap.size, 0, none⟩ = some (.slice (some ⟨bb, oo, none⟩) nsc cc) := by rw [hp_cell HZ8.out]; rfl
                     have f8 : w8.frozen? ⟨w.heap.size, 0, none⟩ = false := hp_free HZ8.out 0
                     have hs8 : w.heap.size < w8.heap.size := hp_lt HZ8.out
                     clear hat8 hF8 hm8 hw8 hact)
                  | fail)
                have hdl : (sc.drop zn).length = nsc - zn := by rw [List.length_drop, ← HNsc.out]
                have HDl := Lib.hid hdl
                have HRw := Lib.hid (show rowsT (many - (k + 1)) (putT ⟨cn, nn, rr⟩ Lk) (sc.drop zn) = readT s by rw [HRk.out, HSt2.out, if_pos HEe.out.symm])
                have hF9 : ∀ b, F8 b → w.heap.size < b := fun b hb => by
                  rcases HF8.out b hb with h | h
                  · exact HF.out b h
                  · simp at h; omega
                have HF9 := Lib.hid hF9
                clear hdl hF9
                by_cases hcc : cc = zn
                · obtain rfl : nsc = zn := by omega
                  subst hcc
                  go_wp2
                  go_roundw
                  case rel =>
                    refine ⟨k + 1, putT ⟨cn, nn, rr⟩ Lk, sc.drop cc, ms8, F8, by go_num, by omega, HRw.out, by rw [HDl.out]; omega, ⟨_, _, _, hp_eq (hp_set HZ8.out 0 _) (by rw [HDl.out, Nat.sub_self]; rfl), ?_, ?_⟩, HAt8.out.mod (C := fun b => b = w.heap.size) (by (repeat' (first | exact Mod.refl _ _ | assumption | refine Mod.alloc ?_ _ | refine Mod.drew ?_ | refine Mod.drewN ?_ _ | refine Mod.setCell ?_ (by first | exact Or.inl rfl | (right; simp; done) | (right; simp; omega) | (left; simp; done)) _))) (by omega) (by omega) (fun b hb e => by have := HF9.out b hb; omega), HF9.out, HM8.out.trans (C' := fun b => b = w.heap.size) (by (repeat' (first | exact Mod.refl _ _ | assumption | refine Mod.alloc ?_ _ | refine Mod.drew ?_ | refine Mod.drewN ?_ _ | refine Mod.setCell ?_ (by first | exact Or.inl rfl | (right; simp; done) | (right; simp; omega) | (left; simp; done)) _))) fun b hb => by right; omega⟩
                    · rw [List.eq_nil_of_length_eq_zero (HDl.out.trans (Nat.sub_self _))]; exact Rd.nil _ _ _ _ _
                    · rw [HDl.out]; omega
                  case measure => simp only [intOf]; omega
                · have hm9 : Mod (fun b => b = w.heap.size) w8 (w8.setCell ⟨w.heap.size, 0, none⟩ (.slice (some ⟨bb, oo + zn, none⟩) (nsc - zn) (cc - zn))) := by (repeat' (first | exact Mod.refl _ _ | assumption | refine Mod.alloc ?_ _ | refine Mod.drew ?_ | refine Mod.drewN ?_ _ | refine Mod.setCell ?_ (by first | exact Or.inl rfl | (right; simp; done) | (right; simp; omega) | (left; simp; done)) _))
                  have HM9 := Lib.hid hm9
                  clear hm9
                  go_wp2
                  go_roundw
                  case rel =>
                    refine ⟨k + 1, putT ⟨cn, nn, rr⟩ Lk, sc.drop zn, ms8, F8, by go_num, by omega, HRw.out, by rw [HDl.out]; omega, ⟨_, _, _, hp_eq (hp_set HZ8.out 0 _) (by rw [HDl.out]; rfl), ?_, ?_⟩, HAt8.out.mod HM9.out (by omega) (by omega) (fun b hb e => by have := HF9.out b hb; omega), HF9.out, HM8.out.trans HM9.out fun b hb => by right; omega⟩
                    · have h5 := (rd_drop HRd8.out (j := zn) (by rw [← HNsc.out]; omega)).mod HM9.out fun b hb => ⟨by have := HD.out b hb; omega, fun e => by have := HD.out b hb; omega⟩
                      rw [Nat.mul_one] at h5
                      exact h5
                    · rw [HDl.out]; omega
                  case measure => simp only [intOf]; omega
              · have HO := Lib.hid (HBd.out (by rw [HSt2.out, ← HEe.out, if_neg he]))
                have hne : ((ee : Int) == 0) = false := by rw [beq_eq_false_iff_ne]; omega
                go_wp2_with (first
                  | (go_at_call 38
                     (with_reducible refine HTa.out.mono ?_)
                     rintro e w4 ⟨rfl, hbuf4, hm4⟩
                     have HBuf4 := Lib.hid hbuf4
                     have HM4 := Lib.hid (HM.out.trans hm4 fun b hb => by right; omega)
                     have HMr4 := Lib.hid hm4
                     have hs4 : w.heap.size < w4.heap.size := by have := hm4.size; omega
                     clear hbuf4 hm4)
                  | (go_at_call 38
                     (with_reducible refine (HTb.out w4 HBuf4.out hs4).mono ?_)
                     rintro e w5 ⟨rfl, hbuf5, hm5⟩
                     have HBuf5 := Lib.hid hbuf5
                     have HM5 := Lib.hid (HM4.out.trans hm5 fun b hb => by right; omega)
                     have HMr5 := Lib.hid (HMr4.out.trans' hm5)
                     have hs5 : w.heap.size < w5.heap.size := by have := hm5.size; omega
                     clear hbuf5 hm5)
                  | (go_at_call 38
                     (with_reducible refine (HTc.out w5 HBuf5.out hs5).mono ?_)
                     rintro e w6 ⟨rfl, hbuf6, hm6⟩
                     obtain ⟨bb, oo, cc, hz6, hrd6, hc6⟩ := hbuf6
                     rw [← HNsc.out] at hz6 hc6
                     have x6 : w6.cell? ⟨w.heap.size, 0, none⟩ = some (.slice (some ⟨bb, oo, none⟩) nsc cc) := by rw [hp_cell hz6]; rfl
                     have HZ6 := Lib.hid hz6
                     have HRd6 := Lib.hid hrd6
                     have M6 := HM5.out.trans hm6 fun b hb => by right; omega
                     have HMr6 := Lib.hid (HMr5.out.trans' hm6)
                     have hs6 : w.heap.size < w6.heap.size := by have := hm6.size; omega
                     have hsr6 : wr.heap.size ≤ w6.heap.size := HMr6.out.size
                     clear hz6 hrd6 hm6)
                  | (go_at_call 32
                     (with_reducible refine (HOf.out _ _ _ (rd_take HRd6.out zn)).mono ?_)
                     rintro e w7 ⟨⟨q, rfl, hqr, hqo, hqf⟩, hm7⟩
                     obtain ⟨kq, yq, Aq, nq, cAq, Bq, mq, cBq, hqv, hqc⟩ := q.open
                     have hat7 := (HAt.out.mod HMr6.out (fun e => by omega) (fun e => by omega) fun b hb e => by have := HF.out b hb; omega).mod hm7 id id fun _ _ => id
                     have HAt7 := Lib.hid hat7
                     have HM7 := Lib.hid (M6.trans' hm7)
                     have HZ7 := Lib.hid (hp_mod HZ6.out hm7 id)
                     have HRd7 := Lib.hid (HRd6.out.mod hm7 fun b hb => ⟨by have := HD.out b hb; omega, id⟩)
                     have x7 : w7.cell? ⟨w.heap.size, 0, none⟩ = some (.slice (some ⟨bb, oo, none⟩) nsc cc) := by rw [hp_cell HZ7.out]; rfl
                     have HPut := Lib.hid (fun X (hX : Mod (fun _ => False) w7 X) => tput_any F p m _ Lk ms cn nn q X (hat7.mod hX id id fun _ _ => id) ((hqo.mod hX fun b hb => ⟨hb.2, id⟩).mono fun b hb => Nat.lt_of_lt_of_le hb.2 hX.size) hqf (by have := HB1.out; omega) (by have := HB2.out; omega))
                     rw [hqv] at HPut ⊢
                     have HQr := Lib.hid hqr
                     have hs7 : w6.heap.size ≤ w7.heap.size := hm7.size
                     have hs7l : w.heap.size < w7.heap.size := by omega
                     clear hm7 hat7 hqr hqo hqf hqv hqc)
                  | (go_at_call 12
                     (with_reducible refine (HPut.out _ (by (repeat' (with_reducible (first | exact Mod.refl _ _ | assumption | refine Mod.alloc ?_ _ | refine Mod.drew ?_ | refine Mod.drewN ?_ _ | refine Mod.setCell ?_ (by first | exact Or.inl rfl | (right; simp; done) | (right; simp; omega) | (left; simp; done)) _))))).mono ?_)
                     rintro e w8 ⟨rfl, -, hm8⟩
                     rw [HWe.out q HQr.out, ← HEe.out]
                     have HM8 := Lib.hid (Mod.trans (C := fun _ => False) (w := w) (HM7.out.alloc _) hm8 fun b hb => by right; omega)
                     clear hm8)
                  | fail)
                refine bodyPost_ret (v := .tuple #[.pointer none, .int .i64 4]) (by simp [results, Tryz.results21, go_sem]) rfl (TOf.no HO.out HM8.out)
end Go.Proofs.YtmalclclopnlnaaGreat
