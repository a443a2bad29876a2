/-
  Rows told by texts.
-/
import Derived.Test.YtidbgfmknhlmnaaGreatDoorSame
import Derived.Test.YtidbgfmknhlmnaaGreatDoorFieldsB
import Derived.Test.YtidbgfmknhlmnaaGreatDoorFieldsR
namespace Go.Proofs.YtidbgfmknhlmnaaGreatDoor
open Go.RowKit Go.Shelf
attribute [local go_sem] Oper.semAt_some

theorem fblank_any (r : Nat) (w : World) : Calls Tryz.prog 72 #[.int .i32 r] w fun e w' => e = .returned (.bool (blankR r)) ∧ w = w' := by
  obtain ⟨x1, e1⟩ : ∃ x, ((r : Int) == 32) = x := ⟨_, rfl⟩
  obtain ⟨x2, e2⟩ : ∃ x, ((r : Int) == 9) = x := ⟨_, rfl⟩
  obtain ⟨x3, e3⟩ : ∃ x, ((r : Int) == 13) = x := ⟨_, rfl⟩
  have hk : ∀ n : Nat, (r == n) = ((r : Int) == (n : Int)) := fun n => by
    rw [Bool.eq_iff_iff, beq_iff_eq, beq_iff_eq]; omega
  have hb : blankR r = (x1 || x2 || x3) := by
    unfold blankR
    rw [hk 32, hk 9, hk 13, ← e1, ← e2, ← e3]; rfl
  rw [hb]
  clear hb hk
  cases x1 <;> cases x2 <;> cases x3
  all_goals
    go_enter Tryz.func72, Tryz.ntmps72
    go_wp2
    go_ret
    exact ⟨rfl, rfl⟩
theorem fields_any (l : Bs) (w : World) (hl : l.length ≤ 4294967296) : Calls Tryz.prog 71 #[.string ⟨l.toArray⟩, .func (.func 72) #[] #[]] w fun e w' =>
    ∃ A c, e = .returned (.slice A (fldA [] l).length c) ∧ Rd (fun b => w.heap.size ≤ b ∧ b < w'.heap.size) w' 1 csB A (fldA [] l) ∧ Mod (fun _ => False) w w' := by
  have h := Any.strings_FieldsFunc_runes Tryz.lays229 72 #[] (enters_of Tryz.func72 (by kernel_rfl) rfl) blankR ⟨l.toArray⟩ w hl (fun W x _ _ => by
    unfold FnGives
    refine (fblank_any x W).mono ?_
    rintro e w' ⟨rfl, rfl⟩
    exact ⟨rfl, 0, rfl⟩) (by kernel_rfl) (by kernel_rfl)
  change Calls Tryz.prog 71 _ _ (fun e w' => ∃ A, e = .returned (.slice (some ⟨A, 0, none⟩) (Lib.goFieldsP blankR ⟨l.toArray⟩).length (Lib.goFieldsP blankR ⟨l.toArray⟩).length) ∧ w.heap.size ≤ A ∧
      w'.ownsRow w.heap.size 9 1 (.slice (some ⟨A, 0, none⟩) (Lib.goFieldsP blankR ⟨l.toArray⟩).length (Lib.goFieldsP blankR ⟨l.toArray⟩).length) (Lib.goFieldsP blankR ⟨l.toArray⟩).length ((Lib.goFieldsP blankR ⟨l.toArray⟩).map Value.string) ∧ Below w.heap.size w w') at h
  rw [goFields_eq, List.length_map, List.map_map] at h
  refine h.mono ?_
  rintro e w' ⟨A, rfl, hA, hown, hb⟩
  have hown' : OwnS w.heap.size 9 1 csB w' (.slice (some ⟨A, 0, none⟩) (fldA [] l).length (fldA [] l).length) (fldA [] l) := by
    unfold OwnS
    rw [flat_csB]
    exact hown
  obtain ⟨A', c', hv, hr, hfr, -⟩ := hown'.rd csB_len
  injection hv with e1 e2 e3
  subst e1
  exact ⟨_, _, rfl, hr.mono fun b hb => hfr b hb, Mod.of_below hb _ (fun _ h1 h2 => by omega)⟩

/-- What a call for a row hands back. -/
def RowV (w w' : World) (v : Value) (o : Option (List Nat)) : Prop :=
  match o with
  | none => v = .tuple #[.slice none 0 0, .bool false]
  | some ns => ∃ s, v = .tuple #[s, .bool true] ∧ OwnS w.heap.size 21 1 csI w' s (natI ns)

set_option maxRecDepth 100000 in
set_option maxHeartbeats 4000000 in
theorem frow_any (l : Bs) (w : World) (hl : l.length ≤ 1000000) : Calls Tryz.prog 48 #[.string ⟨l.toArray⟩] w fun e w' => ∃ v, e = .returned v ∧ RowV w w' v (rowOf l) ∧ Mod (fun _ => False) w w' := by
  have HF := Lib.hid (fields_any l w (by omega))
  have HTr := Lib.hid (fun X => ftrim_any l X (by omega))
  have HRO := Lib.hid (rowOf_P l)
  obtain ⟨R, hR⟩ : ∃ R, R = rowOf l := ⟨_, rfl⟩
  rw [← hR] at HRO ⊢
  clear hR
  obtain ⟨ps, hps⟩ : ∃ ps, ps = fldA [] l := ⟨_, rfl⟩
  rw [← hps] at HF HRO
  have hpl : ps.length ≤ l.length + 1 := by rw [hps]; exact (fldA_len l []).2
  have HPM := Lib.hid (show ∀ x ∈ ps, x.length ≤ 9223372036854775807 from fun x hx => by rw [hps] at hx; have := (fldA_len l []).1 x hx; simp at this; omega)
  obtain ⟨n, hn⟩ : ∃ n, n = ps.length := ⟨_, rfl⟩
  rw [← hn] at HF hpl
  have HN := Lib.hid hn
  obtain ⟨tr, htr⟩ : ∃ tr, tr = trimB l := ⟨_, rfl⟩
  rw [← htr] at HTr HRO
  clear hps hn htr
  go_enter Tryz.func48, Tryz.ntmps48
  go_wp2_with (first
    | (go_at_call 71
       refine HF.out.mono ?_
       rintro e w1 ⟨A, c, rfl, hrd, hm1⟩
       have HRd := Lib.hid hrd
       have HM1 := Lib.hid hm1
       have H1 := Lib.hid (OwnS.nil w1.heap.size 21 1 csI w1)
       clear hrd hm1)
    | fail)
  go_loopw [4, 12] (fun v i wr => ∃ (k : Nat) (ns : List Nat), k ≤ n ∧ i = .int .i64 k ∧ ns.length = k ∧ OwnS w1.heap.size 21 1 csI wr v (natI ns) ∧ rowP ns (ps.drop k) = rowP [] ps ∧ Mod (fun _ => False) w1 wr) (fun _ i _ => n - (intOf i).toNat)
  case atStart => exact ⟨0, [], Nat.zero_le _, rfl, rfl, H1.out, by simp, Mod.refl _ _⟩
  case round =>
    obtain ⟨k, ns, hk, rfl, hns, hown, hrp, hm⟩ := hrel
    have HO := Lib.hid hown
    have HP := Lib.hid hrp
    have HM := Lib.hid hm
    have HNs := Lib.hid hns
    clear hown hrp hm hns H1 HF
    by_cases hlt : k < n
    · have hkp : k < ps.length := by rw [← HN.out]; exact hlt
      obtain ⟨b1, o1, rfl, -, hc1⟩ := HRd.out.mod HM.out (fun b hb => ⟨hb.2, id⟩) (by omega)
      obtain ⟨x, hx⟩ : ∃ x, x = ps[k] := ⟨_, rfl⟩
      have q1 : wr.cell? ⟨b1, o1 + k, none⟩ = some (.string ⟨x.toArray⟩) := by rw [hx]; have := hc1 k hkp 0 _ rfl; simpa using this
      have HD := Lib.hid (show ps.drop k = x :: ps.drop (k + 1) by rw [hx]; exact List.drop_eq_getElem_cons hkp)
      have HC := Lib.hid (fun X => fcode_any x X (by rw [hx]; exact HPM.out _ (List.getElem_mem _)))
      unfold codeV at HC
      have HP2 := Lib.hid (show rowP [] ps = (match codeOf x with | none => none | some n => rowP (ns ++ [n]) (ps.drop (k + 1))) from HP.out.symm.trans (by rw [HD.out]; rfl))
      clear hc1 hx
      generalize codeOf x = o at *
      cases o with
      | none =>
        simp only [Option.getD_none, Option.isSome_none] at HC
        have HF := Lib.hid (show R = none by
          have h := HP2.out
          simp only at h
          rw [HRO.out, h]; simp)
        go_wp2_with (go_at_call 47; refine (HC.out _).mono ?_; rintro e w2 ⟨rfl, hm2⟩)
        refine bodyPost_ret (v := .tuple #[.slice none 0 0, .bool false]) (by simp [results, Tryz.results48, go_sem]) rfl ⟨_, rfl, ?_, (HM1.out.trans' HM.out).trans' hm2⟩
        rw [HF.out]; rfl
      | some m =>
        simp only [Option.getD_some, Option.isSome_some] at HC
        have HP3 := Lib.hid (show rowP (ns ++ [m]) (ps.drop (k + 1)) = rowP [] ps from HP2.out.symm)
        clear HP2
        have hlen : (natI ns).length = k := by rw [natI_len]; exact HNs.out
        go_wp2_with (first
          | (go_at_call 47
             refine (HC.out _).mono ?_
             rintro e w2 ⟨rfl, hm2⟩
             have HO2 := Lib.hid (HO.out.mod hm2 (fun _ _ => id))
             have HM2 := Lib.hid (HM.out.trans' hm2)
             clear hm2)
          | (at_builtin
             refine wpList_app1 (w0 := w1) (xs := natI ns) (y := (m : Int)) rfl (.tmp 23) (.tmp 25) rfl i32s_t csI_len csI_one rfl HO2.out HM2.out rfl ?_ ?_ ?_ ?_
             · rfl
             · simp [maxLen]; omega
             · rw [hlen]; omega
             intro v' w3 hown3 hm3 _ _
             have HO3 := Lib.hid hown3
             have HM3 := Lib.hid hm3
             clear hown3 hm3)
          | fail)
        exact ⟨⟨k + 1, ns ++ [m], by omega, by go_num, by rw [List.length_append, HNs.out]; rfl, by rw [natI_snoc]; exact HO3.out, HP3.out, HM3.out⟩, by simp only [intOf]; omega⟩
    · obtain rfl : k = n := by omega
      have HE := Lib.hid (show some ns = rowP [] ps by rw [← HP.out, HN.out, List.drop_length]; rfl)
      rw [← HE.out] at HRO
      by_cases hk0 : k = 0
      · subst hk0
        have hns0 : ns = [] := List.eq_nil_of_length_eq_zero HNs.out
        subst hns0
        have HF := Lib.hid (show R = none by rw [HRO.out]; simp)
        have hvl : ∃ c', u4 = .slice none 0 c' ∨ ∃ A', u4 = .slice A' 0 c' := by
          obtain ⟨A', c', hv, -⟩ := HO.out.rd csI_len
          exact ⟨c', .inr ⟨A', hv⟩⟩
        obtain ⟨A', c', hv⟩ : ∃ A' c', u4 = .slice A' 0 c' := by
          obtain ⟨A', c', hv, -⟩ := HO.out.rd csI_len
          exact ⟨A', c', hv⟩
        subst hv
        clear hvl
        go_wp2
        refine bodyPost_ret (v := .tuple #[.slice none 0 0, .bool false]) (by simp [results, Tryz.results48, go_sem]) rfl ⟨_, rfl, ?_, HM1.out.trans' HM.out⟩
        rw [HF.out]; rfl
      · obtain ⟨A', c', hv⟩ : ∃ A' c', u4 = .slice A' k c' := by
          obtain ⟨A', c', hv, -⟩ := HO.out.rd csI_len
          rw [natI_len, HNs.out] at hv
          exact ⟨A', c', hv⟩
        have hke : ((k : Int) == 0) = false := by rw [beq_eq_false_iff_ne]; omega
        have hse : ns.isEmpty = false := by
          cases ns with
          | nil => exact absurd HNs.out.symm hk0
          | cons a t => rfl
        by_cases htr : tr = l
        · have HF := Lib.hid (show R = some ns by rw [HRO.out]; simp [hse, htr])
          subst htr
          have HO2 := Lib.hid (HO.out.less (Nat.le_trans HM1.out.size (Nat.le_refl _)))
          subst hv
          clear hse
          go_wp2_with (go_at_call 69; refine (HTr.out _).mono ?_; rintro e w2 ⟨rfl, hm2⟩)
          refine bodyPost_ret (v := .tuple #[.slice A' k c', .bool true]) (by simp [results, Tryz.results48, go_sem]) rfl ⟨_, rfl, ?_, (HM1.out.trans' HM.out).trans' hm2⟩
          rw [HF.out]
          exact ⟨_, rfl, HO2.out.mod hm2 (fun _ _ => id)⟩
        · have HF := Lib.hid (show R = none by rw [HRO.out]; simp [htr])
          have htl : (tr == l) = false := by simp [htr]
          subst hv
          clear hse htr
          go_wp2_with (go_at_call 69; refine (HTr.out _).mono ?_; rintro e w2 ⟨rfl, hm2⟩)
          refine bodyPost_ret (v := .tuple #[.slice none 0 0, .bool false]) (by simp [results, Tryz.results48, go_sem]) rfl ⟨_, rfl, ?_, (HM1.out.trans' HM.out).trans' hm2⟩
          rw [HF.out]; rfl

set_option maxRecDepth 100000 in
set_option maxHeartbeats 4000000 in
theorem rrow_any (l : Bs) (w : World) (hl : l.length ≤ 1000000) : Calls Tryz.prog 33 #[.string ⟨l.toArray⟩] w fun e w' => ∃ v, e = .returned v ∧ RowV w w' v (rowOf l) ∧ Mod (fun _ => False) w w' := by
  obtain ⟨R, hR⟩ : ∃ R, R = rowOf l := ⟨_, rfl⟩
  rw [← hR]
  have HR := Lib.hid hR
  clear hR
  rcases List.eq_nil_or_concat l with rfl | ⟨t, c, rfl⟩
  · have HF := Lib.hid (show R = none by rw [HR.out]; rfl)
    go_enter Tryz.func33, Tryz.ntmps33
    go_wp2
    refine bodyPost_ret (v := .tuple #[.slice none 0 0, .bool false]) (by simp [results, Tryz.results33, go_sem]) rfl ⟨_, rfl, ?_, Mod.refl _ _⟩
    rw [HF.out]; rfl
  rw [List.concat_eq_append] at *
  obtain ⟨l, hl'⟩ : ∃ l, l = t ++ [c] := ⟨_, rfl⟩
  rw [← hl'] at HR hl ⊢
  have hpos : 0 < l.length := by rw [hl']; simp
  obtain ⟨b, hb⟩ : ∃ b, b = l[0] := ⟨_, rfl⟩
  have h0 : ∀ h, (⟨l.toArray⟩ : ByteArray)[0]'h = b := fun h => by rw [hb]; rfl
  have hlast : ∀ h, (⟨l.toArray⟩ : ByteArray)[l.length - 1]'h = c := fun h => by
    show l[l.length - 1] = c
    subst hl'
    simp
  have hlast' : ∀ (i : Nat) (_ : i = l.length - 1) h, (⟨l.toArray⟩ : ByteArray)[i]'h = c := fun i hi h => by subst hi; exact hlast h
  have hne : l.toArray.toList.isEmpty = false := by
    clear h0 hlast hlast' hb HR hl'
    cases l with
    | nil => simp at hpos
    | cons a r => rfl
  have hid := trimB_id (l := l) (by intro e; rw [e] at hpos; simp at hpos)
  have hbl : l = b :: l.drop 1 := by rw [hb]; exact (List.drop_eq_getElem_cons (l := l) (i := 0) hpos)
  have hRb : blankB b = true ∨ blankB c = true → R = none := fun h => by
    rw [HR.out]
    unfold rowOf
    refine if_pos (.inr fun ht => ?_)
    obtain ⟨⟨b', r', e1, f1⟩, ⟨r2, b2, e2, f2⟩⟩ := hid.1 ht
    rw [hbl] at e1
    injection e1 with e1 _
    rw [hl'] at e2
    have e2 := (List.append_inj' e2 rfl).2
    injection e2 with e2 _
    subst e1 e2
    rcases h with h | h
    · rw [f1] at h; cases h
    · rw [f2] at h; cases h
  have hRg : blankB b = false → blankB c = false → R = rowA [] [] l := fun g1 g2 => by
    rw [HR.out]
    unfold rowOf
    refine if_neg fun h => ?_
    rcases h with h | h
    · rw [h] at hpos; simp at hpos
    · exact h (hid.2 ⟨⟨b, _, hbl, g1⟩, ⟨t, c, hl', g2⟩⟩)
  have HRb := Lib.hid hRb
  have HRg := Lib.hid hRg
  have HB := Lib.hid (fun X => rblank_any b X)
  have HC := Lib.hid (fun X => rblank_any c X)
  clear hb hl' hid hbl hRb hRg
  cases hbb : blankB b with
  | true =>
    have HF := Lib.hid (HRb.out (.inl hbb))
    rw [hbb] at HB
    clear hbb
    go_enter Tryz.func33, Tryz.ntmps33
    go_wp2_with (go_at_call 54; refine (HB.out _).mono ?_; rintro e w2 ⟨rfl, rfl⟩)
    refine bodyPost_ret (v := .tuple #[.slice none 0 0, .bool false]) (by simp [results, Tryz.results33, go_sem]) rfl ⟨_, rfl, ?_, Mod.refl _ _⟩
    rw [HF.out]; rfl
  | false =>
    cases hcb : blankB c with
    | true =>
      have HF := Lib.hid (HRb.out (.inr hcb))
      rw [hbb] at HB
      rw [hcb] at HC
      clear hbb hcb
      go_enter Tryz.func33, Tryz.ntmps33
      go_wp2_with (first
        | (go_at_call 54; (with_reducible refine (HB.out _).mono ?_); rintro e w2 ⟨rfl, rfl⟩)
        | (go_at_call 54; (with_reducible refine (HC.out _).mono ?_); rintro e w2 ⟨rfl, rfl⟩)
        | fail)
      refine bodyPost_ret (v := .tuple #[.slice none 0 0, .bool false]) (by simp [results, Tryz.results33, go_sem]) rfl ⟨_, rfl, ?_, Mod.refl _ _⟩
      rw [HF.out]; rfl
    | false =>
      have HF := Lib.hid (HRg.out hbb hcb)
      rw [hbb] at HB
      rw [hcb] at HC
      have H0 := Lib.hid (OwnS.nil w.heap.size 21 1 csI w)
      clear hbb hcb
      go_enter Tryz.func33, Tryz.ntmps33
      go_wp2_with (first
        | (go_at_call 54; (with_reducible refine (HB.out _).mono ?_); rintro e w2 ⟨rfl, rfl⟩)
        | (go_at_call 54; (with_reducible refine (HC.out _).mono ?_); rintro e w2 ⟨rfl, rfl⟩)
        | fail)
      go_loopw [4, 5, 6] (fun v f i wr => ∃ (k j : Nat) (ns : List Nat), j ≤ k ∧ k ≤ l.length + 1 ∧ i = .int .i64 k ∧ f = .int .i64 j ∧ ns.length ≤ k ∧ OwnS w.heap.size 21 1 csI wr v (natI ns) ∧ Mod (fun _ => False) w wr ∧
          ((k ≤ l.length → rowA ns ((l.drop j).take (k - j)) (l.drop k) = R) ∧ (k = l.length + 1 → R = some ns))) (fun _ _ i _ => l.length + 1 - (intOf i).toNat)
      case atStart => exact ⟨0, 0, [], Nat.le_refl _, Nat.zero_le _, rfl, rfl, Nat.le_refl _, H0.out, Mod.refl _ _, fun _ => by simp [← HF.out], fun h => by omega⟩
      case round =>
        obtain ⟨k, j, ns, hjk', hk, rfl, rfl, hns, hown, hm, hst⟩ := hrel
        have HO := Lib.hid hown
        have HM := Lib.hid hm
        have HSt := Lib.hid hst
        clear hown hm hst H0 HB HC HRb HRg hlast hlast' h0
        by_cases hk1 : k = l.length + 1
        · have HX := Lib.hid (HSt.out.2 hk1)
          have hg1 : decide ((k : Int) ≤ (l.length : Int)) = false := by simp; omega
          have hg2 : decide (k ≤ l.length) = false := by simp; omega
          go_wp2
          refine bodyPost_ret (v := .tuple #[u4, .bool true]) (by simp [results, Tryz.results33, go_sem]) rfl ⟨_, rfl, ?_, HM.out⟩
          rw [HX.out]
          exact ⟨_, rfl, HO.out⟩
        by_cases hkl : k < l.length
        · obtain ⟨b, hb⟩ : ∃ b, b = l[k] := ⟨_, rfl⟩
          have h7 : ∀ h, (⟨l.toArray⟩ : ByteArray)[k]'h = b := fun h => by rw [hb]; rfl
          have HD := Lib.hid (show l.drop k = b :: l.drop (k + 1) by rw [hb]; exact List.drop_eq_getElem_cons hkl)
          have HTk := Lib.hid (show (l.drop j).take (k + 1 - j) = (l.drop j).take (k - j) ++ [b] by
            have e : k + 1 - j = (k - j) + 1 := by omega
            rw [e, List.take_succ_eq_append_getElem (by simp; omega), List.getElem_drop, hb]
            simp only [show j + (k - j) = k by omega])
          have HB := Lib.hid (fun X => rblank_any b X)
          have hg1 : decide ((k : Int) ≤ (l.length : Int)) = true := by simp; omega
          clear hb
          cases hbb : blankB b with
          | false =>
            rw [hbb] at HB
            have HX := Lib.hid (show rowA ns ((l.drop j).take (k + 1 - j)) (l.drop (k + 1)) = R by
              have h := HSt.out.1 (by omega)
              rw [HD.out, rowA, if_neg (by simp [hbb])] at h
              rw [HTk.out]; exact h)
            clear hbb
            go_wp2_with (go_at_call 54; refine (HB.out _).mono ?_; rintro e w2 ⟨rfl, rfl⟩)
            exact ⟨⟨k + 1, j, ns, by omega, by omega, by go_num, rfl, by omega, HO.out, HM.out, fun _ => HX.out, fun h => by omega⟩, by simp only [intOf]; omega⟩
          | true =>
            rw [hbb] at HB
            have hcur : ∀ e : j = k, (l.drop j).take (k - j) = [] := fun e => by subst e; simp
            have hcur2 : j < k → (l.drop j).take (k - j) ≠ [] := fun hlt e => by
              have := congrArg List.length e
              simp at this; omega
            have HNext0 := Lib.hid (fun (e : j = k) => show (k + 1 ≤ l.length → rowA ns ((l.drop (k + 1)).take (k + 1 - (k + 1))) (l.drop (k + 1)) = R) ∧ (k + 1 = l.length + 1 → R = some ns) from by
              have h := HSt.out.1 (by omega)
              rw [HD.out, rowA, if_pos hbb, if_pos (hcur e)] at h
              exact ⟨fun _ => by rw [Nat.sub_self, List.take_zero]; exact h, fun h' => by omega⟩)
            have HNext1 := Lib.hid (fun (e : j < k) => show (match codeOf ((l.drop j).take (k - j)) with | none => R = none | some n => (k + 1 ≤ l.length → rowA (ns ++ [n]) ((l.drop (k + 1)).take (k + 1 - (k + 1))) (l.drop (k + 1)) = R) ∧ (k + 1 = l.length + 1 → R = some (ns ++ [n]))) from by
              have h := HSt.out.1 (by omega)
              rw [HD.out, rowA, if_pos hbb, if_neg (hcur2 e)] at h
              generalize codeOf ((l.drop j).take (k - j)) = o at *
              cases o with
              | none => exact h.symm
              | some n => exact ⟨fun _ => by rw [Nat.sub_self, List.take_zero]; exact h, fun h' => by omega⟩)
            clear hbb hcur hcur2
            by_cases hjk : j = k
            · subst hjk
              have HX := Lib.hid (HNext0.out rfl)
              have hgt : decide ((j : Int) < (j : Int)) = false := by simp
              have hgt2 : decide (j < j) = false := by simp
              go_wp2_with (first
                | (go_at_call 54; refine (HB.out _).mono ?_; rintro e w2 ⟨rfl, rfl⟩)
                  | fail)
              exact ⟨⟨j + 1, j + 1, ns, Nat.le_refl _, by omega, by go_num, by go_num, by omega, HO.out, HM.out, HX.out⟩, by simp only [intOf]; omega⟩
            · have hgt : decide ((j : Int) < (k : Int)) = true := by simp; omega
              have hgt2 : decide (j < k) = true := by simp; omega
              have HNx := Lib.hid (HNext1.out (by omega))
              have x3 : (⟨l.toArray⟩ : ByteArray).extract j k = ⟨((l.drop j).take (k - j)).toArray⟩ := mk_ext _ _ _
              have HCo := Lib.hid (fun X => rcode_any ((l.drop j).take (k - j)) X (by simp; omega))
              unfold codeV at HCo
              rw [← x3] at HCo
              clear x3
              generalize codeOf ((l.drop j).take (k - j)) = o at *
              cases o with
              | none =>
                simp only [Option.getD_none, Option.isSome_none] at HCo
                have HF := Lib.hid (show R = none from HNx.out)
                go_wp2_with (first
                  | (go_at_call 54; refine (HB.out _).mono ?_; rintro e w2 ⟨rfl, rfl⟩)
                  | (go_at_call 32; refine (HCo.out _).mono ?_; rintro e w3 ⟨rfl, rfl⟩)
                  | fail)
                refine bodyPost_ret (v := .tuple #[.slice none 0 0, .bool false]) (by simp [results, Tryz.results33, go_sem]) rfl ⟨_, rfl, ?_, HM.out⟩
                rw [HF.out]; rfl
              | some m =>
                simp only [Option.getD_some, Option.isSome_some] at HCo
                have hlen : (natI ns).length ≤ k := by rw [natI_len]; exact hns
                go_wp2_with (first
                  | (go_at_call 54; refine (HB.out _).mono ?_; rintro e w2 ⟨rfl, rfl⟩)
                  | (go_at_call 32; refine (HCo.out _).mono ?_; rintro e w3 ⟨rfl, rfl⟩)
                  | (at_builtin
                     refine wpList_app1 (w0 := w) (xs := natI ns) (y := (m : Int)) rfl (.tmp 54) (.tmp 56) rfl i32s_t csI_len csI_one rfl HO.out HM.out rfl ?_ ?_ ?_ ?_
                     · rfl
                     · simp [maxLen]; omega
                     · omega
                     intro v' w4 hown4 hm4 _ _
                     have HO4 := Lib.hid hown4
                     have HM4 := Lib.hid hm4
                     clear hown4 hm4)
                  | fail)
                exact ⟨⟨k + 1, k + 1, ns ++ [m], Nat.le_refl _, by omega, by go_num, by go_num, by simp; omega, by rw [natI_snoc]; exact HO4.out, HM4.out, HNx.out⟩, by simp only [intOf]; omega⟩
        · obtain rfl : k = l.length := by omega
          have hg1 : decide ((l.length : Int) ≤ (l.length : Int)) = true := by simp
          have hg3 : decide ((l.length : Int) < (l.length : Int)) = false := by simp
          obtain ⟨k, hke⟩ : ∃ k, k = l.length := ⟨_, rfl⟩
          have hcur : ∀ e : j = l.length, (l.drop j).take (l.length - j) = [] := fun e => by subst e; simp
          have hcur2 : j < l.length → (l.drop j).take (l.length - j) ≠ [] := fun hlt e => by
            have := congrArg List.length e
            simp at this; omega
          have HNext0 := Lib.hid (fun (e : j = l.length) => show (l.length + 1 ≤ l.length → rowA ns ((l.drop (l.length + 1)).take (l.length + 1 - (l.length + 1))) (l.drop (l.length + 1)) = R) ∧ (l.length + 1 = l.length + 1 → R = some ns) from by
            have h := HSt.out.1 (by omega)
            rw [List.drop_length, rowA, if_pos (hcur e)] at h
            exact ⟨fun _ => by omega, fun h' => h.symm⟩)
          have HNext1 := Lib.hid (fun (e : j < l.length) => show (match codeOf ((l.drop j).take (l.length - j)) with | none => R = none | some n => (l.length + 1 ≤ l.length → rowA (ns ++ [n]) ((l.drop (l.length + 1)).take (l.length + 1 - (l.length + 1))) (l.drop (l.length + 1)) = R) ∧ (l.length + 1 = l.length + 1 → R = some (ns ++ [n]))) from by
            have h := HSt.out.1 (by omega)
            rw [List.drop_length, rowA, if_neg (hcur2 e)] at h
            generalize codeOf ((l.drop j).take (l.length - j)) = o at *
            cases o with
            | none => exact h.symm
            | some n => exact ⟨fun _ => by omega, fun h' => h.symm⟩)
          clear hcur hcur2 hke k
          by_cases hjk : j = l.length
          · subst hjk
            have HX := Lib.hid (HNext0.out rfl)
            have hgt : decide ((l.length : Int) < (l.length : Int)) = false := by simp
            have hgt2 : decide (l.length < l.length) = false := by simp
            go_wp2
            exact ⟨⟨l.length + 1, l.length + 1, ns, Nat.le_refl _, by omega, by go_num, by go_num, by omega, HO.out, HM.out, HX.out.1, fun _ => HX.out.2 (by first | trivial | rfl)⟩, by simp only [intOf]; omega⟩
          · have hgt : decide ((j : Int) < (l.length : Int)) = true := by simp; omega
            have hgt2 : decide (j < l.length) = true := by simp; omega
            have HNx := Lib.hid (HNext1.out (by omega))
            have x3 : (⟨l.toArray⟩ : ByteArray).extract j l.length = ⟨((l.drop j).take (l.length - j)).toArray⟩ := mk_ext _ _ _
            have HCo := Lib.hid (fun X => rcode_any ((l.drop j).take (l.length - j)) X (by simp; omega))
            unfold codeV at HCo
            rw [← x3] at HCo
            clear x3
            generalize codeOf ((l.drop j).take (l.length - j)) = o at *
            cases o with
            | none =>
              simp only [Option.getD_none, Option.isSome_none] at HCo
              have HF := Lib.hid (show R = none from HNx.out)
              go_wp2_with (first
                | (go_at_call 32; refine (HCo.out _).mono ?_; rintro e w3 ⟨rfl, rfl⟩)
                | fail)
              refine bodyPost_ret (v := .tuple #[.slice none 0 0, .bool false]) (by simp [results, Tryz.results33, go_sem]) rfl ⟨_, rfl, ?_, HM.out⟩
              rw [HF.out]; rfl
            | some m =>
              simp only [Option.getD_some, Option.isSome_some] at HCo
              have hlen : (natI ns).length ≤ l.length := by rw [natI_len]; exact hns
              go_wp2_with (first
                | (go_at_call 32; refine (HCo.out _).mono ?_; rintro e w3 ⟨rfl, rfl⟩)
                | (at_builtin
                   refine wpList_app1 (w0 := w) (xs := natI ns) (y := (m : Int)) rfl (.tmp 54) (.tmp 56) rfl i32s_t csI_len csI_one rfl HO.out HM.out rfl ?_ ?_ ?_ ?_
                   · rfl
                   · simp [maxLen]; omega
                   · omega
                   intro v' w4 hown4 hm4 _ _
                   have HO4 := Lib.hid hown4
                   have HM4 := Lib.hid hm4
                   clear hown4 hm4)
                | fail)
              exact ⟨⟨l.length + 1, l.length + 1, ns ++ [m], Nat.le_refl _, by omega, by go_num, by go_num, by simp; omega, by rw [natI_snoc]; exact HO4.out, HM4.out, HNx.out.1, fun _ => HNx.out.2 (by first | trivial | rfl)⟩, by simp only [intOf]; omega⟩
end Go.Proofs.YtidbgfmknhlmnaaGreatDoor
