/-
  Texts of rows; lists of numbers compared.
-/
import Derived.Test.YtpcenfeaoomfhaaDoorFieldsG
import Derived.Test.YtpcenfeaoomfhaaDoorJnShelf
import Derived.Test.YtpcenfeaoomfhaaDoorOpenI
namespace Go.Proofs.YtpcenfeaoomfhaaDoor
open Go.RowKit Go.Shelf
attribute [local go_sem] Oper.semAt_some

theorem i32s_t : SliceT Tryd.prog 28 21 1 4 := SliceT.mk' (z := .int .i32 0) Tryd.underlying28 (by kernel_rfl) rfl (by decide)
set_option maxRecDepth 100000 in
set_option maxHeartbeats 1000000 in
theorem same_any (D1 D2 : Nat → Prop) (A B : Option Addr) (c d : Nat) (xs ys : List Int) (w : World) (hA : Rd D1 w 1 csI A xs) (hB : Rd D2 w 1 csI B ys) (hx : xs.length ≤ maxLen) (hy : ys.length ≤ maxLen) (h1 : ∀ b, D1 b → b < w.heap.size) (h2 : ∀ b, D2 b → b < w.heap.size) :
    Calls Tryd.prog 14 #[.slice A xs.length c, .slice B ys.length d] w fun e w' => e = .returned (.bool (decide (xs = ys))) ∧ Mod (fun _ => False) w w' := by
  unfold maxLen at hx hy
  obtain ⟨n, hn⟩ : ∃ n, n = xs.length := ⟨_, rfl⟩
  obtain ⟨m, hm⟩ : ∃ m, m = ys.length := ⟨_, rfl⟩
  rw [← hn] at hx ⊢
  rw [← hm] at hy ⊢
  have HN := Lib.hid hn
  have HM := Lib.hid hm
  have HA := Lib.hid hA
  have HB := Lib.hid hB
  have H1 := Lib.hid h1
  have H2 := Lib.hid h2
  obtain ⟨r, hr⟩ : ∃ r, r = decide (xs = ys) := ⟨_, rfl⟩
  rw [← hr]
  have HR := Lib.hid hr
  clear hn hm hA hB h1 h2 hr
  by_cases hnm : n = m
  · subst hnm
    have hne : ((n : Int) != (n : Int)) = false := by simp
    go_enter Tryd.func14, Tryd.ntmps14
    go_wp2
    go_loopw [5] (fun i wr => ∃ k : Nat, k ≤ n ∧ i = .int .i64 k ∧ xs.take k = ys.take k ∧ Mod (fun _ => False) w wr) (fun i _ => n - (intOf i).toNat)
    case atStart => exact ⟨0, Nat.zero_le _, rfl, by simp, Mod.refl _ _⟩
    case round =>
      obtain ⟨k, hk, rfl, he, hmw⟩ := hrel
      have HE := Lib.hid he
      have HMw := Lib.hid hmw
      clear he hmw
      by_cases hlt : k < n
      · have hkx : k < xs.length := by rw [← HN.out]; exact hlt
        have hky : k < ys.length := by rw [← HM.out]; exact hlt
        obtain ⟨b1, o1, rfl, -, q1⟩ := rdI (HA.out.mod HMw.out (fun b hb => ⟨H1.out b hb, id⟩)) hkx
        obtain ⟨b2, o2, rfl, -, q2⟩ := rdI (HB.out.mod HMw.out (fun b hb => ⟨H2.out b hb, id⟩)) hky
        obtain ⟨x, hx'⟩ : ∃ x, x = xs[k] := ⟨_, rfl⟩
        obtain ⟨y, hy'⟩ : ∃ y, y = ys[k] := ⟨_, rfl⟩
        rw [← hx'] at q1
        rw [← hy'] at q2
        have HTx := Lib.hid (show xs.take (k + 1) = xs.take k ++ [x] by rw [hx']; exact List.take_succ_eq_append_getElem hkx)
        have HTy := Lib.hid (show ys.take (k + 1) = ys.take k ++ [y] by rw [hy']; exact List.take_succ_eq_append_getElem hky)
        clear hx' hy'
        by_cases hxy : x = y
        · subst hxy
          have hne2 : (x != x) = false := by simp
          go_wp2
          go_quiet (fail)
          go_wp2
          exact ⟨⟨k + 1, by omega, by go_num, by rw [HTx.out, HTy.out, HE.out], HMw.out.drewN _⟩, by simp only [intOf]; omega⟩
        · have hne2 : (x != y) = true := by simp [hxy]
          have HF := Lib.hid (show r = false by
            rw [HR.out]
            simp only [decide_eq_false_iff_not]
            intro e
            subst e
            have := HTx.out.symm.trans HTy.out
            rw [List.append_cancel_left_eq] at this
            simp at this
            exact hxy this)
          clear hxy
          go_wp2
          go_quiet (fail)
          go_wp2
          go_ret
          exact ⟨by rw [HF.out]; rfl, HMw.out.drewN _⟩
      · obtain rfl : k = n := by omega
        have HT := Lib.hid (show r = true by
          rw [HR.out]
          have h := HE.out
          rw [HN.out, List.take_length] at h
          rw [← HN.out, HM.out, List.take_length] at h
          simpa using h)
        go_wp2
        go_ret
        exact ⟨by rw [HT.out]; rfl, HMw.out⟩
  · have hne : ((n : Int) != (m : Int)) = true := by simp; omega
    have HF := Lib.hid (show r = false by
      rw [HR.out]
      simp only [decide_eq_false_iff_not]
      intro e
      subst e
      exact hnm (HN.out.trans HM.out.symm))
    clear hnm
    go_enter Tryd.func14, Tryd.ntmps14
    go_wp2
    go_ret
    exact ⟨by rw [HF.out]; rfl, Mod.refl _ _⟩

theorem join_any {D : Nat → Prop} (A : Option Addr) (c : Nat) (xs : List Bs) (w : World) (hA : Rd D w 1 csB A xs) (hD : ∀ b, D b → b < w.heap.size) (hc : xs.length ≤ c) (hl : xs.length ≤ 140737488355328) (hj : (Lib.join xs [32]).length ≤ 140737488355328) :
    Calls Tryd.prog 27 #[.slice A xs.length c, .string ⟨#[32]⟩] w fun e w' => e = .returned (.string ⟨(Lib.join xs [32]).toArray⟩) ∧ Mod (fun _ => False) w w' := by
  rcases xs with _ | ⟨x, r⟩
  · have h := Any.strings_Join_none Tryd.lays156 Tryd.Builder_Extra_156 A c ⟨#[32]⟩ w
    change Calls Tryd.prog 27 _ _ (fun e w' => e = .returned (.string ⟨#[]⟩) ∧ w' = w) at h
    refine h.mono ?_
    rintro e w' ⟨rfl, rfl⟩
    exact ⟨rfl, Mod.refl _ _⟩
  · obtain ⟨b, off, rfl, hd, hcl⟩ := hA (by simp)
    have hmap : ((x :: r).map fun l : Bs => (⟨l.toArray⟩ : ByteArray)).map (·.data.toList) = x :: r := by
      rw [List.map_map]
      have : ((fun s : ByteArray => s.data.toList) ∘ fun l : Bs => (⟨l.toArray⟩ : ByteArray)) = id := by funext l; rfl
      rw [this, List.map_id]
    have h := Any.strings_Join Tryd.lays156 Tryd.Builder_Extra_156 b off c ((x :: r).map fun l : Bs => (⟨l.toArray⟩ : ByteArray)) ⟨#[32]⟩ w (fun j y hy => by
      rw [List.getElem?_map] at hy
      have hjl : j < (x :: r).length := by
        rcases Nat.lt_or_ge j (x :: r).length with h | h
        · exact h
        · rw [List.getElem?_eq_none h] at hy; cases hy
      rw [List.getElem?_eq_getElem hjl] at hy
      have hy := Option.some.inj hy
      subst hy
      have := hcl j hjl 0 _ rfl
      simpa using this) (hD b hd) (by rw [List.length_map]; exact hl) (by rw [List.length_map]; exact hc) (by rw [hmap]; exact hj)
    rw [hmap, List.length_map] at h
    change Calls Tryd.prog 27 _ _ (fun e w' => e = .returned (.string ⟨(Lib.join (x :: r) [32]).toArray⟩) ∧ Below w.heap.size w w') at h
    refine h.mono ?_
    rintro e w' ⟨rfl, hb⟩
    exact ⟨rfl, Mod.of_below hb _ (fun _ h1 h2 => by omega)⟩

set_option maxRecDepth 100000 in
set_option maxHeartbeats 1000000 in
theorem frtext_any (D : Nat → Prop) (A : Option Addr) (c : Nat) (xs : List Int) (w : World) (hA : Rd D w 1 csI A xs) (hl : xs.length ≤ 1000000) (hD : ∀ b, D b → b < w.heap.size) :
    Calls Tryd.prog 13 #[.slice A xs.length c] w fun e w' => e = .returned (.string ⟨(rtext xs).toArray⟩) ∧ Mod (fun _ => False) w w' := by
  have H0 := Lib.hid (OwnS.nil w.heap.size 9 1 csB w)
  obtain ⟨n, hn⟩ : ∃ n, n = xs.length := ⟨_, rfl⟩
  have hrl := rtext_len xs
  rw [← hn] at hl hrl ⊢
  have HRL := Lib.hid hrl
  have HN := Lib.hid hn
  have HA := Lib.hid hA
  have HD := Lib.hid hD
  obtain ⟨T, hT⟩ : ∃ T, T = rtext xs := ⟨_, rfl⟩
  rw [← hT]
  have HT := Lib.hid hT
  clear hn hA hD hT hrl
  go_enter Tryd.func13, Tryd.ntmps13
  go_wp2
  go_loopw [3, 8] (fun v i wr => ∃ k : Nat, k ≤ n ∧ i = .int .i64 k ∧ OwnS w.heap.size 9 1 csB wr v ((xs.take k).map ctext) ∧ Mod (fun _ => False) w wr) (fun _ i _ => n - (intOf i).toNat)
  case atStart => exact ⟨0, Nat.zero_le _, rfl, H0.out, Mod.refl _ _⟩
  case round =>
    obtain ⟨k, hk, rfl, hown, hm⟩ := hrel
    have HO := Lib.hid hown
    have HM := Lib.hid hm
    clear hown hm H0
    by_cases hlt : k < n
    · have hkx : k < xs.length := by rw [← HN.out]; exact hlt
      obtain ⟨b1, o1, rfl, -, q1⟩ := rdI (HA.out.mod HM.out (fun b hb => ⟨HD.out b hb, id⟩)) hkx
      obtain ⟨x, hx⟩ : ∃ x, x = xs[k] := ⟨_, rfl⟩
      rw [← hx] at q1
      have HTx := Lib.hid (show (xs.take (k + 1)).map ctext = (xs.take k).map ctext ++ [ctext x] by rw [List.take_succ_eq_append_getElem hkx, List.map_append, ← hx]; rfl)
      have hlen : ((xs.take k).map ctext).length = k := by simp; omega
      clear hx
      have HC := Lib.hid (fun X => fctext_any x X)
      obtain ⟨t, ht⟩ : ∃ t, t = ctext x := ⟨_, rfl⟩
      rw [← ht] at HC HTx
      clear ht
      go_wp2_with (first
        | (go_at_call 11
           refine (HC.out _).mono ?_
           rintro e w2 ⟨rfl, hm2⟩
           have HO2 := Lib.hid (HO.out.mod hm2 (fun _ _ => id))
           have HM2 := Lib.hid (HM.out.trans' hm2)
           clear hm2)
        | (at_builtin
           refine wpList_app1 (w0 := w) (xs := (xs.take k).map ctext) (y := t) rfl (.tmp 12) (.tmp 15) rfl strs_t csB_len csB_one rfl HO2.out HM2.out rfl ?_ ?_ ?_ ?_
           · rfl
           · simp [maxLen]; omega
           · rw [hlen]; omega
           intro v' w3 hown3 hm3 _ _
           have HO3 := Lib.hid hown3
           have HM3 := Lib.hid hm3
           clear hown3 hm3)
        | fail)
      exact ⟨⟨k + 1, by omega, by go_num, by rw [HTx.out]; exact HO3.out, HM3.out⟩, by simp only [intOf]; omega⟩
    · obtain rfl : k = n := by omega
      have hxe : (xs.take k).map ctext = xs.map ctext := by rw [HN.out, List.take_length]
      have hown := HO.out
      rw [hxe] at hown
      obtain ⟨A2, c2, hv, hrd, hfr, -⟩ := hown.rd csB_len
      have hcap : (xs.map ctext).length ≤ c2 := (OwnS.cap hown hv).1
      have hcall := join_any A2 c2 (xs.map ctext) wr hrd (fun b hb => (hfr b hb).2) hcap (by rw [List.length_map, ← HN.out]; omega) (by
        show (rtext xs).length ≤ _
        have := HRL.out
        omega)
      rw [List.length_map, ← HN.out] at hcall hv
      have HCall := Lib.hid (show Calls Tryd.prog 27 #[.slice A2 k c2, .string ⟨#[32]⟩] wr fun e w' => e = .returned (.string ⟨T.toArray⟩) ∧ Mod (fun _ => False) wr w' by rw [HT.out]; exact hcall)
      subst hv
      clear hxe hown hrd hfr hcap hcall
      go_wp2_with (go_at_call 27; refine HCall.out.mono ?_; rintro e w3 ⟨rfl, hm3⟩)
      go_ret
      exact ⟨rfl, HM.out.trans' hm3⟩

set_option maxRecDepth 100000 in
set_option maxHeartbeats 1000000 in
theorem rrtext_any (D : Nat → Prop) (A : Option Addr) (c : Nat) (xs : List Int) (w : World) (hA : Rd D w 1 csI A xs) (hl : xs.length ≤ 1000000) (hD : ∀ b, D b → b < w.heap.size) :
    Calls Tryd.prog 20 #[.slice A xs.length c] w fun e w' => e = .returned (.string ⟨(rtext xs).toArray⟩) ∧ Mod (fun _ => False) w w' := by
  obtain ⟨n, hn⟩ : ∃ n, n = xs.length := ⟨_, rfl⟩
  rw [← hn] at hl ⊢
  have HN := Lib.hid hn
  have HA := Lib.hid hA
  have HD := Lib.hid hD
  obtain ⟨T, hT⟩ : ∃ T, T = rtext xs := ⟨_, rfl⟩
  rw [← hT]
  have HT := Lib.hid hT
  clear hn hA hD hT
  go_enter Tryd.func20, Tryd.ntmps20
  go_wp2
  go_loopw [3, 4] (fun s i wr => ∃ k : Nat, k ≤ n ∧ i = .int .i64 k ∧ s = .string ⟨(rtext (xs.take k)).toArray⟩ ∧ Mod (fun _ => False) w wr) (fun _ i _ => n - (intOf i).toNat)
  case atStart => exact ⟨0, Nat.zero_le _, rfl, rfl, Mod.refl _ _⟩
  case round =>
    obtain ⟨k, hk, rfl, rfl, hm⟩ := hrel
    have HM := Lib.hid hm
    clear hm
    by_cases hlt : k < n
    · have hkx : k < xs.length := by rw [← HN.out]; exact hlt
      obtain ⟨b1, o1, rfl, -, q1⟩ := rdI (HA.out.mod HM.out (fun b hb => ⟨HD.out b hb, id⟩)) hkx
      obtain ⟨x, hx⟩ : ∃ x, x = xs[k] := ⟨_, rfl⟩
      rw [← hx] at q1
      have HTx := Lib.hid (show xs.take (k + 1) = xs.take k ++ [x] by rw [hx]; exact List.take_succ_eq_append_getElem hkx)
      have HL := Lib.hid (show (xs.take k).length = k by simp; omega)
      clear hx
      have HC := Lib.hid (fun X => rctext_any x X)
      have hsz1 : (rtext (xs.take k)).length ≤ 7000000 := by have := rtext_len (xs.take k); have := HL.out; omega
      have hsz2 := ctext_len x
      by_cases hk0 : k = 0
      · subst hk0
        rw [Nat.add_zero] at q1
        have hsz3 : (rtext []).length ≤ 7000000 := by rw [rtext_zero]; simp
        have HE := Lib.hid (show rtext (xs.take 1) = [] ++ ctext x by rw [HTx.out]; exact rtext_one x)
        go_wp2_with (go_at_call 19; refine (HC.out _).mono ?_; rintro e w2 ⟨rfl, hm2⟩)
        refine ⟨⟨1, by omega, rfl, ?_, HM.out.trans' hm2⟩, by show n - 1 < n - 0; omega⟩
        rw [HE.out]
        exact congrArg Value.string (mk_app [] (ctext x))
      · have hg : decide (0 < (k : Int)) = true := by simp; omega
        have hg2 : decide (0 < k) = true := by simp; omega
        have HE := Lib.hid (show rtext (xs.take (k + 1)) = rtext (xs.take k) ++ [32] ++ ctext x by
          rw [HTx.out]
          exact rtext_snoc _ _ (fun e => by have := HL.out; rw [e] at this; simp at this; omega))
        go_wp2_with (go_at_call 19; refine (HC.out _).mono ?_; rintro e w2 ⟨rfl, hm2⟩)
        refine ⟨⟨k + 1, by omega, by go_num, ?_, HM.out.trans' hm2⟩, by simp only [intOf]; omega⟩
        rw [HE.out]
        refine congrArg Value.string ?_
        rw [show (⟨#[32]⟩ : ByteArray) = ⟨([32] : Bs).toArray⟩ from rfl, mk_app, mk_app]
    · obtain rfl : k = n := by omega
      have HE := Lib.hid (show rtext (xs.take k) = T by rw [HN.out, List.take_length, HT.out])
      go_wp2
      go_ret
      exact ⟨ret_str (a := rtext (xs.take k)) HE.out, HM.out⟩
end Go.Proofs.YtpcenfeaoomfhaaDoor
