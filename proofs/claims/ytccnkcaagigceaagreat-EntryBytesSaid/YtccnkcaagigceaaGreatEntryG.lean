/-
  The library's ContainsFunc, DeleteFunc at attributes.
-/
import Derived.Test.YtccnkcaagigceaaGreatEntryF
import Derived.Deep.DeepFit
namespace Go.Proofs.YtccnkcaagigceaaGreat
open Go.RowKit Go.Shelf
attribute [local go_sem] Oper.semAt_some

theorem idxA_any (p : At → Bool) (xs : List At) : decide (0 ≤ idxA p xs) = xs.any p := by
  unfold idxA
  cases h : xs.findIdx? p with
  | none =>
    rw [List.findIdx?_eq_none_iff] at h
    have : xs.any p = false := by rw [List.any_eq_false]; intro x hx; simp [h x hx]
    rw [this]; rfl
  | some i =>
    obtain ⟨hi, hp, _⟩ := List.findIdx?_eq_some_iff_getElem.1 h
    have : xs.any p = true := List.any_eq_true.2 ⟨_, List.getElem_mem hi, hp⟩
    rw [this, decide_eq_true_eq]
    show (0 : Int) ≤ (i : Int)
    omega
theorem acontains_any (g : Nat) (lb : Array Value) (p : At → Bool) (D : Nat → Prop) (A : Option Addr) (c : Nat) (xs : List At) (C : Nat → Prop) (w0 w : World) (eg : ∀ args w, (callFunc g args).run Tryz.prog w = .ok (.enter g args) w)
    (hp : PredC g lb p xs C w0) (h0 : Mod C w0 w) (hA : Rd D w 2 At.cs A xs) (hd : ∀ b, D b → b < w.heap.size) (hl : xs.length ≤ maxLen) :
    Calls Tryz.prog 43 #[.slice A xs.length c, .func (.func g) #[] lb] w fun e w' => e = .returned (.bool (xs.any p)) ∧ Mod (fun _ => False) w w' := by
  have H := Lib.hid (aindex_any g lb p D A c xs C w0 w eg hp h0 hA hd hl)
  obtain ⟨n, hn⟩ : ∃ n, n = xs.length := ⟨_, rfl⟩
  rw [← hn] at H ⊢
  obtain ⟨z, hz⟩ : ∃ z, z = idxA p xs := ⟨_, rfl⟩
  have HB := Lib.hid (idxA_any p xs)
  rw [← hz] at H HB
  clear hz hn hp h0 hA hl hd
  go_enter Tryz.func43, Tryz.ntmps43
  go_wp2_with (go_at_call 60; refine H.out.mono ?_; rintro e w' ⟨rfl, hm⟩)
  go_ret
  exact ⟨ret_bool HB.out, hm⟩
theorem zero_at : ∀ w, (zeroValue 52).run Tryz.prog w = .ok (.agg #[.string ⟨#[]⟩, .string ⟨#[]⟩]) w := fun w => by kernel_rfl
set_option maxRecDepth 100000 in
set_option maxHeartbeats 4000000 in
theorem adelete_any (g : Nat) (lb : Array Value) (p : At → Bool) (base : Nat) (A : Option Addr) (c : Nat) (xs : List At) (w : World) (eg : ∀ args w, (callFunc g args).run Tryz.prog w = .ok (.enter g args) w)
    (hown : OwnS base 52 2 At.cs w (.slice A xs.length c) xs) (hp : PredC g lb p xs (fun b => (Value.slice A xs.length c).ownBlock = some b) w) (hl : xs.length ≤ 1099511627776) :
    Calls Tryz.prog 44 #[.slice A xs.length c, .func (.func g) #[] lb] w fun e w' => ∃ A' c', e = .returned (.slice A' (xs.filter fun x => !p x).length c') ∧ OwnS base 52 2 At.cs w' (.slice A' (xs.filter fun x => !p x).length c') (xs.filter fun x => !p x) ∧
      (Value.slice A' (xs.filter fun x => !p x).length c').ownBlock = (Value.slice A xs.length c).ownBlock ∧ Mod (fun b => (Value.slice A xs.length c).ownBlock = some b) w w' := by
  obtain ⟨A0, c0, he0, hrd, hfr, hml⟩ := OwnS.rd hown At.cs_len
  injection he0 with e1 e2 e3
  subst e1 e3
  have HI := Lib.hid (aindex_any g lb p _ A c xs _ w w eg hp (Mod.refl _ _) hrd (fun b hb => (hfr b hb).2) hml)
  obtain ⟨q, hq⟩ : ∃ q, q = fun x => !p x := ⟨_, rfl⟩
  rw [← hq]
  cases hidx : xs.findIdx? p with
  | none =>
    have hz : idxA p xs = -1 := by unfold idxA; rw [hidx]
    have hfl : xs.filter q = xs := by
      rw [List.filter_eq_self]
      intro x hx
      rw [hq]; simp [List.findIdx?_eq_none_iff.1 hidx x hx]
    rw [hz] at HI
    rw [hfl]
    obtain ⟨n, hn⟩ : ∃ n, n = xs.length := ⟨_, rfl⟩
    rw [← hn] at HI ⊢
    have HO := Lib.hid hown
    rw [← hn] at HO
    clear hown hrd hfr hml hp hq hidx hz hfl hn hl
    go_enter Tryz.func44, Tryz.ntmps44
    go_wp2_with (go_at_call 60; refine HI.out.mono ?_; rintro e w' ⟨rfl, hm⟩)
    go_ret
    exact ⟨A, c, rfl, HO.out.mod hm (fun b _ => id), rfl, hm.mono fun _ _ h => h.elim⟩
  | some i0 =>
    obtain ⟨hi0, hpi, hbef⟩ := List.findIdx?_eq_some_iff_getElem.1 hidx
    have hz : idxA p xs = (i0 : Int) := by unfold idxA; rw [hidx]
    rw [hz] at HI
    obtain ⟨gb, c1, hv, hbg, hlt, hfz⟩ := hown.at_ (by omega)
    injection hv with hA hA2 hc
    clear hA2
    subst hA hc
    obtain ⟨n, hn⟩ : ∃ n, n = xs.length := ⟨_, rfl⟩
    have hF0 : (xs.take (i0 + 1)).filter q = xs.take i0 := by
      rw [List.take_succ_eq_append_getElem hi0, List.filter_append, hq]
      have h1 : (xs.take i0).filter (fun x => !p x) = xs.take i0 := by
        rw [List.filter_eq_self]
        intro x hx
        obtain ⟨j, hj, rfl⟩ := List.getElem_of_mem hx
        rw [List.length_take] at hj
        rw [List.getElem_take]
        simpa using hbef j (by omega)
      rw [h1]; simp [hpi]
    rw [← hn] at HI hown hl hp ⊢
    have HN := Lib.hid hn
    have HO := Lib.hid hown
    have HP := Lib.hid (fun x hx X hX => hp x hx X hX)
    have HF0 := Lib.hid hF0
    have HQ := Lib.hid hq
    obtain ⟨m, hm⟩ : ∃ m, m = (xs.filter q).length := ⟨_, rfl⟩
    rw [← hm]
    have HMm := Lib.hid hm
    have hi0n : i0 < n := by omega
    have hne1 : ((i0 : Int) == -1) = false := by rw [beq_eq_false_iff_ne]; omega
    have hcc : n ≤ c := (hown.cap rfl).1
    clear hown hrd hfr hml hp hq hidx hz hpi hbef hn hfz hlt hF0 hm
    unfold Value.ownBlock at HP
    simp only [Option.map_some, Option.some.injEq] at HP
    go_enter Tryz.func44, Tryz.ntmps44
    go_wp2_with (go_at_call 60; refine HI.out.mono ?_; rintro e w1 ⟨rfl, hm1⟩)
    go_loopw [5, 6] (fun i j wr => ∃ (a k : Nat) (ys : List At), a < k ∧ k ≤ n ∧ i = .int .i64 a ∧ j = .int .i64 k ∧ ys.length = n ∧ ys.take a = (xs.take k).filter q ∧ ys.drop k = xs.drop k ∧ OwnS base 52 2 At.cs wr (.slice (some ⟨gb, 0, none⟩) n c) ys ∧ Mod (fun b => gb = b) w wr) (fun _ j _ => n - (intOf j).toNat)
    case atStart => exact ⟨i0, i0 + 1, xs, by omega, by omega, rfl, by go_num, HN.out.symm, HF0.out.symm, rfl, HO.out.mod hm1 (fun b _ => id), hm1.mono fun _ _ h => h.elim⟩
    case round =>
      obtain ⟨a, k, ys, hak, hk, rfl, rfl, hyl, ht, hdr, hown, hm⟩ := hrel
      have HYl := Lib.hid hyl
      have HT := Lib.hid ht
      have HD := Lib.hid hdr
      have HOw := Lib.hid hown
      have HM := Lib.hid hm
      obtain ⟨_, _, hv, _, hgl, hfz⟩ := hown.at_ (by omega)
      injection hv with hv1 hv2 hv3
      clear hv2 hv3
      injection hv1 with hv1
      injection hv1 with hv1
      subst hv1
      by_cases hlt : k < n
      · have hkx : k < xs.length := by rw [← HN.out]; exact hlt
        have hky : k < ys.length := by omega
        obtain ⟨x, hx⟩ : ∃ x, x = xs[k] := ⟨_, rfl⟩
        have hyx : ys[k] = x := by
          have := congrArg (fun z => z[0]?) hdr
          simp only [List.getElem?_drop, Nat.add_zero] at this
          rw [List.getElem?_eq_getElem hky, List.getElem?_eq_getElem hkx] at this
          rw [hx]; exact Option.some.inj this
        have p0 := hown.cell At.cs_len (by rw [hyl]) (k := k) hky (j := 0) (u := .string ⟨x.T.toArray⟩) (by rw [hyx]; rfl)
        have p1 := hown.cell At.cs_len (by rw [hyl]) (k := k) hky (j := 1) (u := .string ⟨x.V.toArray⟩) (by rw [hyx]; rfl)
        obtain ⟨y, hy⟩ : ∃ y, y = ys[a]'(by omega) := ⟨_, rfl⟩
        have r0 := hown.cell At.cs_len (by rw [hyl]) (k := a) (by omega) (j := 0) (u := .string ⟨y.T.toArray⟩) (by rw [hy]; rfl)
        have r1 := hown.cell At.cs_len (by rw [hyl]) (k := a) (by omega) (j := 1) (u := .string ⟨y.V.toArray⟩) (by rw [hy]; rfl)
        rw [Nat.add_zero] at p0 r0
        have f0 := hfz (a * 2)
        have f1 := hfz (a * 2 + 1)
        have HX := Lib.hid (show (xs.take (k + 1)).filter q = (xs.take k).filter q ++ (if q x then [x] else []) by
          rw [List.take_succ_eq_append_getElem hkx, List.filter_append, ← hx]; simp [List.filter_cons])
        have HC := Lib.hid (fun X (hX : Mod (fun b => gb = b) w X) => HP.out x (by rw [hx]; exact List.getElem_mem hkx) X hX)
        have HY := Lib.hid (show ∃ h : a < ys.length, y = ys[a] from ⟨by omega, hy⟩)
        have hqx : q x = !p x := by rw [HQ.out]
        rw [hqx] at HX
        obtain ⟨px, hpx⟩ : ∃ px, px = p x := ⟨_, rfl⟩
        rw [← hpx] at HC HX
        have HDr := Lib.hid (show ∀ zs : List At, zs.drop k = ys.drop k → zs.drop (k + 1) = xs.drop (k + 1) from fun zs h => by
          rw [← List.drop_drop, ← List.drop_drop, h, hdr])
        unfold At.val at HC
        clear hx hyx hy hqx hpx hyl ht hdr hown hm hfz
        obtain ⟨xT, xV⟩ := x
        simp only at p0 p1 HC
        have hgl0 : gb < (wr.alloc (.cells #[.string ⟨xT.toArray⟩, .string ⟨xV.toArray⟩] 52)).heap.size := by simp; omega
        have hal := (Mod.refl (fun _ => False) wr).alloc (.cells #[.string ⟨xT.toArray⟩, .string ⟨xV.toArray⟩] 52)
        have hal2 := HM.out.alloc (.cells #[.string ⟨xT.toArray⟩, .string ⟨xV.toArray⟩] 52)
        have r0' := (hal.cell (p := ⟨gb, a * 2, none⟩) hgl id).trans r0
        have r1' := (hal.cell (p := ⟨gb, a * 2 + 1, none⟩) hgl id).trans r1
        have f0' := (hal.frozen (p := ⟨gb, a * 2, none⟩) hgl id).trans f0
        have f1' := (hal.frozen (p := ⟨gb, a * 2 + 1, none⟩) hgl id).trans f1
        have hR := Lib.hid (And.intro (And.intro r0' r1') (And.intro f0' f1'))
        have hA := Lib.hid (And.intro hal hal2)
        clear r0 r1 f0 f1 r0' r1' f0' f1' hal hal2
        cases px
        · go_wp2_with (first
            | ((with_reducible refine (HC.out _ hA.out.2).mono ?_)
               rintro e w2 ⟨rfl, hm2⟩
               have z0 := (hm2.cell (p := ⟨wr.heap.size, 0, none⟩) (by simp) id).trans (hp_cell (hp_new _ _) 0)
               have z1 := (hm2.cell (p := ⟨wr.heap.size, 1, none⟩) (by simp) id).trans (hp_cell (hp_new _ _) 1)
               simp only [List.getElem?_toArray, List.getElem?_cons_succ, List.getElem?_cons_zero] at z0 z1
               have r0 := (hm2.cell (p := ⟨gb, a * 2, none⟩) hgl0 id).trans hR.out.1.1
               have r1 := (hm2.cell (p := ⟨gb, a * 2 + 1, none⟩) hgl0 id).trans hR.out.1.2
               have f0 := (hm2.frozen (p := ⟨gb, a * 2, none⟩) hgl0 id).trans hR.out.2.1
               have f1 := (hm2.frozen (p := ⟨gb, a * 2 + 1, none⟩) hgl0 id).trans hR.out.2.2
               have HM2 := Lib.hid (hA.out.1.trans' hm2)
               clear hm2)
            | fail)
          have hay : a < ys.length := by rw [HYl.out]; omega
          have ho2 := HOw.out.mod HM2.out (fun b _ => id)
          have ho3 := ho2.set1 At.cs_len (k := a) (j := 0) HYl.out.symm (by omega) (by decide) (u := .string ⟨xT.toArray⟩) (y := ⟨xT, y.V⟩) (by rw [← HY.out.2]; rfl)
          have hyl2 : (ys.set a ⟨xT, y.V⟩).length = n := by rw [List.length_set, HYl.out]
          have ho4 := ho3.set1 At.cs_len (k := a) (j := 1) hyl2.symm (by omega) (by decide) (u := .string ⟨xV.toArray⟩) (y := ⟨xT, xV⟩) (by rw [List.getElem_set_self]; rfl)
          rw [List.set_set] at ho4
          rw [Nat.add_zero] at ho4
          refine ⟨⟨a + 1, k + 1, ys.set a ⟨xT, xV⟩, by omega, by omega, by go_num, by go_num, by rw [List.length_set, HYl.out], ?_, ?_, ho4, ?_⟩, by simp only [intOf]; omega⟩
          · rw [HX.out, ← HT.out, List.take_set, List.take_succ_eq_append_getElem hay, List.set_append_right _ _ (by rw [List.length_take]; omega)]
            simp [Nat.min_eq_left (Nat.le_of_lt hay)]
          · exact HDr.out _ (List.drop_set_of_lt hak)
          · exact ((HM.out.trans HM2.out (fun b h => h.elim)).setCell (.inl rfl) _).setCell (.inl rfl) _
        · go_wp2_with (first
            | ((with_reducible refine (HC.out _ hA.out.2).mono ?_)
               rintro e w2 ⟨rfl, hm2⟩
               have HM2 := Lib.hid (hA.out.1.trans' hm2)
               clear hm2)
            | fail)
          exact ⟨⟨a, k + 1, ys, by omega, by omega, rfl, by go_num, HYl.out, by rw [HT.out, HX.out]; simp, HDr.out _ rfl, HOw.out.mod HM2.out (fun b _ => id), HM.out.trans HM2.out (fun b h => h.elim)⟩, by simp only [intOf]; omega⟩
      · obtain rfl : k = n := by omega
        have ht2 : ys.take a = xs.filter q := by rw [ht, List.take_of_length_le (by rw [← HN.out]; omega)]
        have ham : m = a := by rw [HMm.out, ← ht2, List.length_take]; omega
        have HT2 := Lib.hid ht2
        have hac : a ≤ c := by omega
        subst ham
        clear ht hdr hown hm hyl ht2 hfz
        go_wp2_with (first
          | ((with_reducible refine wpList_clear (base := base) (E := 52) (w := wr) (z := .agg #[.string ⟨#[]⟩, .string ⟨#[]⟩]) rfl (.tmp 38) rfl At.cs_len Tryz.underlying22 zero_at rfl (by simp [Value.cells, Value.oneCell']) (by decide) HOw.out HYl.out.symm hak rfl ?_ ?_ ?_)
             · first | rfl | (simp; done) | omega | (simp; omega)
             · first | rfl | omega | (simp; omega)
             intro w2 hown2 hm2
             have HO2 := Lib.hid hown2
             have HM2 := Lib.hid (HM.out.trans hm2 (fun b h => .inl h.symm))
             clear hown2 hm2)
          | fail)
        go_ret
        exact ⟨_, _, rfl, by rw [← HT2.out]; exact HO2.out, rfl, by unfold Value.ownBlock; simp only [Option.map_some, Option.some.injEq]; exact HM2.out⟩
end Go.Proofs.YtccnkcaagigceaaGreat
