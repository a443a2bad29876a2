/-
  The library's SortFunc, Compact at attributes; entry.Sorted.
-/
import Derived.Test.YtccnkcaagigceaaGreatEntryG
namespace Go.Proofs.YtccnkcaagigceaaGreat
open Go.RowKit Go.Shelf
attribute [local go_sem] Oper.semAt_some

section
variable {α : Type} {w : World} {sz : Nat} {cs : α → List Value} {xs : List α} {base E : Nat}
theorem own_of_cells (hcs : ∀ x, (cs x).length = sz) {g c : Nat} {cur : Array Value} (hh : w.heap[g]? = some (.cells cur E (0, 0))) (hb : base ≤ g) (hc : xs.length ≤ c) (hm : c ≤ maxLen) (hsz : cur.size = c * sz)
    (h : ∀ k (hk : k < xs.length) j u, (cs xs[k])[j]? = some u → w.cell? ⟨g, 0 + k * sz + j, none⟩ = some u) : OwnS base E sz cs w (.slice (some ⟨g, 0, none⟩) xs.length c) xs := by
  refine ⟨flat_length hcs xs, .inr ⟨g, c, cur, rfl, hb, hh, hc, hm, hsz, ?_⟩⟩
  have hle : xs.length * sz ≤ c * sz := Nat.mul_le_mul_right _ hc
  refine flat_ext hcs _ (by have h0 : cur.toList.length = cur.size := Array.length_toList; rw [List.length_take, h0, hsz]; exact Nat.min_eq_left hle) fun k hk j hj => ?_
  have hlt : k * sz + j < xs.length * sz := by
    have : (k + 1) * sz ≤ xs.length * sz := Nat.mul_le_mul_right _ hk
    rw [Nat.succ_mul] at this; omega
  rw [List.getElem?_take_of_lt hlt]
  have hcl : j < (cs xs[k]).length := by rw [hcs]; exact hj
  have := h k hk j _ (List.getElem?_eq_getElem hcl)
  rw [Nat.zero_add, hp_cell hh] at this
  rw [Array.getElem?_toList, this, List.getElem?_eq_getElem hcl]
end
theorem ltCmp (x y : At) : ltOf cmpA x y = ltA x y := by
  unfold ltOf ltA
  rcases cmpA_range x y with h | h | h <;> rw [h] <;> rfl
theorem swoAt : Go.Sort.SWO (ltOf cmpA) where
  irrefl x := by rw [ltCmp]; simp [ltA_irr]
  trans x y z h1 h2 := by rw [ltCmp] at *; exact ltA_trans h1 h2
  ntrans x y z h1 h2 := by
    rw [ltCmp] at *
    rcases ltA_tri x z with h | rfl | h
    · rcases ltA_tri x y with k | rfl | k
      · simp [k] at h1
      · exact h2
      · have := ltA_trans k h; simp [this] at h2
    · exact ltA_irr _
    · exact ltA_asymm h
theorem cmpLaysAt (blk off size : Nat) (w : World) : CmpLays Tryz.prog 57 #[] At.cs 2 cmpA blk off size w := by
  intro m os dk _ x y
  refine (ecompare_any x y _).mono ?_
  rintro e w' ⟨he, rfl⟩
  exact ⟨he, 1, #[x.box, y.box, .cells #[.int .i64 (cmpB x.T y.T), .int .i64 (cmpB x.V y.V)] 3 (0, 0)], by rw [Go.Sort.alloc_eq_grow, Go.Sort.alloc_eq_grow, Go.Sort.alloc_eq_grow, Go.Sort.grow_grow, Go.Sort.grow_grow]; rfl⟩
theorem asort_any (base : Nat) (A : Option Addr) (c : Nat) (xs : List At) (w : World) (hown : OwnS base 52 2 At.cs w (.slice A xs.length c) xs) (hl : xs.length ≤ 1099511627776) :
    Calls Tryz.prog 61 #[.slice A xs.length c, .func (.func 57) #[] #[]] w fun e w' => e = .returned (.tuple #[]) ∧ ∃ s, s.Perm xs ∧ Up s ∧ OwnS base 52 2 At.cs w' (.slice A s.length c) s ∧ Mod (fun b => (Value.slice A xs.length c).ownBlock = some b) w w' := by
  obtain ⟨n, hn⟩ : ∃ n, n = xs.length := ⟨_, rfl⟩
  rw [← hn] at hown hl ⊢
  rcases Nat.eq_zero_or_pos n with h0 | hpos
  · subst h0
    have : xs = [] := List.eq_nil_of_length_eq_zero hn.symm
    subst this
    have hcon := AnyF.slices_SortFunc_none Tryz.sortRg A c (.func (.func 57) #[] #[]) w
    change Calls Tryz.prog 61 _ _ _ at hcon
    exact hcon.mono fun _ _ ⟨he, hw⟩ => ⟨he, [], List.Perm.refl _, List.Pairwise.nil, by rw [hw]; exact hown, by rw [hw]; exact Mod.refl _ _⟩
  · obtain ⟨g, c', hv, hbg, hlt, hfr⟩ := hown.at_ (by omega)
    injection hv with hA hn' hc
    subst hA
    have hcells := fun k (hk : k < xs.length) j u hu => hown.cell (k := k) (j := j) (u := u) At.cs_len (by rw [← hn]) hk hu
    have hH : Go.Sort.HoldsK At.cs 2 w g 0 xs.toArray := by
      intro j hj
      refine ⟨?_, hfr _⟩
      rw [Go.Sort.size_flatK] at hj
      rw [Go.Sort.get_flatK _ _ _ _ hj]
      simp only [List.size_toArray] at hj
      have hk : j / 2 < xs.length := by omega
      have hjj : 0 + j = j / 2 * 2 + j % 2 := by omega
      rw [hjj]
      refine hcells (j / 2) hk (j % 2) _ ?_
      have e1 : xs.toArray[j / 2]! = xs[j / 2] := by simp [hk]
      rw [e1]
      have e2 : j % 2 < (At.cs xs[j / 2]).length := by rw [At.cs_len]; omega
      rw [List.getElem?_eq_getElem e2]
      simp [e2]
    have eg : ∀ args w, (callFunc 57 args).run Tryz.prog w = .ok (.enter 57 args) w := enters_of Tryz.func57 (by kernel_rfl) rfl
    have hcon := AnyQ.slices_SortFunc Tryz.sortRg 2 Tryz.isAgg52 Tryz.sizeOf52 At.cs At.cs_len At.cs_one cmpA swoAt 57 #[] g 0 c xs.toArray w eg (cmpLaysAt g 0 _ w) hH hlt (by simp; omega)
    change Calls Tryz.prog 61 _ _ _ at hcon
    rw [List.size_toArray, ← hn] at hcon
    refine hcon.mono ?_
    rintro e w' ⟨he, d', m, os, hp, hs, rfl⟩
    obtain ⟨p1, -, p3⟩ := hp
    have hsz : d'.size = xs.length := by simpa using p1
    have hm : Mod (fun b => (Value.slice (some ⟨g, 0, none⟩) n c).ownBlock = some b) w (sortWorldK At.cs 2 w g 0 m d' os) := by
      refine ⟨rfl, rfl, rfl, ?_, fun k hk hne => ?_⟩
      · simp [sortWorldK, Go.Sort.grow, Go.Sort.putRowK, Go.Sort.putRow, Go.Sort.mapBlock, Go.Sort.ahead]
      · have hgk : g ≠ k := fun h => hne (by simp [Value.ownBlock, h])
        simp only [sortWorldK, Go.Sort.grow, Go.Sort.putRowK, Go.Sort.putRow, Go.Sort.mapBlock, Go.Sort.ahead]
        rw [Array.getElem?_append_left (by simpa using hk), Array.getElem?_modify, if_neg hgk]
    refine ⟨he, d'.toList, ?_, ?_, ?_, hm⟩
    · rw [hn, ← hsz] at p3
      have e1 : d'.extract 0 d'.size = d' := by simp
      have e2 : xs.toArray.extract 0 d'.size = xs.toArray := by rw [hsz]; simp
      rw [e1, e2] at p3
      simpa using p3
    · refine List.pairwise_iff_getElem.2 fun i j hi hj hij => ?_
      simp at hi hj
      have := hs i j (Nat.zero_le _) hij (by omega)
      rw [ltCmp] at this
      simp [hi, hj] at this
      simpa using this
    · rcases hown.2 with ⟨hv0, _⟩ | ⟨g', cap, cur, hv0, hb0, hh0, hc1, hc2, hc3, hc4⟩
      · cases hv0
      injection hv0 with q1 _ q3
      injection q1 with q1
      injection q1 with q1
      subst q1 q3
      have hblk : ∃ cur2, (sortWorldK At.cs 2 w g 0 m d' os).heap[g]? = some (.cells cur2 52 (0, 0)) ∧ cur2.size = cur.size := by
        refine ⟨Go.Sort.putCells id 0 (Go.Sort.flatK At.cs 2 d') cur, ?_, by simp [Go.Sort.putCells]⟩
        simp only [sortWorldK, Go.Sort.grow, Go.Sort.putRowK, Go.Sort.putRow, Go.Sort.mapBlock, Go.Sort.ahead]
        rw [Array.getElem?_append_left (by simpa using hlt), Array.getElem?_modify, if_pos rfl, hh0]
        rfl
      obtain ⟨cur2, hb2, hs2⟩ := hblk
      have hH' : Go.Sort.HoldsK At.cs 2 (Go.Sort.putRowK At.cs 2 (Go.Sort.ahead w m) g 0 d') g 0 d' := Go.Sort.holds_putRow id (Go.Sort.ahead w m) g 0 (Go.Sort.flatK At.cs 2 xs.toArray) (Go.Sort.flatK At.cs 2 d') hH (by simp [hsz])
      refine own_of_cells At.cs_len hb2 hb0 (by simp; omega) hc2 (by rw [hs2, hc3]) fun k hk j u hu => ?_
      have hk' : k < d'.size := by simpa using hk
      have hj : j < 2 := by rw [← At.cs_len d'.toList[k]]; exact (List.getElem?_eq_some_iff.1 hu).1
      have := (Go.Sort.HoldsK.cell hH' hk' hj).1
      unfold sortWorldK
      rw [Go.Sort.cell?_grow _ _ _ (by show g < _; unfold Go.Sort.putRowK; rw [Go.Sort.size_putRow]; exact hlt), this, ← hu]
      simp [hk']
      have : j < (At.cs d'[k]).length := hj
      rw [List.getElem?_eq_getElem this]
      rfl

theorem cpt_new {xs : List At} {m : Nat} (h : m + 1 < xs.length) (hne : xs[m + 1] ≠ xs[m]) : cptA (xs.take (m + 2)) = cptA (xs.take (m + 1)) ++ [xs[m + 1]] := by
  rw [List.take_succ_eq_append_getElem h, cptA_snoc, if_neg]
  rw [List.take_succ_eq_append_getElem (by omega : m < xs.length), cptA_last]
  intro e; exact hne (Option.some.inj e).symm
theorem cpt_old {xs : List At} {m : Nat} (h : m + 1 < xs.length) (he : xs[m + 1] = xs[m]) : cptA (xs.take (m + 2)) = cptA (xs.take (m + 1)) := by
  rw [List.take_succ_eq_append_getElem h, cptA_snoc, if_pos]
  rw [List.take_succ_eq_append_getElem (by omega : m < xs.length), cptA_last, he]
set_option maxRecDepth 100000 in
set_option maxHeartbeats 4000000 in
theorem acompact_any (base : Nat) (A : Option Addr) (c : Nat) (xs : List At) (w : World) (hown : OwnS base 52 2 At.cs w (.slice A xs.length c) xs) (hl : xs.length ≤ 1099511627776) :
    Calls Tryz.prog 62 #[.slice A xs.length c] w fun e w' => e = .returned (.slice A (cptA xs).length c) ∧ OwnS base 52 2 At.cs w' (.slice A (cptA xs).length c) (cptA xs) ∧ Mod (fun b => (Value.slice A xs.length c).ownBlock = some b) w w' := by
  by_cases h2 : xs.length < 2
  · have hc : cptA xs = xs := by
      rcases xs with _ | ⟨x, _ | ⟨y, l⟩⟩
      · rfl
      · rfl
      · simp at h2; omega
    rw [hc]
    obtain ⟨n, hn⟩ : ∃ n, n = xs.length := ⟨_, rfl⟩
    rw [← hn] at hown h2 ⊢
    have HO := Lib.hid hown
    clear hn hc hown hl
    go_enter Tryz.func62, Tryz.ntmps62
    go_wp2
    go_ret
    exact ⟨rfl, HO.out, Mod.refl _ _⟩
  obtain ⟨gb, c1, hv, hbg, hlt, hfz⟩ := hown.at_ (by omega)
  injection hv with hA hA2 hc
  clear hA2
  subst hA hc
  obtain ⟨n, hn⟩ : ∃ n, n = xs.length := ⟨_, rfl⟩
  obtain ⟨m, hm⟩ : ∃ m, m = (cptA xs).length := ⟨_, rfl⟩
  rw [← hn] at hown h2 hl ⊢
  rw [← hm]
  have HN := Lib.hid hn
  have HMm := Lib.hid hm
  have HO := Lib.hid hown
  have hcc : n ≤ c := (hown.cap rfl).1
  have heq := (show Tryz.prog.eqGuardType Tryz.prog.depth 52 = false by kernel_rfl)
  have HEq := Lib.hid (fun x y X => eql_at x y X)
  have HNeq := Lib.hid (fun x y X => neq_at x y X)
  unfold At.val at HEq HNeq
  have hn2 : decide ((n : Int) < 2) = false := by rw [decide_eq_false_iff_not]; omega
  clear hown hn hm hlt hfz
  go_enter Tryz.func62, Tryz.ntmps62
  go_wp2
  go_loopw [3] (fun i wr => ∃ k : Nat, k + 1 ≤ n ∧ i = .int .i64 ((k : Int) + 1) ∧ cptA (xs.take (k + 1)) = xs.take (k + 1) ∧ Mod (fun _ => False) w wr) (fun i _ => n - (intOf i).toNat)
  case atStart =>
    have h1 : cptA (xs.take (0 + 1)) = xs.take (0 + 1) := by
      have := HN.out
      rcases xs with _ | ⟨x, l⟩
      · rfl
      · rfl
    exact ⟨0, by omega, rfl, h1, Mod.refl _ _⟩
  case round =>
    obtain ⟨k, hk, rfl, ht, hm⟩ := hrel
    have HT := Lib.hid ht
    have HM := Lib.hid hm
    have HOw := Lib.hid (HO.out.mod hm (fun b _ => id))
    clear ht hm
    by_cases hlt : k + 1 < n
    · have hkx : k + 1 < xs.length := by rw [← HN.out]; exact hlt
      obtain ⟨x, hx⟩ : ∃ x, x = xs[k + 1] := ⟨_, rfl⟩
      obtain ⟨y, hy⟩ : ∃ y, y = xs[k]'(by omega) := ⟨_, rfl⟩
      have p0 := HOw.out.cell At.cs_len (by rw [← HN.out]) (k := k + 1) hkx (j := 0) (u := .string ⟨x.T.toArray⟩) (by rw [hx]; rfl)
      have p1 := HOw.out.cell At.cs_len (by rw [← HN.out]) (k := k + 1) hkx (j := 1) (u := .string ⟨x.V.toArray⟩) (by rw [hx]; rfl)
      have q0 := HOw.out.cell At.cs_len (by rw [← HN.out]) (k := k) (by omega) (j := 0) (u := .string ⟨y.T.toArray⟩) (by rw [hy]; rfl)
      have q1 := HOw.out.cell At.cs_len (by rw [← HN.out]) (k := k) (by omega) (j := 1) (u := .string ⟨y.V.toArray⟩) (by rw [hy]; rfl)
      rw [Nat.add_zero] at p0 q0
      have hw1 : IntKind.i64.wrap (k : Int) = k := IntWalk.i64_in _ (by omega)
      have heql := HEq.out x y
      have HNew := Lib.hid (show x ≠ y → cptA (xs.take (k + 1 + 1)) = xs.take (k + 1 + 1) from fun h => by
        rw [cpt_new hkx (by rw [← hx, ← hy]; exact h), HT.out, ← List.take_succ_eq_append_getElem hkx])
      have HOld := Lib.hid (show x = y → cptA (xs.take (k + 1 + 1)) = xs.take (k + 1) from fun h => by
        rw [cpt_old hkx (by rw [← hx, ← hy]; exact h), HT.out])
      clear hx hy
      by_cases hxy : x = y
      · have HC0 := Lib.hid (HOld.out hxy)
        rw [decide_eq_true hxy] at heql
        clear HNew HOld hxy
        have hk1 : k + 1 ≤ c := by omega
        have hkn1 : decide ((k : Int) + 1 < (n : Int)) = true := by rw [decide_eq_true_eq]; omega
        go_wp2
        go_quiet (fail)
        go_wp2
        have HM1 := Lib.hid (show Mod (fun b => gb = b) w (wr.drewN nq) from (HM.out.drewN nq).mono fun _ _ h => h.elim)
        have HO1 := Lib.hid (show OwnS base 52 2 At.cs (wr.drewN nq) (.slice (some ⟨gb, 0, none⟩) n c) xs from HOw.out.mod ((Mod.refl (fun _ => False) wr).drewN nq) (fun b _ => id))
        clear p0 p1 q0 q1 heql
        go_loopw [3, 5] (fun a j wr2 => ∃ (p i : Nat) (ys : List At), a = .int .i64 p ∧ j = .int .i64 ((i : Int) + 1) ∧ k + 1 + i + 1 ≤ n ∧ p ≤ k + 1 + i ∧ ys.length = n ∧ ys.take p = cptA (xs.take (k + 1 + i + 1)) ∧ ys.drop (k + 1 + i) = xs.drop (k + 1 + i) ∧ OwnS base 52 2 At.cs wr2 (.slice (some ⟨gb, 0, none⟩) n c) ys ∧ Mod (fun b => gb = b) w wr2) (fun _ j _ => n - (intOf j).toNat)
        case atStart => exact ⟨k + 1, 0, xs, by go_num, rfl, by omega, by omega, HN.out.symm, HC0.out.symm, rfl, HO1.out, HM1.out⟩
        case round =>
          obtain ⟨p, i, ys, rfl, rfl, hik, hpi, hyl, ht, hdr, hown, hm⟩ := hrel
          have HYl := Lib.hid hyl
          have HT2 := Lib.hid ht
          have HD := Lib.hid hdr
          have HOw2 := Lib.hid hown
          have HM2 := Lib.hid hm
          by_cases hlt2 : k + 1 + i + 1 < n
          · have hkx : k + 1 + i + 1 < xs.length := by rw [← HN.out]; exact hlt2
            have hky : k + 1 + i + 1 < ys.length := by rw [hyl]; exact hlt2
            have hg : ∀ q (h1 : q < xs.length) (h2 : q < ys.length), k + 1 + i ≤ q → ys[q] = xs[q] := fun q h1 h2 h3 => by
              have := congrArg (fun z => z[q - (k + 1 + i)]?) hdr
              simp only [List.getElem?_drop] at this
              rw [show k + 1 + i + (q - (k + 1 + i)) = q by omega, List.getElem?_eq_getElem h1, List.getElem?_eq_getElem h2] at this
              exact Option.some.inj this
            obtain ⟨x, hx⟩ : ∃ x, x = xs[k + 1 + i + 1] := ⟨_, rfl⟩
            obtain ⟨y, hy⟩ : ∃ y, y = xs[k + 1 + i]'(by omega) := ⟨_, rfl⟩
            have hyx := hg (k + 1 + i + 1) hkx hky (by omega)
            have hyy := hg (k + 1 + i) (by omega) (by omega) (by omega)
            have p0 := hown.cell At.cs_len (by rw [hyl]) (k := k + 1 + i + 1) hky (j := 0) (u := .string ⟨x.T.toArray⟩) (by rw [hyx, ← hx]; rfl)
            have p1 := hown.cell At.cs_len (by rw [hyl]) (k := k + 1 + i + 1) hky (j := 1) (u := .string ⟨x.V.toArray⟩) (by rw [hyx, ← hx]; rfl)
            have q0 := hown.cell At.cs_len (by rw [hyl]) (k := k + 1 + i) (by omega) (j := 0) (u := .string ⟨y.T.toArray⟩) (by rw [hyy, ← hy]; rfl)
            have q1 := hown.cell At.cs_len (by rw [hyl]) (k := k + 1 + i) (by omega) (j := 1) (u := .string ⟨y.V.toArray⟩) (by rw [hyy, ← hy]; rfl)
            rw [show (k + 1 + i + 1) * 2 = (k + 1) * 2 + (i + 1) * 2 by omega] at p0 p1
            rw [show (k + 1 + i) * 2 = (k + 1) * 2 + i * 2 by omega] at q0 q1
            rw [Nat.add_zero] at p0 q0
            have hpy : p < ys.length := by omega
            obtain ⟨z, hz⟩ : ∃ z, z = ys[p] := ⟨_, rfl⟩
            have r0 := hown.cell At.cs_len (by rw [hyl]) (k := p) hpy (j := 0) (u := .string ⟨z.T.toArray⟩) (by rw [hz]; rfl)
            have r1 := hown.cell At.cs_len (by rw [hyl]) (k := p) hpy (j := 1) (u := .string ⟨z.V.toArray⟩) (by rw [hz]; rfl)
            rw [Nat.add_zero] at r0
            obtain ⟨_, _, hv, _, hgl, hfz⟩ := hown.at_ (by omega)
            injection hv with hv1 hv2 hv3
            clear hv2 hv3
            injection hv1 with hv1
            injection hv1 with hv1
            subst hv1
            have f0 := hfz (p * 2)
            have f1 := hfz (p * 2 + 1)
            have hw2 : IntKind.i64.wrap (i : Int) = i := IntWalk.i64_in _ (by omega)
            have hneq := HNeq.out x y
            have HZ := Lib.hid (show ∃ h : p < ys.length, z = ys[p] from ⟨hpy, hz⟩)
            have HNew := Lib.hid (show x ≠ y → cptA (xs.take (k + 1 + (i + 1) + 1)) = cptA (xs.take (k + 1 + i + 1)) ++ [x] from fun h => by
              have := cpt_new hkx (by rw [← hx, ← hy]; exact h)
              rw [← hx] at this; exact this)
            have HOld := Lib.hid (show x = y → cptA (xs.take (k + 1 + (i + 1) + 1)) = cptA (xs.take (k + 1 + i + 1)) from fun h => cpt_old hkx (by have e := h; rw [hx, hy] at e; exact e))
            have HDr := Lib.hid (show ∀ zs : List At, zs.drop (k + 1 + (i + 1)) = ys.drop (k + 1 + (i + 1)) → zs.drop (k + 1 + (i + 1)) = xs.drop (k + 1 + (i + 1)) from fun zs h => by
              have h3 : ys.drop (k + 1 + (i + 1)) = xs.drop (k + 1 + (i + 1)) := by
                have := congrArg (List.drop 1) hdr
                rw [List.drop_drop, List.drop_drop] at this
                exact this
              rw [h, h3])
            clear hx hy hz hyl ht hdr hown hm hg hyx hyy hfz hpy
            obtain ⟨xT, xV⟩ := x
            simp only at p0 p1 hneq
            by_cases hxy : (⟨xT, xV⟩ : At) = y
            · have HC1 := Lib.hid (HOld.out hxy)
              rw [decide_eq_true hxy] at hneq
              clear HNew HOld hxy
              go_wp2
              go_quiet (fail)
              go_wp2
              exact ⟨⟨p, i + 1, ys, rfl, by go_num, by omega, by omega, HYl.out, by rw [HT2.out, HC1.out], HDr.out _ rfl, HOw2.out.mod (C := fun _ => False) (by (repeat' (first | exact Mod.refl _ _ | assumption | refine Mod.alloc ?_ _ | refine Mod.drew ?_ | refine Mod.drewN ?_ _ | refine Mod.setCell ?_ (by first | exact Or.inl rfl | (right; simp; done) | (right; simp; omega) | (left; simp; done)) _))) (fun b _ => id), by have := HM2.out; (repeat' (first | exact Mod.refl _ _ | assumption | refine Mod.alloc ?_ _ | refine Mod.drew ?_ | refine Mod.drewN ?_ _ | refine Mod.setCell ?_ (by first | exact Or.inl rfl | (right; simp; done) | (right; simp; omega) | (left; simp; done)) _))⟩, by simp only [intOf]; omega⟩
            · have HC1 := Lib.hid (HNew.out hxy)
              rw [decide_eq_false hxy] at hneq
              clear HNew HOld hxy
              go_wp2
              go_quiet (fail)
              go_wp2
              have hpy : p < ys.length := by rw [HYl.out]; omega
              have ho2 := HOw2.out.mod ((Mod.refl (fun _ => False) _).drewN nq) (fun b _ => id)
              have ho3 := ho2.set1 At.cs_len (k := p) (j := 0) HYl.out.symm (by omega) (by decide) (u := .string ⟨xT.toArray⟩) (y := ⟨xT, z.V⟩) (by rw [← HZ.out.2]; rfl)
              have hyl2 : (ys.set p ⟨xT, z.V⟩).length = n := by rw [List.length_set, HYl.out]
              have ho4 := ho3.set1 At.cs_len (k := p) (j := 1) hyl2.symm (by omega) (by decide) (u := .string ⟨xV.toArray⟩) (y := ⟨xT, xV⟩) (by rw [List.getElem_set_self]; rfl)
              rw [List.set_set] at ho4
              rw [Nat.add_zero] at ho4
              refine ⟨⟨p + 1, i + 1, ys.set p ⟨xT, xV⟩, by go_num, by go_num, by omega, by omega, by rw [List.length_set, HYl.out], ?_, ?_, ho4, ?_⟩, by simp only [intOf]; omega⟩
              · rw [HC1.out, ← HT2.out, List.take_set, List.take_succ_eq_append_getElem hpy, List.set_append_right _ _ (by rw [List.length_take]; omega)]
                simp [Nat.min_eq_left (Nat.le_of_lt hpy)]
              · exact HDr.out _ (List.drop_set_of_lt (by omega))
              · have := HM2.out
                exact ((this.drewN nq).setCell (.inl rfl) _).setCell (.inl rfl) _
          · have hin : k + 1 + i + 1 = n := by omega
            have ht2 : ys.take p = cptA xs := by rw [ht, List.take_of_length_le (by rw [← HN.out]; omega)]
            have hpm : m = p := by rw [HMm.out, ← ht2, List.length_take]; omega
            have HT3 := Lib.hid ht2
            have hpc : p ≤ c := by omega
            have hpn : p < n := by omega
            subst hpm
            clear ht hdr hown hm hyl ht2 hin
            go_wp2_with (first
              | ((with_reducible refine wpList_clear (base := base) (E := 52) (z := .agg #[.string ⟨#[]⟩, .string ⟨#[]⟩]) rfl (.tmp 56) rfl At.cs_len Tryz.underlying22 zero_at rfl (by simp [Value.cells, Value.oneCell']) (by decide) HOw2.out HYl.out.symm hpn rfl ?_ ?_ ?_)
                 · first | rfl | (simp; done) | omega | (simp; omega)
                 · first | rfl | omega | (simp; omega)
                 intro w2 hown2 hm2
                 have HO2 := Lib.hid hown2
                 have HM3 := Lib.hid (HM2.out.trans hm2 (fun b h => .inl h.symm))
                 clear hown2 hm2)
              | fail)
            go_ret
            exact ⟨rfl, by rw [← HT3.out]; exact HO2.out, by unfold Value.ownBlock; simp only [Option.map_some, Option.some.injEq]; exact HM3.out⟩
      · have HC0 := Lib.hid (HNew.out hxy)
        rw [decide_eq_false hxy] at heql
        clear HNew HOld hxy
        go_wp2
        go_quiet (fail)
        go_wp2
        exact ⟨⟨k + 1, by omega, by go_num, HC0.out, by have := HM.out; (repeat' (first | exact Mod.refl _ _ | assumption | refine Mod.alloc ?_ _ | refine Mod.drew ?_ | refine Mod.drewN ?_ _ | refine Mod.setCell ?_ (by first | exact Or.inl rfl | (right; simp; done) | (right; simp; omega) | (left; simp; done)) _))⟩, by simp only [intOf]; omega⟩
    · have hkn : k + 1 = n := by omega
      have hz : cptA xs = xs := by
        have := HT.out
        rwa [List.take_of_length_le (by rw [← HN.out]; omega)] at this
      have hmn : m = n := by rw [HMm.out, hz, ← HN.out]
      have HZ := Lib.hid hz
      subst hmn
      clear hz hkn
      go_wp2
      go_ret
      exact ⟨rfl, by rw [HZ.out]; exact HOw.out, HM.out.mono fun _ _ h => h.elim⟩
end Go.Proofs.YtccnkcaagigceaaGreat
