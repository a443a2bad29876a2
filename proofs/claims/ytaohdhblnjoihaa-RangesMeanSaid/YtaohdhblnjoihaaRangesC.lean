/-
  The package ranges: the library's Clone, ContainsFunc, SortFunc at ranges; Of.
-/
import Derived.Test.YtaohdhblnjoihaaRangesB
import Derived.Test.YtaohdhblnjoihaaRgShelf
namespace Go.Proofs.Ytaohdhblnjoihaa
open Go.RowKit Go.Shelf
attribute [local go_sem] Oper.semAt_some

set_option maxHeartbeats 1000000 in
/-- slices.Clone: what comes back holds the same, in memory of the call's own. -/
theorem rclone_any (D : Nat → Prop) (A : Option Addr) (c : Nat) (xs : List Rg) (w : World) (hA : Rd D w 3 Rg.cs A xs) (hl : xs.length ≤ 1099511627776) :
    Calls Try.prog 21 #[.slice A xs.length c] w fun e w' => ∃ A' c', e = .returned (.slice A' xs.length c') ∧ OwnS w.heap.size 24 3 Rg.cs w' (.slice A' xs.length c') xs ∧ Mod (fun _ => False) w w' := by
  obtain ⟨n, hn⟩ : ∃ n, n = xs.length := ⟨_, rfl⟩
  rw [← hn] at hl
  have HN := Lib.hid hn
  rcases A with _ | a
  · have h0 : xs = [] := by
      cases xs with
      | nil => rfl
      | cons y r => obtain ⟨b, off, h, _⟩ := hA (by simp); cases h
    subst h0
    have q22 := fun w n c => Lib.run_eql_slice_nil (P := Try.prog) w 22 24 none n c 0 0 Try.underlying22
    have H0 := Lib.hid (OwnS.nil w.heap.size 24 3 Rg.cs w)
    clear hn hA
    go_enter Try.func21, Try.ntmps21
    go_wp2
    go_ret
    exact ⟨none, 0, rfl, H0.out, Mod.refl _ _⟩
  · rw [← hn]
    have q22 := fun w n c => Lib.run_eql_slice_nil (P := Try.prog) w 22 24 (some a) n c 0 0 Try.underlying22
    have hmade := Lib.hid (World.ownsRow_made (base := w.heap.size) (e := 24) (size := 3) w #[] 0 (Nat.le_refl _) (Nat.zero_le _) (by simp))
    have HA := Lib.hid (show Rd (fun b => D b ∧ b < w.heap.size) w 3 Rg.cs (some a) xs from hA.lt Rg.cs_len (by decide))
    clear hn hA
    go_enter Try.func21, Try.ntmps21
    go_wp2_with (at_builtin
                 refine wpList_app (base := w.heap.size) (xs := []) (ys := xs) (D := fun b => D b ∧ b < w.heap.size) (v := .slice (some ⟨w.heap.size, 0, none⟩) 0 0) rfl (.tmp 5) (.tmp 6) rfl rgs_t Rg.cs_len Rg.cs_one rfl hmade.out _ rfl HN.out (HA.out.below ((Below.refl _ w).alloc (Nat.le_refl _) _) fun b h => h.2) ?_ ?_ ?_ ?_
                 · rw [← HN.out]; simp [maxLen]; omega
                 · rw [← HN.out]; simp; omega
                 · simp
                 intro v' w2 hown2 hm2 hat2
                 rw [List.nil_append] at hown2
                 obtain ⟨A2, c2, hv2, -, hfr2, hml2⟩ := OwnS.rd hown2 Rg.cs_len
                 rw [← HN.out] at hv2
                 subst hv2
                 have M2 := ((Mod.refl (fun _ => False) w).alloc (.cells #[] 24)).trans hm2 (fun b hb => by simp [Value.ownBlock] at hb; right; omega)
                 clear hm2)
    go_ret
    exact ⟨A2, c2, rfl, hown2, M2⟩

set_option maxHeartbeats 1000000 in
/-- slices.IndexFunc with the closure of Of. -/
theorem rindex_any (A : Option Addr) (c : Nat) (xs : List Rg) (w : World) (hA : Rd (fun b => b < w.heap.size) w 3 Rg.cs A xs) (hl : xs.length ≤ maxLen) :
    Calls Try.prog 27 #[.slice A xs.length c, .func (.func 20) #[] #[]] w fun e w' => ∃ i : Int, e = .returned (.int .i64 i) ∧ (0 ≤ i ↔ xs.any badR = true) ∧ Mod (fun _ => False) w w' := by
  unfold maxLen at hl
  obtain ⟨n, hn⟩ : ∃ n, n = xs.length := ⟨_, rfl⟩
  rw [← hn] at hl ⊢
  have HN := Lib.hid hn
  have HA := Lib.hid hA
  have eg : ∀ args w, (callFunc 20 args).run Try.prog w = .ok (.enter 20 args) w := enters_of Try.func20 (by kernel_rfl) rfl
  clear hn hA
  go_enter Try.func27, Try.ntmps27
  go_wp2
  go_loopw [8] (fun i wr => ∃ k : Nat, k ≤ n ∧ i = .int .i64 k ∧ (∀ j (hj : j < xs.length), j < k → badR xs[j] = false) ∧ Mod (fun _ => False) w wr) (fun i _ => n - (intOf i).toNat)
  case atStart => exact ⟨0, Nat.zero_le _, rfl, fun j hj h => by omega, Mod.refl _ _⟩
  case round =>
    obtain ⟨k, hk, rfl, h1, hm⟩ := hrel
    have H1 := Lib.hid h1
    have HM := Lib.hid hm
    clear h1 hm
    by_cases hlt : k < n
    · have hkx : k < xs.length := by rw [← HN.out]; exact hlt
      obtain ⟨b', off, rfl, -, k0, k1, k2⟩ := rd3 (HA.out.mod HM.out (fun b hb => ⟨hb, id⟩)) hkx
      obtain ⟨g, hg⟩ : ∃ g, g = xs[k] := ⟨_, rfl⟩
      rw [← hg] at k0 k1 k2
      have HG := Lib.hid hg
      clear hg
      have HC := Lib.hid (fun W => of1_any g W)
      obtain ⟨bb, hbb⟩ : ∃ bb, bb = badR g := ⟨_, rfl⟩
      rw [← hbb] at HC
      unfold Rg.val at HC
      have HB := Lib.hid hbb
      clear hbb
      cases bb
      · go_wp2_with (go_at_call 20; refine (HC.out _).mono ?_; rintro e w' ⟨rfl, rfl⟩)
        go_roundw
        case rel =>
          refine ⟨k + 1, by omega, by go_num, fun j hj hjk => ?_, HM.out.alloc _⟩
          rcases Nat.eq_or_lt_of_le (Nat.le_of_lt_succ hjk) with h | h
          · subst h; rw [← HG.out]; exact HB.out.symm
          · exact H1.out j hj h
        case measure => simp only [intOf]; omega
      · go_wp2_with (go_at_call 20; refine (HC.out _).mono ?_; rintro e w' ⟨rfl, rfl⟩)
        go_ret
        refine ⟨k, rfl, ⟨fun _ => ?_, fun _ => by omega⟩, HM.out.alloc _⟩
        exact List.any_eq_true.2 ⟨xs[k], List.getElem_mem _, by rw [← HG.out]; exact HB.out.symm⟩
    · go_wp2
      go_ret
      refine ⟨-1, rfl, ⟨fun h => by omega, fun h => ?_⟩, HM.out⟩
      exfalso
      obtain ⟨z, hz, hb⟩ := List.any_eq_true.1 h
      obtain ⟨j, hj, rfl⟩ := List.getElem_of_mem hz
      rw [H1.out j hj (by have := HN.out; omega)] at hb
      cases hb
theorem rcontains_any (A : Option Addr) (c : Nat) (xs : List Rg) (w : World) (hA : Rd (fun b => b < w.heap.size) w 3 Rg.cs A xs) (hl : xs.length ≤ maxLen) :
    Calls Try.prog 19 #[.slice A xs.length c, .func (.func 20) #[] #[]] w fun e w' => e = .returned (.bool (xs.any badR)) ∧ Mod (fun _ => False) w w' := by
  have H := Lib.hid (rindex_any A c xs w hA hl)
  obtain ⟨n, hn⟩ : ∃ n, n = xs.length := ⟨_, rfl⟩
  rw [← hn] at H ⊢
  clear hn hA hl
  obtain ⟨bb, hbb⟩ : ∃ bb, bb = xs.any badR := ⟨_, rfl⟩
  rw [← hbb] at H ⊢
  clear hbb
  go_enter Try.func19, Try.ntmps19
  go_wp2_with (go_at_call 27; refine H.out.mono ?_; rintro e w' ⟨i, rfl, hi, hm⟩)
  go_ret
  refine ⟨ret_bool ?_, hm⟩
  cases bb <;> simp_all

/-! ### slices.SortFunc -/
theorem ltLo (x y : Rg) : ltOf (fun x y : Rg => cmpI x.lo y.lo) x y = decide (x.lo < y.lo) := by
  unfold ltOf cmpI
  by_cases h1 : x.lo < y.lo
  · simp [h1]
  · by_cases h2 : y.lo < x.lo <;> simp [h1, h2]
theorem swoLo : Go.Sort.SWO (ltOf fun x y : Rg => cmpI x.lo y.lo) where
  irrefl x := by rw [ltLo]; simp
  trans x y z h1 h2 := by rw [ltLo] at *; simp at *; omega
  ntrans x y z h1 h2 := by rw [ltLo] at *; simp at *; omega
theorem cmpLays2 (blk off size : Nat) (w : World) : CmpLays Try.prog 23 #[] Rg.cs 3 (fun x y => cmpI x.lo y.lo) blk off size w := by
  intro m os dk _ x y
  refine (of2_any x y _).mono ?_
  rintro e w' ⟨he, rfl⟩
  exact ⟨he, 0, #[.cells #[.int .i32 x.lo, .int .i32 x.hi, .int .i64 x.v] 24, .cells #[.int .i32 y.lo, .int .i32 y.hi, .int .i64 y.v] 24], by rw [Go.Sort.alloc_eq_grow, Go.Sort.alloc_eq_grow, Go.Sort.grow_grow]; rfl⟩
theorem rsort_any (base : Nat) (A : Option Addr) (n c : Nat) (xs : List Rg) (w : World) (hown : OwnS base 24 3 Rg.cs w (.slice A n c) xs) (hn : n = xs.length) (hl : n ≤ 1099511627776) :
    Calls Try.prog 22 #[.slice A n c, .func (.func 23) #[] #[]] w fun e w' => e = .returned (.tuple #[]) ∧ ∃ s, s.Perm xs ∧ LoUp s ∧ Rd (fun b => (Value.slice A n c).ownBlock = some b) w' 3 Rg.cs A s ∧ Mod (fun b => (Value.slice A n c).ownBlock = some b) w w' := by
  rcases Nat.eq_zero_or_pos n with h0 | hpos
  · subst h0
    have : xs = [] := List.eq_nil_of_length_eq_zero hn.symm
    subst this
    have hcon := AnyF.slices_SortFunc_none Try.sortRg A c (.func (.func 23) #[] #[]) w
    change Calls Try.prog 22 _ _ _ at hcon
    exact hcon.mono fun _ _ ⟨he, hw⟩ => ⟨he, [], List.Perm.refl _, List.Pairwise.nil, Rd.nil _ _ _ _ _, by rw [hw]; exact Mod.refl _ _⟩
  · obtain ⟨g, c', hv, hbg, hlt, hfr⟩ := hown.at_ (by omega)
    injection hv with hA hn' hc
    subst hA
    have hcells := fun k (hk : k < xs.length) j u hu => hown.cell (k := k) (j := j) (u := u) Rg.cs_len (by rw [← hn]) hk hu
    have hH : Go.Sort.HoldsK Rg.cs 3 w g 0 xs.toArray := by
      intro j hj
      refine ⟨?_, hfr _⟩
      rw [Go.Sort.size_flatK] at hj
      rw [Go.Sort.get_flatK _ _ _ _ hj]
      simp only [List.size_toArray] at hj
      have hk : j / 3 < xs.length := by omega
      have hjj : 0 + j = j / 3 * 3 + j % 3 := by omega
      rw [hjj]
      refine hcells (j / 3) hk (j % 3) _ ?_
      have e1 : xs.toArray[j / 3]! = xs[j / 3] := by simp [hk]
      rw [e1]
      have e2 : j % 3 < (Rg.cs xs[j / 3]).length := by rw [Rg.cs_len]; omega
      rw [List.getElem?_eq_getElem e2]
      simp [e2]
    have eg : ∀ args w, (callFunc 23 args).run Try.prog w = .ok (.enter 23 args) w := enters_of Try.func23 (by kernel_rfl) rfl
    have hcon := AnyQ.slices_SortFunc Try.sortRg 3 Try.isAgg24 Try.sizeOf24 Rg.cs Rg.cs_len Rg.cs_one (fun x y => cmpI x.lo y.lo) swoLo 23 #[] g 0 c xs.toArray w eg (cmpLays2 g 0 _ w) hH hlt (by simp; omega)
    change Calls Try.prog 22 _ _ _ at hcon
    rw [List.size_toArray, ← hn] at hcon
    refine hcon.mono ?_
    rintro e w' ⟨he, d', m, os, hp, hs, rfl⟩
    obtain ⟨p1, -, p3⟩ := hp
    have hsz : d'.size = xs.length := by simpa using p1
    refine ⟨he, d'.toList, ?_, ?_, ?_, ?_⟩
    · rw [hn, ← hsz] at p3
      have e1 : d'.extract 0 d'.size = d' := by simp
      have e2 : xs.toArray.extract 0 d'.size = xs.toArray := by rw [hsz]; simp
      rw [e1, e2] at p3
      simpa using p3
    · refine List.pairwise_iff_getElem.2 fun i j hi hj hij => ?_
      simp at hi hj
      have := hs i j (Nat.zero_le _) hij (by omega)
      rw [ltLo] at this
      simp [hi, hj] at this
      simpa using this
    · have hH' : Go.Sort.HoldsK Rg.cs 3 (Go.Sort.putRowK Rg.cs 3 (Go.Sort.ahead w m) g 0 d') g 0 d' := Go.Sort.holds_putRow id (Go.Sort.ahead w m) g 0 (Go.Sort.flatK Rg.cs 3 xs.toArray) (Go.Sort.flatK Rg.cs 3 d') hH (by simp [hsz])
      intro _
      refine ⟨g, 0, rfl, rfl, fun k hk j u hu => ?_⟩
      have hk' : k < d'.size := by simpa using hk
      have hj : j < 3 := by rw [← Rg.cs_len d'.toList[k]]; exact (List.getElem?_eq_some_iff.1 hu).1
      have := (Go.Sort.HoldsK.cell hH' hk' hj).1
      unfold sortWorldK
      rw [Go.Sort.cell?_grow _ _ _ (by show g < _; unfold Go.Sort.putRowK; rw [Go.Sort.size_putRow]; exact hlt), this, ← hu]
      simp [hk']
      have : j < (Rg.cs d'[k]).length := hj
      rw [List.getElem?_eq_getElem this]
      rfl
    · refine ⟨rfl, rfl, rfl, ?_, fun k hk hne => ?_⟩
      · simp [sortWorldK, Go.Sort.grow, Go.Sort.putRowK, Go.Sort.putRow, Go.Sort.mapBlock, Go.Sort.ahead]
      · have hgk : g ≠ k := fun h => hne (by simp [Value.ownBlock, h])
        simp only [sortWorldK, Go.Sort.grow, Go.Sort.putRowK, Go.Sort.putRow, Go.Sort.mapBlock, Go.Sort.ahead]
        rw [Array.getElem?_append_left (by simpa using hk), Array.getElem?_modify, if_neg hgk]
end Go.Proofs.Ytaohdhblnjoihaa
