/-
  The law RangesMean: the great case.
-/
import Derived.Test.YtaohdhblnjoihaaRangesM
import Derived.Test.YtaohdhblnjoihaaRangeT
namespace Go.Proofs.Ytaohdhblnjoihaa
open Go.RowKit Go.Shelf
attribute [local go_sem] Oper.semAt_some

def Rn.cs (a : Int) : List Value := [.int .i32 a]
theorem Rn.cs_len (a : Int) : (Rn.cs a).length = 1 := rfl
theorem Rn.cs_one (a : Int) : ∀ u ∈ Rn.cs a, u.oneCell' = true := by simp [Rn.cs, Value.oneCell']
theorem rns_t : SliceT Try.prog 40 21 1 4 := SliceT.mk' (z := .int .i32 0) Try.underlying40 (by kernel_rfl) rfl (by decide)

theorem once_any' (b : Nat) (B : Option Addr) (d n : Nat) (xs : List Rg) (hn : n = xs.length) (w : World) (hM : MapAt w b xs) (hB : Rd (fun b => b < w.heap.size) w 3 Rg.cs B xs) (hl : n ≤ 200) :
    Calls Try.prog 12 #[.pointer (some ⟨b, 0, none⟩), .slice B n d, .int .i64 0] w fun e w' => e = .returned (.bool true) ∧ Mod (fun _ => False) w w' := by
  subst hn
  exact once_map b B d xs 0 w hM hB (by omega)
def clI (z : Nat) (xs : List Rg) (k : Nat) (C : Nat → Prop) (W : World) : Prop :=
  ∃ v, W.heap[z]? = some (.cells #[v] 22 (0, 0)) ∧ OwnS (z + 1) 24 3 Rg.cs W v (xs.take k) ∧ C = fun b => b = z ∨ v.ownBlock = some b
def clA (z : Nat) (xs : List Rg) (T : Array Value) (a' : Act) (k : Nat) (C : Nat → Prop) (W : World) : Prop :=
  ∃ bE x v, xs[k]? = some x ∧ a' = { tmps := (T.setIfInBounds 60 x.val).setIfInBounds 10 (.pointer (some ⟨bE, 0, none⟩)), defers := [] } ∧
    z < bE ∧ W.heap[z]? = some (.cells #[v] 22 (0, 0)) ∧ OwnS (z + 1) 24 3 Rg.cs W v (xs.take k) ∧ W.heap[bE]? = some (.cells #[.int .i32 x.lo, .int .i32 x.hi, .int .i64 x.v] 24 (0, 0)) ∧ C = fun b => (b = z ∨ v.ownBlock = some b) ∨ b = bE

theorem own_lit (w : World) (a : Int) : OwnS w.heap.size 21 1 Rn.cs (w.alloc (.cells #[.int .i32 a] 21)) (.slice (some ⟨w.heap.size, 0, none⟩) 1 1) [a] :=
  ⟨rfl, .inr ⟨w.heap.size, 1, #[.int .i32 a], rfl, Nat.le_refl _, hp_new _ _, Nat.le_refl _, by simp [maxLen], rfl, rfl⟩⟩
set_option maxRecDepth 100000 in
set_option maxHeartbeats 8000000 in
theorem mean_ok (A : Option Addr) (c : Nat) (xs : List Rg) (r : Int) (w : World) (hA : Rd (fun b => b < w.heap.size) w 3 Rg.cs A xs) (hl : xs.length ≤ c) (hc : c ≤ maxLen) (hf : ∀ y ∈ xs, FitR y) (h : xs.length ≤ 200) (he : errR xs = 0) :
    Calls Try.prog 4 #[.slice A xs.length c, .int .i32 r] w fun e w' => e = .returned (.bool true) ∧ Mod (fun _ => False) w w' := by
  unfold maxLen at hc
  have HA := Lib.hid (fun X (hX : Mod (fun _ => False) w X) => rd_keep hA hX)
  have hof := fun X (hX : Mod (fun _ => False) w X) => of_ok A c xs X (rd_keep hA hX) (by omega) hf he
  obtain ⟨n, hn⟩ : ∃ n, n = xs.length := ⟨_, rfl⟩
  obtain ⟨ms, hms⟩ : ∃ ms, ms = mapR xs := ⟨_, rfl⟩
  rw [← hms] at hof
  rw [← hn] at hl h hof ⊢
  have HOf := Lib.hid hof
  have HN := Lib.hid hn
  have HMs := Lib.hid hms
  have HF := Lib.hid hf
  have HE := Lib.hid he
  clear hn hms hof hA hf he
  have hmn : min (n : Int) 200 = n := by omega
  have hnl := fun W' m => run_eql_func_nil (P := Try.prog) W' Try.underlying38 (.func 31) #[] #[.pointer (some ⟨m, 0, none⟩)]
  refine callsIn_wide.1 (callsIn_of_wp_marks (n := 0) (F := Fence.wide) Try.func4 rfl trivial ?_ rfl)
  simp only [Try.ntmps4, List.size_toArray, List.length_cons, List.length_nil, Nat.reduceAdd, Nat.reduceSub, Array.replicate_succ, Array.replicate_zero, List.push_toArray, List.append_toArray, List.nil_append, List.cons_append]
  refine wpIn_wide.2 ?_
  go_wp2_with (first
    | (go_at_call 7; refine (known_any _).mono ?_; rintro e w1 ⟨rfl, hm1⟩)
    | (go_at_call 10; refine (num_any _ _).mono ?_; rintro e w' ⟨rfl, rfl⟩)
    | (go_at_call 8; refine (HOf.out _ (by (repeat' (first | exact Mod.refl _ _ | assumption | refine Mod.alloc ?_ _ | refine Mod.drew ?_ | refine Mod.drewN ?_ _ | refine Mod.setCell ?_ (by first | exact Or.inl rfl | (right; simp; done) | (right; simp; omega) | (left; simp; done)) _)))).mono ?_; rintro e w2 ⟨b2, rfl, hM2, hm2⟩)
    | fail)
  have M2 := hm1.trans' hm2
  have HMp2 := Lib.hid (fun X (hX : Mod (fun _ => False) w2 X) => hM2.mod hX)
  obtain ⟨Am, cm, hbm, hrm⟩ := hM2
  obtain ⟨nm, hnm⟩ : ∃ nm, nm = ms.length := ⟨_, rfl⟩
  have hml : nm ≤ 200 := by rw [hnm, HMs.out]; exact Nat.le_trans (len_mapR _) (by rw [← HN.out]; exact h)
  rw [← hnm] at hbm
  have HAl := Lib.hid (fun X (hX : Mod (fun _ => False) w2 X) => all_some b2 Am nm cm X (hp_mod hbm hX id))
  have HRm := Lib.hid hrm
  have HNm := Lib.hid hnm
  clear hbm hrm hnm
  go_loopw [7, 9] (fun v i wr => ∃ k : Nat, k ≤ n ∧ i = .int .i64 ((k : Int) - 1) ∧ OwnS (w2.heap.size + 1) 24 3 Rg.cs wr v (xs.drop k).reverse ∧ wr.heap[w2.heap.size]? = some (.cells #[.slice none 0 0] 22 (0, 0)) ∧ Mod (fun _ => False) w2 wr) (fun _ i _ => (intOf i + 1).toNat)
  case atStart => exact ⟨n, Nat.le_refl _, rfl, by rw [List.drop_of_length_le (by rw [← HN.out]; exact Nat.le_refl _)]; exact OwnS.nil _ _ _ _ _, hp_new _ _, by (repeat' (first | exact Mod.refl _ _ | assumption | refine Mod.alloc ?_ _ | refine Mod.drew ?_ | refine Mod.drewN ?_ _ | refine Mod.setCell ?_ (by first | exact Or.inl rfl | (right; simp; done) | (right; simp; omega) | (left; simp; done)) _))⟩
  case round =>
    obtain ⟨k, hk, rfl, hown, hbox, hm⟩ := hrel
    obtain ⟨A4, c4, hv4, hr4, hf4, -⟩ := OwnS.rd hown Rg.cs_len
    have hll : (xs.drop k).reverse.length = n - k := by rw [List.length_reverse, List.length_drop, HN.out]
    rw [hll] at hv4
    subst hv4
    have HO := Lib.hid hown
    have HM := Lib.hid hm
    have HBx := Lib.hid hbox
    have HFr := Lib.hid hf4
    have HLl := Lib.hid hll
    have HR4 := Lib.hid hr4
    clear hown hm hbox hf4 hll hr4
    by_cases hk0 : 0 < k
    · obtain ⟨j, rfl⟩ : ∃ j, k = j + 1 := ⟨k - 1, by omega⟩
      have hj : (((j + 1 : Nat) : Int) - 1) = (j : Int) := by omega
      rw [hj]
      have hjx : j < xs.length := by rw [← HN.out]; omega
      obtain ⟨b', off, rfl, -, k0, k1, k2⟩ := rd3 (HA.out _ (M2.trans' HM.out)) hjx
      obtain ⟨y, hy⟩ : ∃ y, y = xs[j] := ⟨_, rfl⟩
      rw [← hy] at k0 k1 k2
      have HS := Lib.hid (show (xs.drop (j + 1)).reverse ++ [y] = (xs.drop j).reverse by rw [hy, List.drop_eq_getElem_cons hjx, List.reverse_cons])
      clear hy hj
      go_wp2_with (first
        | (at_builtin
           refine wpList_app (base := w2.heap.size + 1) (xs := (xs.drop (j + 1)).reverse) (ys := [y]) (D := fun _ => True) (v := .slice A4 (n - (j + 1)) c4) rfl (.tmp 48) (.tmp 53) rfl rgs_t Rg.cs_len Rg.cs_one rfl (HO.out.mod (C := fun _ => False) (by (repeat' (first | exact Mod.refl _ _ | assumption | refine Mod.alloc ?_ _ | refine Mod.drew ?_ | refine Mod.drewN ?_ _ | refine Mod.setCell ?_ (by first | exact Or.inl rfl | (right; simp; done) | (right; simp; omega) | (left; simp; done)) _))) (fun b _ => id)) 1 rfl rfl (rd_oneT (g := wr.heap.size) (c := #[.int .i32 y.lo, .int .i32 y.hi, .int .i64 y.v]) (t := 24) (fr := (0, 0)) (by (repeat' (first | exact hp_new _ _ | exact hp_at _ _ (by simp; done) | refine hp_alloc ?_ _ | refine hp_drew ?_ | refine hp_drewN ?_ _ | apply hp_set | refine hp_far ?_ (by first | (simp; omega) | (simp; done)) _))) rfl) ?_ ?_ ?_ ?_
           · rw [HLl.out]; simp [maxLen]; omega
           · rw [HLl.out]; simp; omega
           · have := hp_lt HBx.out; simp; omega
           intro v5 w5 hown5 hm5 _
           have hb5 : w5.heap[w2.heap.size]? = some (.cells #[.slice none 0 0] 22 (0, 0)) := hp_mod (by (repeat' (first | exact HBx.out | exact hp_new _ _ | refine hp_alloc ?_ _ | refine hp_drew ?_ | refine hp_drewN ?_ _ | apply hp_set | refine hp_far ?_ (by first | (simp; omega) | (simp; done)) _))) hm5 (fun h => by have := (HFr.out _ h).1; omega)
           have M5 : Mod (fun _ => False) w2 w5 := (show Mod (fun _ => False) w2 _ by have := HM.out; (repeat' (first | exact Mod.refl _ _ | assumption | refine Mod.alloc ?_ _ | refine Mod.drew ?_ | refine Mod.drewN ?_ _ | refine Mod.setCell ?_ (by first | exact Or.inl rfl | (right; simp; done) | (right; simp; omega) | (left; simp; done)) _))).trans hm5 (fun b h => .inr (by have := (HFr.out b h).1; omega))
           rw [HS.out] at hown5
           have HO5 := Lib.hid hown5
           have HB5 := Lib.hid hb5
           have HM5 := Lib.hid M5
           clear hown5 hb5 M5 hm5)
        | fail)
      refine ⟨⟨j, by omega, by go_num, HO5.out, HB5.out, HM5.out⟩, by simp only [intOf]; omega⟩
    · obtain rfl : k = 0 := by omega
      have M4 := HM.out
      go_wp2_with (first
        | (go_at_call 14; refine (HAl.out _ (by (repeat' (first | exact Mod.refl _ _ | assumption | refine Mod.alloc ?_ _ | refine Mod.drew ?_ | refine Mod.drewN ?_ _ | refine Mod.setCell ?_ (by first | exact Or.inl rfl | (right; simp; done) | (right; simp; omega) | (left; simp; done)) _)))).mono ?_; rintro e w' ⟨rfl, rfl⟩)
        | fail)
      have hbl := hp_lt HBx.out
      refine wp_as (fun W => W.heap.size = wr.heap.size + 2 ∧ W.heap[wr.heap.size + 1]? = some (.cells #[.slice Am nm cm] 22 (0, 0)) ∧ W.heap[w2.heap.size]? = some (.cells #[.slice none 0 0] 22 (0, 0)) ∧ Mod (fun _ => False) wr W) ⟨by simp, by (repeat' (first | exact hp_new _ _ | exact hp_at _ _ (by simp; done) | refine hp_alloc ?_ _ | refine hp_drew ?_ | refine hp_drewN ?_ _ | apply hp_set | refine hp_far ?_ (by first | (simp; omega) | (simp; done)) _)), by (repeat' (first | exact HBx.out | exact hp_new _ _ | refine hp_alloc ?_ _ | refine hp_drew ?_ | refine hp_drewN ?_ _ | apply hp_set | refine hp_far ?_ (by first | (simp; omega) | (simp; done)) _)), by (repeat' (first | exact Mod.refl _ _ | assumption | refine Mod.alloc ?_ _ | refine Mod.drew ?_ | refine Mod.drewN ?_ _ | refine Mod.setCell ?_ (by first | exact Or.inl rfl | (right; simp; done) | (right; simp; omega) | (left; simp; done)) _))⟩ ?_
      rintro W4 ⟨hsz, hv4, hz4, hm4⟩
      refine (wpIn_wide (n := 0)).1 ?_
      have HSZ := Lib.hid hsz
      refine wp_range_t (gf := 31) (lb := #[.pointer (some ⟨wr.heap.size + 1, 0, none⟩)]) rfl enters_vals1
        (rvalues1_iter (wr.heap.size + 1) Am cm ms (fun b => b < w2.heap.size ∨ b = wr.heap.size + 1) W4 (by rw [← HNm.out]; simp [maxLen]; omega) (by rw [hp_cell hv4 0, ← HNm.out]; rfl) (.inr rfl) (fun b hb => by rcases hb with h | h <;> omega) ((HRm.out.mod (M4.trans' hm4) (fun b hb => ⟨hb, id⟩)).mono fun b hb => .inl hb))
        (fun b hb => by rcases hb with h | h <;> omega)
        (fun x hx => by obtain ⟨e, _, rfl⟩ := List.mem_map.1 hx; rfl) (clI w2.heap.size ms) noX (clA w2.heap.size ms)
        (by
          rintro k C X Y ⟨v, h1, h2, rfl⟩ hA
          exact ⟨v, hp_agree h1 hA (.inl rfl), h2.keep (hA.mono fun b hb => .inr hb), rfl⟩)
        (fun c k C X Y h hA => h)
        (by
          rintro T a' k C X Y ⟨bE, x, v, hx, ha, hlt, h1, h2, h3, rfl⟩ hA
          exact ⟨bE, x, v, hx, ha, hlt, hp_agree h1 hA (.inl (.inl rfl)), h2.keep (hA.mono fun b hb => .inl (.inr hb)), hp_agree h3 hA (.inr rfl), rfl⟩)
        (fun b => b = w2.heap.size) (fun b hb => by subst hb; exact ⟨by omega, fun hd => by rcases hd with h | h <;> omega⟩)
        ⟨_, hz4, by simpa using OwnS.nil _ _ _ _ _, by funext b; simp [Value.ownBlock]⟩ ?assign ?body ?done ?stop
      case assign =>
        rintro l' k hk C W' ⟨v, h1, h2, rfl⟩ hm' hb'
        simp only [List.length_map] at hk
        simp only [List.getElem_map, Rg.val]
        obtain ⟨x, hx⟩ : ∃ x, x = ms[k] := ⟨_, rfl⟩
        rw [← hx]
        have HX := Lib.hid (show ms[k]? = some x by rw [hx]; exact List.getElem?_eq_getElem hk)
        have H1 := Lib.hid h1
        have hzl := hp_lt h1
        clear hx h1 hsz hnl
        gi_wp2
        refine ⟨_, ⟨W'.heap.size, x, v, HX.out, rfl, hzl, hp_alloc H1.out _, h2.keep (Agree.below ((Below.refl _ _).alloc (Nat.le_refl _) _) fun b h => (h2.fresh b h).2), hp_new _ _, rfl⟩, by (repeat' (first | exact Mod.refl _ _ | assumption | refine Mod.alloc ?_ _ | refine Mod.drew ?_ | refine Mod.drewN ?_ _ | refine Mod.setCell ?_ (by first | exact Or.inl rfl | (right; simp; done) | (right; simp; omega) | (left; simp; done)) _)), ?_⟩
        rintro b (hb | rfl)
        · exact ⟨by have := (hb' b hb).1; simp; omega, .inl hb⟩
        · exact ⟨by simp, .inr (Nat.le_refl _)⟩
      case body =>
        rintro l' k hk C a' W' ⟨bE, x, v, hx, rfl, hlt, h1, h2, h3, rfl⟩ hm' hb' - - -
        simp only [List.length_map] at hk
        obtain ⟨A6, c6, hv, -, hfr, hml6⟩ := OwnS.rd h2 Rg.cs_len
        subst hv
        have hlk : (ms.take k).length = k := by simp; omega
        rw [hlk] at h1 h2 hfr
        have cz := hp_cell h1 0
        have fz := hp_free h1 0
        have e0 := hp_cell h3 0
        have e1 := hp_cell h3 1
        have e2 := hp_cell h3 2
        have hbz := hp_lt h1
        have hbE := hp_lt h3
        have H1 := Lib.hid h1
        have HLK := Lib.hid hlk
        have HT := Lib.hid (show ms.take k ++ [x] = ms.take (k + 1) by
          rw [List.take_succ_eq_append_getElem hk]; rw [List.getElem?_eq_getElem hk] at hx; simp at hx; rw [hx])
        have HL1 := Lib.hid (show (ms.take (k + 1)).length = k + 1 by simp; omega)
        have hnz : ∀ b, (Value.slice A6 k c6).ownBlock = some b → b ≠ w2.heap.size := fun b hb => by have := (hfr b hb).1; omega
        have hkn : k < 200 := by have := HNm.out; omega
        clear h1 h3 hx hsz hnl hlk
        gi_wp2_with (gi_at_builtin
                     refine wpListIn_app (xs := ms.take k) (ys := [x]) (D := fun b => b = W'.heap.size) rfl (.tmp 61) (.tmp 63) rfl rgs_t Rg.cs_len Rg.cs_one rfl (h2.keep (Agree.below ((Below.refl _ _).alloc (Nat.le_refl _) _) fun b h => (h2.fresh b h).2)) 1 rfl rfl (Rd.one (hp_new _ _) rfl) ?_ ?_ ?_ ?_
                     · rw [HLK.out]; simp [maxLen]; omega
                     · rw [HLK.out]; simp; omega
                     · simp; omega
                     intro v' w6 hown6 hm6 hat6
                     rw [HT.out] at hown6
                     obtain ⟨A7, c7, hv7, -, hfr7, hml7⟩ := OwnS.rd hown6 Rg.cs_len
                     rw [HL1.out] at hv7
                     subst hv7
                     have h16 := hp_mod (hp_alloc H1.out _) hm6 (fun h => hnz _ h rfl)
                     have cz6 := hp_cell h16 0
                     have fz6 := hp_free h16 0
                     have H16 := Lib.hid h16
                     have HM6 := Lib.hid hm6
                     clear h16 hm6)
        have hs6 := HM6.out.size
        simp at hs6
        refine ⟨fun b => b = w2.heap.size ∨ (Value.slice A7 (k + 1) c7).ownBlock = some b, ⟨_, hp_eq (hp_set H16.out 0 _) rfl, ?_, rfl⟩, ?_, ?_⟩
        · exact hown6.keep ⟨rfl, rfl, rfl, by simp [World.setCell], fun b hb => Below.heap_setCell _ _ _ _ (by have := (hfr7 b hb).1; simp; omega)⟩
        · refine Mod.setCell (((Mod.refl _ W').alloc _).trans HM6.out (fun b hb => .inl (.inl (.inr ?_)))) (.inl (.inl (.inl rfl))) _
          exact ob_len.trans hb
        · rintro b (rfl | hb)
          · exact ⟨by simp [World.setCell]; omega, .inl (.inl (.inl rfl))⟩
          · refine ⟨by have := (hfr7 b hb).2; simpa [World.setCell] using this, ?_⟩
            rcases hat6 with h | h
            · rw [hb] at h; exact .inl (.inl (.inr (ob_len.trans h.symm)))
            · rw [hb] at h; simp at h; right; omega
      case done =>
        rintro W' C' ⟨v, h1, h2, rfl⟩ hm' hb' hK hn'
        rw [HSZ.out] at hK hn'
        rw [HSZ.out]
        have ht : ms.take (ms.map fun x => #[x.val]).length = ms := by simp
        rw [ht] at h2
        obtain ⟨A6, c6, hv6, hr6, hf6, -⟩ := OwnS.rd h2 Rg.cs_len
        rw [← HNm.out] at hv6
        subst hv6
        have hlt4 : W4.heap.size = wr.heap.size + 2 := HSZ.out
        have M' : Mod (fun _ => False) w2 W' := (M4.trans' hm4).trans hm' (fun b hb => by subst hb; exact .inr (Nat.le_refl _))
        have hback : Rd (fun b => b < W'.heap.size) W' 3 Rg.cs A4 xs.reverse := by
          have h := (HR4.out.mod (hm4.mono (C' := fun b => b = w2.heap.size) (fun _ _ h => h.elim)) (fun b hb => ⟨(HFr.out b hb).2, fun h => by have := (HFr.out b hb).1; omega⟩)).mod hm' (fun b hb => ⟨by have := (HFr.out b hb).2; omega, fun h => by have := (HFr.out b hb).1; omega⟩)
          exact h.mono fun b hb => by have := (HFr.out b hb).2; have := hm'.size; omega
        have hown6 : Rd (fun b => b < W'.heap.size) W' 3 Rg.cs A6 ms := hr6.mono fun b hb => (hf6 b hb).2
        have cz := hp_cell h1 0
        have hzl := hp_lt h1
        have hKl := hp_lt hK
        have HK := Lib.hid (fun X (hX : Mod (fun _ => False) W' X) => hp_mod hK hX id)
        have HZ := Lib.hid (fun X (hX : Mod (fun _ => False) W' X) => hp_mod h1 hX id)
        have hrev := mapR_perm (List.reverse_perm xs) HE.out
        have hown0 := mapR_own (mapR_facts HE.out).1
        rw [← HMs.out] at hrev hown0
        have hofb := fun X (hX : Mod (fun _ => False) W' X) => of_ok A4 c4 xs.reverse X (rd_keep hback hX) (by have := HN.out; simp; omega) (fun y hy => HF.out y (List.mem_reverse.1 hy)) hrev.1
        have hofo := fun X (hX : Mod (fun _ => False) W' X) => of_ok A6 c6 ms X (rd_keep hown6 hX) (by have := HNm.out; omega) (by rw [HMs.out]; exact fit_mapR HF.out) hown0.1
        rw [hrev.2, List.length_reverse, ← HN.out] at hofb
        rw [hown0.2, ← HNm.out] at hofo
        have HOfb := Lib.hid hofb
        have HOfo := Lib.hid hofo
        have HOw := Lib.hid (fun X (hX : Mod (fun _ => False) W' X) => rd_keep hown6 hX)
        have HM' := Lib.hid M'
        have K' : Mod (fun _ => False) W' W' := Mod.refl _ _
        clear h1 h2 hr6 hf6 hm' hb' hK hn' hback hown6 hrev hown0 hofb hofo hm4 hv4 hz4 M'
        go_wp2_with (first
          | (go_at_call_of 8 (Value.slice A4 n c4)
             refine (HOfb.out _ (by (repeat' (first | exact Mod.refl _ _ | assumption | refine Mod.alloc ?_ _ | refine Mod.drew ?_ | refine Mod.drewN ?_ _ | refine Mod.setCell ?_ (by first | exact Or.inl rfl | (right; simp; done) | (right; simp; omega) | (left; simp; done)) _)))).mono ?_
             rintro e w11 ⟨b11, rfl, hM11, hm11⟩
             have K11 : Mod (fun _ => False) W' w11 := (show Mod (fun _ => False) W' _ by (repeat' (first | exact Mod.refl _ _ | assumption | refine Mod.alloc ?_ _ | refine Mod.drew ?_ | refine Mod.drewN ?_ _ | refine Mod.setCell ?_ (by first | exact Or.inl rfl | (right; simp; done) | (right; simp; omega) | (left; simp; done)) _))).trans' hm11
             have z11 := hp_cell (HZ.out _ K11) 0
             have HM11 := Lib.hid (fun X (hX : Mod (fun _ => False) w11 X) => hM11.mod hX)
             clear hM11)
          | (go_at_call 8
             refine (HOfo.out _ K11).mono ?_
             rintro e w12 ⟨b12, rfl, hM12, hm12⟩
             have K12 : Mod (fun _ => False) W' w12 := K11.trans' hm12
             have z12 := hp_cell (HZ.out _ K12) 0
             have HM12 := Lib.hid (fun X (hX : Mod (fun _ => False) w12 X) => hM12.mod hX)
             have HMb := Lib.hid (fun X (hX : Mod (fun _ => False) w12 X) => HM11.out X (hm12.trans' hX))
             have L12 : Mod (fun _ => False) w12 w12 := Mod.refl _ _
             clear hM12)
          | (go_at_call 10; refine (num_any _ _).mono ?_; rintro e w' ⟨rfl, rfl⟩)
          | (go_at_call_of 12 (Value.pointer (some (Addr.mk b11 0 none)))
             refine (once_any' b11 A6 c6 nm ms HNm.out _ (HMb.out _ (by (repeat' (first | exact Mod.refl _ _ | assumption | refine Mod.alloc ?_ _ | refine Mod.drew ?_ | refine Mod.drewN ?_ _ | refine Mod.setCell ?_ (by first | exact Or.inl rfl | (right; simp; done) | (right; simp; omega) | (left; simp; done)) _)))) (HOw.out _ (K12.trans' (by (repeat' (first | exact Mod.refl _ _ | assumption | refine Mod.alloc ?_ _ | refine Mod.drew ?_ | refine Mod.drewN ?_ _ | refine Mod.setCell ?_ (by first | exact Or.inl rfl | (right; simp; done) | (right; simp; omega) | (left; simp; done)) _))))) hml).mono ?_
             rintro e w13 ⟨rfl, hm13⟩
             have L13 : Mod (fun _ => False) w12 w13 := (show Mod (fun _ => False) w12 _ by (repeat' (first | exact Mod.refl _ _ | assumption | refine Mod.alloc ?_ _ | refine Mod.drew ?_ | refine Mod.drewN ?_ _ | refine Mod.setCell ?_ (by first | exact Or.inl rfl | (right; simp; done) | (right; simp; omega) | (left; simp; done)) _))).trans' hm13
             have z13 := hp_cell (HZ.out _ (K12.trans' L13)) 0)
          | (go_at_call 12
             refine (once_any' b12 A6 c6 nm ms HNm.out _ (HM12.out _ (by (repeat' (first | exact Mod.refl _ _ | assumption | refine Mod.alloc ?_ _ | refine Mod.drew ?_ | refine Mod.drewN ?_ _ | refine Mod.setCell ?_ (by first | exact Or.inl rfl | (right; simp; done) | (right; simp; omega) | (left; simp; done)) _)))) (HOw.out _ (K12.trans' (by (repeat' (first | exact Mod.refl _ _ | assumption | refine Mod.alloc ?_ _ | refine Mod.drew ?_ | refine Mod.drewN ?_ _ | refine Mod.setCell ?_ (by first | exact Or.inl rfl | (right; simp; done) | (right; simp; omega) | (left; simp; done)) _))))) hml).mono ?_
             rintro e w14 ⟨rfl, hm14⟩
             have L14 : Mod (fun _ => False) w12 w14 := (show Mod (fun _ => False) w12 _ by (repeat' (first | exact Mod.refl _ _ | assumption | refine Mod.alloc ?_ _ | refine Mod.drew ?_ | refine Mod.drewN ?_ _ | refine Mod.setCell ?_ (by first | exact Or.inl rfl | (right; simp; done) | (right; simp; omega) | (left; simp; done)) _))).trans' hm14)
          | fail)
        have HL14 := Lib.hid (K12.trans' L14)
        have HX14 := Lib.hid (fun X (hX : Mod (fun _ => False) w14 X) => (M2.trans' (HM'.out.trans' HL14.out)).trans' hX)
        have HP14 := Lib.hid (fun X (hX : Mod (fun _ => False) w14 X) => (HM'.out.trans' HL14.out).trans' hX)
        have HK14 := Lib.hid (fun X (hX : Mod (fun _ => False) w14 X) => HK.out X (HL14.out.trans' hX))
        have HG0 := Lib.hid (fun (s : Int) X (hX : Mod (fun _ => False) w14 X) => get_map b2 ms s X (HMp2.out X (HP14.out X hX)) (by have := HNm.out; omega) (by rw [HMs.out]; exact (mapR_facts HE.out).1))
        have HR0 := Lib.hid (fun (s : Int) X (hX : Mod (fun _ => False) w14 X) => rrget_map A c xs s X (HA.out X (HX14.out X hX)) (by have := HN.out; omega))
        have HV0 := Lib.hid (fun s => show val ms s = val xs s by rw [HMs.out]; exact (mapR_facts HE.out).2.1 s)
        clear z11 z12 z13 cz
        go_loopw [15, 16] (fun v i wr => ∃ k : Nat, k ≤ n ∧ i = .int .i64 (k : Int) ∧ (∃ la : List Int, la.length ≤ 1 + 4 * k ∧ OwnS w14.heap.size 21 1 Rn.cs wr v la) ∧ Mod (fun _ => False) w14 wr) (fun _ i _ => n - (intOf i).toNat)
        case atStart => exact ⟨0, by omega, rfl, ⟨[r], by simp, own_lit _ _⟩, by (repeat' (first | exact Mod.refl _ _ | assumption | refine Mod.alloc ?_ _ | refine Mod.drew ?_ | refine Mod.drewN ?_ _ | refine Mod.setCell ?_ (by first | exact Or.inl rfl | (right; simp; done) | (right; simp; omega) | (left; simp; done)) _))⟩
        case round =>
          obtain ⟨wq, hwq⟩ : ∃ wq, wq = wr := ⟨_, rfl⟩
          subst hwq
          obtain ⟨k, hk, rfl, ⟨la, hla, hown⟩, hm⟩ := hrel
          obtain ⟨q, hq⟩ : ∃ q, q = la.length := ⟨_, rfl⟩
          obtain ⟨A15, c15, hv15, hr15, hf15, -⟩ := OwnS.rd hown Rn.cs_len
          rw [← hq] at hv15
          subst hv15
          have HOq := Lib.hid hown
          have HMq := Lib.hid hm
          have HFq := Lib.hid hf15
          have HQ := Lib.hid hq
          have hq4 : q ≤ 1 + 4 * k := by omega
          clear hown hm hf15 hq hla hr15
          by_cases hkn : k < n
          · have hjx : k < xs.length := by rw [← HN.out]; omega
            obtain ⟨b', off, rfl, -, k0, k1, k2⟩ := rd3 (HA.out _ (HX14.out _ HMq.out)) hjx
            obtain ⟨y, hy⟩ : ∃ y, y = xs[k] := ⟨_, rfl⟩
            obtain ⟨l1, hl1⟩ : ∃ l1, IntKind.i32.wrap (y.lo - 1) = l1 := ⟨_, rfl⟩
            obtain ⟨h1, hh1⟩ : ∃ h1, IntKind.i32.wrap (y.hi + 1) = h1 := ⟨_, rfl⟩
            rw [← hy] at k0 k1 k2
            have HY := Lib.hid (fun X (hX : Mod (fun _ => False) w14 X) => (show X.cell? ⟨b', off + k * 3, none⟩ = some (.int .i32 y.lo) ∧ X.cell? ⟨b', off + k * 3 + 1, none⟩ = some (.int .i32 y.hi) by
              obtain ⟨b'', off', h1, -, h0, h2, -⟩ := rd3 (HA.out _ (HX14.out _ hX)) hjx
              injection h1 with h1; injection h1 with h1 h3; subst h1; subst h3; rw [hy]; exact ⟨h0, h2⟩))
            clear hy
            go_wp2
            have hbl : b' < wq.heap.size := World.block_lt_of_cell? wq _ k0
            go_region_held3 (fun W => W.cell? ⟨b', off + k * 3, none⟩ = some (.int .i32 y.lo) ∧ W.cell? ⟨b', off + k * 3 + 1, none⟩ = some (.int .i32 y.hi)) (first | exact ⟨k0, k1⟩ | exact ⟨j0, j1⟩ | exact ⟨(World.cell?_alloc_lt _ _ _ hbl).trans k0, (World.cell?_alloc_lt _ _ _ hbl).trans k1⟩ | fail) ((
              refine step_app (base := w14.heap.size) (xs := la) (ys := [y.lo, y.hi, l1]) (D := fun b => b = wq.heap.size) (v := .slice A15 q c15) rfl (.tmp 101) (.tmp 118) rfl rns_t Rn.cs_len Rn.cs_one ?_ (HOq.out.mod (C := fun _ => False) (by (repeat' (first | exact Mod.refl _ _ | assumption | refine Mod.alloc ?_ _ | refine Mod.drew ?_ | refine Mod.drewN ?_ _ | refine Mod.setCell ?_ (by first | exact Or.inl rfl | (right; simp; done) | (right; simp; omega) | (left; simp; done)) _))) (fun b _ => id)) 3 ?_ rfl (Rd.blk (c := #[.int .i32 y.lo, .int .i32 y.hi, .int .i32 l1]) (t := 21) (fr := (0, 0)) Rn.cs_len (by (repeat' (first | exact hp_new _ _ | exact hp_at _ _ (by simp; done) | refine hp_alloc ?_ _ | refine hp_drew ?_ | refine hp_drewN ?_ _ | apply hp_set | refine hp_far ?_ (by first | (simp; omega) | (simp; done)) _))) rfl) ?_ ?_ ?_ ?_
              · go_simp
              · go_simp
              · rw [← HQ.out]; simp [maxLen]; omega
              · rw [← HQ.out]; simp; omega
              · have := HMq.out.size; simp; omega
              intro v5 w5 hown5 hm5 _
              have M55 : Mod (fun _ => False) w14 w5 := (show Mod (fun _ => False) w14 _ by have := HMq.out; (repeat' (first | exact Mod.refl _ _ | assumption | refine Mod.alloc ?_ _ | refine Mod.drew ?_ | refine Mod.drewN ?_ _ | refine Mod.setCell ?_ (by first | exact Or.inl rfl | (right; simp; done) | (right; simp; omega) | (left; simp; done)) _))).trans hm5 (fun b h => .inr (HFq.out b h).1)
              obtain ⟨j0, j1⟩ := HY.out _ M55
              have HO5 := Lib.hid hown5
              have HM5 := Lib.hid M55
              clear hown5 hm5))
            all_goals
              have hlen5 : (la ++ [y.lo, y.hi, l1]).length = q + 3 := by simp [HQ.out]
              have HL5 := Lib.hid hlen5
              clear hlen5
              by_cases hlt : y.hi < 1073741824
              · go_wp2_with (first
                  | (at_builtin
                     refine wpList_app (base := w14.heap.size) (xs := la ++ [y.lo, y.hi, l1]) (ys := [h1]) (D := fun _ => True) (v := v5) rfl (.tmp 126) (.tmp 133) rfl rns_t Rn.cs_len Rn.cs_one rfl (HO5.out.mod (C := fun _ => False) (by (repeat' (first | exact Mod.refl _ _ | assumption | refine Mod.alloc ?_ _ | refine Mod.drew ?_ | refine Mod.drewN ?_ _ | refine Mod.setCell ?_ (by first | exact Or.inl rfl | (right; simp; done) | (right; simp; omega) | (left; simp; done)) _))) (fun b _ => id)) 1 rfl rfl (rd_oneT (g := w5.heap.size) (c := #[.int .i32 h1]) (t := 21) (fr := (0, 0)) (by (repeat' (first | exact hp_new _ _ | exact hp_at _ _ (by simp; done) | refine hp_alloc ?_ _ | refine hp_drew ?_ | refine hp_drewN ?_ _ | apply hp_set | refine hp_far ?_ (by first | (simp; omega) | (simp; done)) _))) rfl) ?_ ?_ ?_ ?_
                     · rw [HL5.out]; simp [maxLen]; omega
                     · rw [HL5.out]; simp; omega
                     · have := HM5.out.size; simp; omega
                     intro v6 w6 hown6 hm6 _
                     have M66 : Mod (fun _ => False) w14 w6 := (show Mod (fun _ => False) w14 _ by have := HM5.out; (repeat' (first | exact Mod.refl _ _ | assumption | refine Mod.alloc ?_ _ | refine Mod.drew ?_ | refine Mod.drewN ?_ _ | refine Mod.setCell ?_ (by first | exact Or.inl rfl | (right; simp; done) | (right; simp; omega) | (left; simp; done)) _))).trans hm6 (fun b h => .inr (HO5.out.fresh b h).1)
                     have HO6 := Lib.hid hown6
                     have HM6 := Lib.hid M66
                     clear hown6 hm6 M66)
                  | fail)
                refine ⟨⟨k + 1, by omega, by go_num, ⟨_, ?_, HO6.out⟩, HM6.out⟩, by simp only [intOf]; omega⟩
                rw [List.length_append, HL5.out]; simp; omega
              · go_wp2
                refine ⟨⟨k + 1, by omega, by go_num, ⟨_, ?_, HO5.out⟩, HM5.out⟩, by simp only [intOf]; omega⟩
                rw [HL5.out]; omega
          · obtain rfl : k = n := by omega
            go_wp2
            go_loopw [17] (fun i wp => ∃ j : Nat, j ≤ q ∧ i = .int .i64 (j : Int) ∧ Mod (fun _ => False) wq wp) (fun i _ => q - (intOf i).toNat)
            case atStart => exact ⟨0, Nat.zero_le _, rfl, Mod.refl _ _⟩
            case round =>
              obtain ⟨j, hj, rfl, hm3⟩ := hrel
              have HM3 := Lib.hid hm3
              have HM14 := Lib.hid (HMq.out.trans' hm3)
              have HO3 := Lib.hid (HOq.out.mod hm3 (fun b _ => id))
              clear hm3
              by_cases hjq : j < q
              · have hjl : j < la.length := by rw [← HQ.out]; exact hjq
                obtain ⟨g, cg, hv, -, -, -⟩ := HO3.out.at_ (by omega)
                injection hv with e1 e2 e3
                subst e1
                clear e2 e3
                have a0 := HO3.out.cell (g := g) (c := c15) Rn.cs_len (by rw [HQ.out]) hjl (j := 0) (u := .int .i32 la[j]) rfl
                simp only [Nat.mul_one, Nat.add_zero] at a0
                obtain ⟨s, hs⟩ : ∃ s, s = la[j] := ⟨_, rfl⟩
                rw [← hs] at a0
                have hG := fun X hX => HG0.out s X (HM14.out.trans' hX)
                have hR := fun X hX => HR0.out s X (HM14.out.trans' hX)
                rw [HV0.out s] at hG
                obtain ⟨gv, hgv⟩ : ∃ gv, gv = (val xs s).getD 0 := ⟨_, rfl⟩
                obtain ⟨gb, hgb⟩ : ∃ gb, gb = (val xs s).isSome := ⟨_, rfl⟩
                rw [← hgv, ← hgb] at hG hR
                rw [← HN.out] at hR
                have HG := Lib.hid hG
                have HR := Lib.hid hR
                have HA0 := Lib.hid (fun X (hX : Mod (fun _ => False) _ X) => (hX.cell (p := ⟨g, j, none⟩) (World.block_lt_of_cell? _ _ a0) id).trans a0)
                clear hG hR hgv hgb hs
                go_wp2_with (first
                  | (go_at_call 15
                     refine (HG.out _ (by (repeat' (first | exact Mod.refl _ _ | assumption | refine Mod.alloc ?_ _ | refine Mod.drew ?_ | refine Mod.drewN ?_ _ | refine Mod.setCell ?_ (by first | exact Or.inl rfl | (right; simp; done) | (right; simp; omega) | (left; simp; done)) _)))).mono ?_
                     rintro e w7 ⟨rfl, hm7⟩
                     have M77 : Mod (fun _ => False) wr w7 := (show Mod (fun _ => False) wr _ by (repeat' (first | exact Mod.refl _ _ | assumption | refine Mod.alloc ?_ _ | refine Mod.drew ?_ | refine Mod.drewN ?_ _ | refine Mod.setCell ?_ (by first | exact Or.inl rfl | (right; simp; done) | (right; simp; omega) | (left; simp; done)) _))).trans' hm7
                     have a7 := HA0.out _ M77)
                  | (go_at_call 16
                     refine (HR.out _ (by (repeat' (first | exact Mod.refl _ _ | assumption | refine Mod.alloc ?_ _ | refine Mod.drew ?_ | refine Mod.drewN ?_ _ | refine Mod.setCell ?_ (by first | exact Or.inl rfl | (right; simp; done) | (right; simp; omega) | (left; simp; done)) _)))).mono ?_
                     rintro e w8 ⟨rfl, rfl⟩)
                  | fail)
                all_goals
                  refine ⟨⟨j + 1, by omega, by go_num, HM3.out.trans' (show Mod (fun _ => False) wr _ by (repeat' (first | exact Mod.refl _ _ | assumption | refine Mod.alloc ?_ _ | refine Mod.drew ?_ | refine Mod.drewN ?_ _ | refine Mod.setCell ?_ (by first | exact Or.inl rfl | (right; simp; done) | (right; simp; omega) | (left; simp; done)) _)))⟩, by simp only [intOf]; omega⟩
              · obtain rfl : j = q := by omega
                have M33 := HM14.out
                go_wp2
                refine retM1 rfl (HK14.out _ M33) (results_tmp rfl _ _ _) ⟨rfl, ((M2.trans' (HM'.out.trans' HL14.out)).trans' M33 |> fun h => (show Mod (fun _ => False) w _ from h)).putObj (.inr (by have := M2.size; have := HM.out.size; omega)) _⟩
      case stop =>
        rintro W' C' c k hk0 hk hjx hm' hb' hK hn'
        exact hjx.elim

theorem mean_any (A : Option Addr) (c : Nat) (xs : List Rg) (r : Int) (w : World) (hA : Rd (fun b => b < w.heap.size) w 3 Rg.cs A xs) (hl : xs.length ≤ c) (hc : c ≤ maxLen) (hf : ∀ y ∈ xs, FitR y) :
    Calls Try.prog 4 #[.slice A xs.length c, .int .i32 r] w fun e w' => e = .returned (.bool true) ∧ Mod (fun _ => False) w w' := by
  by_cases h : 200 < xs.length
  · exact mean_many A c xs r w hA hl hc hf h
  · by_cases he : errR xs = 0
    · exact mean_ok A c xs r w hA hl hc hf (by omega) he
    · exact mean_err A c xs r w hA hl hc hf (by omega) he
end Go.Proofs.Ytaohdhblnjoihaa
