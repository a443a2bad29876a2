/-
  Texts of this claim, one behind the other: RefU.
-/
import Derived.Test.YtmalclclopnlnaaGreatPk01
import Derived.Test.YtmalclclopnlnaaGreatPk22
import Derived.Test.YtmalclclopnlnaaGreatPk34
import Derived.Deep.DeepFit
/-
  The document's table: put.
-/
namespace Go.Proofs.YtmalclclopnlnaaGreat
open Go.RowKit Go.Shelf
attribute [local go_sem] Oper.semAt_some

theorem tolds_t : SliceT Tryz.prog 57 61 6 80 := SliceT.mk' (z := .agg #[.int .u64 0, .int .u64 0, .int .i64 0, .bool false, .slice none 0 0, .slice none 0 0]) Tryz.underlying57 (by kernel_rfl) (by kernel_rfl) (by decide)
theorem stp1 (y e : AC) (s : List AC) (h : e.c = y.c) : stpK AC.c y (s, true) e = (s, true) := by unfold stpK; simp [h]
theorem stp2 (y e : AC) (s : List AC) (h : ¬ e.c = y.c) : stpK AC.c y (s, true) e = (s ++ [e], true) := by unfold stpK; simp [h]
theorem stp3 (y e : AC) (s : List AC) (h : e.c = y.c) : stpK AC.c y (s, false) e = (s ++ [y], true) := by unfold stpK; simp [h]
theorem stp4 (y e : AC) (s : List AC) (h : ¬ e.c = y.c) (hl : y.c ≤ e.c) : stpK AC.c y (s, false) e = (s ++ [y] ++ [e], true) := by unfold stpK; simp [h, hl]
theorem stp5 (y e : AC) (s : List AC) (hl : ¬ y.c ≤ e.c) : stpK AC.c y (s, false) e = (s ++ [e], false) := by
  have h : ¬ e.c = y.c := by omega
  unfold stpK; simp [h, hl]
theorem stp_len (y : AC) : ∀ (l : List AC) (s : List AC × Bool), (l.foldl (stpK AC.c y) s).1.length ≤ s.1.length + 2 * l.length
  | [], s => by simp
  | e :: l, s => by
    have h1 := stp_len y l (stpK AC.c y s e)
    have h2 : (stpK AC.c y s e).1.length ≤ s.1.length + 2 := by
      unfold stpK
      simp only
      split <;> split <;> simp
    rw [List.foldl_cons, List.length_cons]
    omega
theorem stp_mem (y : AC) {x : AC} : ∀ (l : List AC) (s : List AC × Bool), x ∈ (l.foldl (stpK AC.c y) s).1 → x ∈ s.1 ∨ x = y ∨ x ∈ l
  | [], s, h => .inl h
  | e :: l, s, h => by
    rw [List.foldl_cons] at h
    rcases stp_mem y l _ h with h | h | h
    · have : x ∈ s.1 ∨ x = y ∨ x = e := by
        unfold stpK at h
        split at h <;> split at h <;> simp at h <;> first | exact .inl h | (rcases h with h | h | h <;> simp [h]; done) | (rcases h with h | h <;> simp [h]; done)
      rcases this with h | h | h
      · exact .inl h
      · exact .inr (.inl h)
      · exact .inr (.inr (by simp [h]))
    · exact .inr (.inl h)
    · exact .inr (.inr (by simp [h]))
theorem fin_put {L : List Told} {xs : List AC} {y : AC} (ht : xs.map AC.told = L) (hT : Tab L) : (finK y (xs.foldl (stpK AC.c y) ([], false))).map AC.told = putT y.told L := by
  have hp : xs.Pairwise fun a b => a.c < b.c := by
    have h1 := hT.1
    rw [← ht] at h1
    unfold SrtT at h1
    rw [List.pairwise_map] at h1
    exact h1
  rw [ins_fold AC.c y xs [] hp, List.nil_append, insK_map AC.told AC.c Told.c (fun _ => rfl), ht, putT_ins]
def RputEnds (base : Nat) (D : Nat → Prop) (q : Nat) (L : List Told) (x : Told) (v : Value) (w : World) (e : Ending) (w' : World) : Prop :=
  e = .returned (.int .i64 (putE x.c x.n L : Int)) ∧ (∃ v' xs', RefAt base 61 D q 59 w' (if putE x.c x.n L = 0 then putT x L else L) v' xs' ∧ ∀ b, v'.ownBlock = some b → v.ownBlock = some b ∨ w.heap.size ≤ b) ∧ Mod (fun b => b = q) w w'
theorem RefAt.mod {base E : Nat} {D C : Nat → Prop} {q T : Nat} {w w' : World} {L : List Told} {v : Value} {xs : List AC} (h : RefAt base E D q T w L v xs) (hm : Mod C w w') (hq : ¬ C q) (hv : ∀ b, v.ownBlock = some b → ¬ C b) (hD : ∀ b, D b → b < w.heap.size ∧ ¬ C b) : RefAt base E D q T w' L v xs :=
  ⟨hp_mod h.ptr hm hq, h.own.mod hm hv, fun x hx => (h.ok x hx).mod hm hD, h.told, h.tab, h.ne⟩
theorem RputEnds.no {base : Nat} {D : Nat → Prop} {q : Nat} {L : List Told} {x : Told} {v : Value} {xs : List AC} {w w' : World} {e : Ending} (h : RefAt base 61 D q 59 w L v xs) (hD : ∀ b, D b → b < w.heap.size) (hm : Mod (fun _ => False) w w') (hw : putE x.c x.n L ≠ 0) (he : e = .returned (.int .i64 (putE x.c x.n L : Int))) : RputEnds base D q L x v w e w' := by
  refine ⟨he, ⟨v, xs, ?_, fun b hb => .inl hb⟩, hm.mono fun _ _ h => h.elim⟩
  rw [if_neg hw]
  exact h.mod hm id (fun _ _ => id) fun b hb => ⟨hD b hb, id⟩
theorem own_sl {base E : Nat} {w : World} {v : Value} {xs : List AC} (h : OwnS base E 6 AC.cs w v xs) : ∃ A c n, v = .slice A n c := by
  obtain ⟨A, c, hv, -⟩ := h.rd AC.cs_len
  exact ⟨A, c, _, hv⟩
theorem put_fin {base : Nat} {D : Nat → Prop} {q : Nat} {L : List Told} {v v9 : Value} {xs s9 : List AC} {c n : Nat} {r : RC} {w w2 wr : World} (h : RefAt base 61 D q 59 w L v xs) (hr : r.Ok D w) (hD : ∀ b, D b → b < w.heap.size ∧ b ≠ q) (hbase : base ≤ w.heap.size)
    (hc : c < 18446744073709551616) (hn : n < 18446744073709551616) (hmr : mayR r.res = true) (h0 : putE c n L = 0) (hm1 : Mod (fun _ => False) w w2) (ho : OwnS w2.heap.size 61 6 AC.cs wr v9 s9) (hm : Mod (fun _ => False) w2 wr) (hf : s9 = finK (⟨c, n, r⟩ : AC) (xs.foldl (stpK AC.c (⟨c, n, r⟩ : AC)) ([], false))) :
    (∃ v' xs', RefAt base 61 D q 59 (wr.setCell ⟨q, 0, none⟩ v9) (putT ⟨c, n, r.res⟩ L) v' xs' ∧ ∀ b, v'.ownBlock = some b → v.ownBlock = some b ∨ w.heap.size ≤ b) ∧ Mod (fun b => b = q) w (wr.setCell ⟨q, 0, none⟩ v9) := by
  have hmw := hm1.trans' hm
  have hmq : Mod (fun b => b = q) w (wr.setCell ⟨q, 0, none⟩ v9) := Mod.setCell (C := fun b => b = q) (p := ⟨q, 0, none⟩) (hmw.mono fun _ _ h => h.elim) (.inl rfl) v9
  have hql := hp_lt h.ptr
  have hs1 := hm1.size
  have hsm := hm.size
  have hne : ∀ b, v9.ownBlock = some b → b ≠ q := fun b hb => by have := (ho.fresh b hb).1; omega
  have hT : Tab (putT ⟨c, n, r.res⟩ L) := by
    have := h.tab.act (x := ⟨c, n, r.res⟩) hc hn
    unfold actT wantE at this
    rw [if_pos (show mayR (⟨c, n, r.res⟩ : Told).r = true from hmr), if_pos (show putE (⟨c, n, r.res⟩ : Told).c (⟨c, n, r.res⟩ : Told).n L = 0 from h0)] at this
    exact this
  refine ⟨⟨v9, s9, ⟨?_, ?_, fun x hx => ?_, ?_, hT, hne⟩, fun b hb => .inr (by have := (ho.fresh b hb).1; omega)⟩, hmq⟩
  · have := hp_set (hp_mod h.ptr hmw id) 0 v9
    exact this
  · have : Mod (fun b => b = q) wr (wr.setCell ⟨q, 0, none⟩ v9) := Mod.setCell (C := fun b => b = q) (p := ⟨q, 0, none⟩) (Mod.refl _ wr) (.inl rfl) v9
    exact (ho.mod this fun b hb => hne b hb).less (by omega)
  · rw [hf] at hx
    unfold finK at hx
    have hx : x = (⟨c, n, r⟩ : AC) ∨ x ∈ xs := by
      have h1 : ∀ {x : AC}, x ∈ (xs.foldl (stpK AC.c (⟨c, n, r⟩ : AC)) ([], false)).1 → x = (⟨c, n, r⟩ : AC) ∨ x ∈ xs := fun hx => by
        rcases stp_mem _ _ _ hx with h | h | h
        · cases h
        · exact .inl h
        · exact .inr h
      split at hx
      · exact h1 hx
      · rcases List.mem_append.1 hx with h | h
        · exact h1 h
        · exact .inl (List.mem_singleton.1 h)
    rcases hx with rfl | hx
    · exact ⟨hc, hn, hr.mod hmq hD⟩
    · exact (h.ok x hx).mod hmq hD
  · rw [hf]
    exact fin_put (y := (⟨c, n, r⟩ : AC)) h.told h.tab
set_option maxRecDepth 100000 in
set_option maxHeartbeats 4000000 in
theorem put25_any (base : Nat) (D : Nat → Prop) (q : Nat) (L : List Told) (v : Value) (xs : List AC) (c n : Nat) (r : RC) (w : World) (h : RefAt base 61 D q 59 w L v xs) (hr : r.Ok D w) (hD : ∀ b, D b → b < w.heap.size ∧ b ≠ q) (hbase : base ≤ w.heap.size)
    (hc : c < 18446744073709551616) (hn : n < 18446744073709551616) (hmr : mayR r.res = true) :
    Calls Tryz.prog 23 #[.pointer (some ⟨q, 0, none⟩), .int .u64 (c : Int), .int .u64 (n : Int), r.val] w (RputEnds base D q L ⟨c, n, r.res⟩ v w) := by
  obtain ⟨kc, ky, rA, rn, rcA, rB, rm, rcB, hval, hcs⟩ := r.open
  rw [hval]
  obtain ⟨A, cp, hv, hA, hf, -⟩ := h.own.rd AC.cs_len
  have hxl : xs.length ≤ 16 := by have := h.tab.2.1; rw [← h.told, List.length_map] at this; exact this
  obtain ⟨l, hll⟩ : ∃ l, l = xs.length := ⟨_, rfl⟩
  rw [← hll] at hv hxl
  subst hv
  obtain ⟨W1, hW1⟩ : ∃ W1, W1 = w.alloc (.cells #[.int .i64 kc, .bool ky, .slice rA rn rcA, .slice rB rm rcB] 37) := ⟨_, rfl⟩
  have hb1 : W1.heap[w.heap.size]? = some (.cells #[.int .i64 kc, .bool ky, .slice rA rn rcA, .slice rB rm rcB] 37 (0, 0)) := by rw [hW1]; exact hp_new _ _
  have hm1 : Mod (fun _ => False) w W1 := by rw [hW1]; (repeat' (first | exact Mod.refl _ _ | assumption | refine Mod.alloc ?_ _ | refine Mod.drew ?_ | refine Mod.drewN ?_ _ | refine Mod.setCell ?_ (by first | exact Or.inl rfl | (right; simp; done) | (right; simp; omega) | (left; simp; done)) _))
  have h1 := h.mod hm1 id (fun _ _ => id) fun b hb => ⟨(hD b hb).1, id⟩
  have hA1 := hA.mod hm1 fun b hb => ⟨(hf b hb).2, id⟩
  have hAt1 := rat_any q 59 A cp c _ xs W1 (by rw [← hll]; exact h1.ptr) hA1 (by rw [← hll]; exact hxl)
  rw [h.told] at hAt1
  have HH := Lib.hid h
  have HD := Lib.hid hD
  have HR := Lib.hid hr
  have HB1 := Lib.hid hb1
  have HM1 := Lib.hid hm1
  have HW1 := Lib.hid hW1
  have HA1 := Lib.hid hA1
  have HL := Lib.hid hll
  have HCs := Lib.hid hcs
  have HMr := Lib.hid hmr
  have HP1 := Lib.hid h1.ptr
  have hLl : L.length = l := by rw [hll, ← h.told, List.length_map]
  have x0 : W1.cell? ⟨q, 0, none⟩ = some (.slice A l cp) := by rw [hp_cell h1.ptr]; rfl
  have HX0 := Lib.hid x0
  have hnn : ∀ e w', (∃ v' xs', RefAt base 61 D q 59 w' (putT ⟨c, n, r.res⟩ L) v' xs' ∧ ∀ b, v'.ownBlock = some b → (Value.slice A l cp).ownBlock = some b ∨ w.heap.size ≤ b) → Mod (fun b => b = q) w w' → putE c n L = 0 → e = .returned (.int .i64 0) → RputEnds base D q L ⟨c, n, r.res⟩ (Value.slice A l cp) w e w' := by
    intro e w' h1 h2 h3 h4
    exact ⟨by rw [h4, show putE (⟨c, n, r.res⟩ : Told).c (⟨c, n, r.res⟩ : Told).n L = 0 from h3]; rfl, by rw [if_pos (show putE (⟨c, n, r.res⟩ : Told).c (⟨c, n, r.res⟩ : Told).n L = 0 from h3)]; exact h1, h2⟩
  have HFin := Lib.hid hnn
  clear hnn
  cases h2 : atT c L with
  | none =>
    rw [idxT_none h2] at hAt1
    have hpe : putE c n L = if 16 ≤ L.length then 10 else 0 := by unfold putE; rw [h2]
    rw [hLl] at hpe
    have HAt := Lib.hid hAt1
    clear h hr hD hb1 hm1 hW1 hA1 hll hcs hmr h1 hAt1 hA hf hval h2 hLl
    by_cases hfu : 16 ≤ l
    · rw [if_pos hfu] at hpe
      have i1 : decide (16 ≤ l) = true := decide_eq_true hfu
      have i2 : decide ((16 : Int) ≤ (l : Int)) = true := decide_eq_true (by omega)
      have HW := Lib.hid hpe
      clear hpe hfu
      go_enter Tryz.func23, Tryz.ntmps23
      go_upto_region 1 with fail
      rw [← HW1.out]
      go_wp2_with (first
        | (go_at_call 31
           (with_reducible refine HAt.out.mono ?_)
           rintro e w2 ⟨rfl, rfl⟩)
        | fail)
      go_ret
      exact RputEnds.no HH.out (fun b hb => (HD.out b hb).1) HM1.out (by rw [HW.out]; decide) (by rw [HW.out]; rfl)
    · rw [if_neg hfu] at hpe
      have i1 : decide (16 ≤ l) = false := decide_eq_false hfu
      have i2 : decide ((16 : Int) ≤ (l : Int)) = false := decide_eq_false (by omega)
      have HW := Lib.hid hpe
      clear hpe hfu
      go_enter Tryz.func23, Tryz.ntmps23
      go_upto_region 1 with fail
      rw [← HW1.out]
      go_wp2_with (first
        | (go_at_call 31
           (with_reducible refine HAt.out.mono ?_)
           rintro e w2 ⟨rfl, rfl⟩)
        | fail)
      go_loopw [10, 11, 12] (fun u f i wr => ∃ k : Nat, k ≤ l ∧ i = .int .i64 (k : Int) ∧ ∃ fb, f = .bool fb ∧ ∃ s, (xs.take k).foldl (stpK AC.c (⟨c, n, r⟩ : AC)) ([], false) = (s, fb) ∧ OwnS w2.heap.size 61 6 AC.cs wr u s ∧ Mod (fun _ => False) w2 wr) (fun _ _ i _ => l - (intOf i).toNat)
      case atStart => exact ⟨0, Nat.zero_le _, rfl, false, rfl, [], rfl, OwnS.nil _ _ _ _ _, Mod.refl _ _⟩
      case round =>
        obtain ⟨k, hk, rfl, fb, rfl, s, hst0, ho, hm⟩ := hrel
        have hsl := stp_len (⟨c, n, r⟩ : AC) (xs.take k) ([], false)
        rw [hst0, List.length_take, ← HL.out] at hsl
        have hsl : s.length ≤ 32 := by have : s.length ≤ 0 + 2 * min k l := hsl; omega
        have HS := Lib.hid hsl
        have HSt := Lib.hid hst0
        have HO := Lib.hid ho
        have HM := Lib.hid hm
        have HPr := Lib.hid (hp_mod HP1.out hm id)
        have x0 : wr.cell? ⟨q, 0, none⟩ = some (.slice A l cp) := by rw [hp_cell HPr.out]; rfl
        have hql := hp_lt HP1.out
        have hbx := hp_mod HB1.out hm id
        have z0 : wr.cell? ⟨w.heap.size, 0, none⟩ = some (.int .i64 kc) := by rw [hp_cell hbx]; rfl
        have z1 : wr.cell? ⟨w.heap.size, 1, none⟩ = some (.bool ky) := by rw [hp_cell hbx]; rfl
        have z2 : wr.cell? ⟨w.heap.size, 2, none⟩ = some (.slice rA rn rcA) := by rw [hp_cell hbx]; rfl
        have z3 : wr.cell? ⟨w.heap.size, 3, none⟩ = some (.slice rB rm rcB) := by rw [hp_cell hbx]; rfl
        have HBx := Lib.hid hbx
        clear hbx
        have hAr := HA1.out.mod hm fun b hb => ⟨Nat.lt_of_lt_of_le (HH.out.own.fresh b hb).2 HM1.out.size, id⟩
        clear hsl hst0 ho hm
        by_cases hkl : k < l
        · have hkx : k < xs.length := by rw [← HL.out]; exact hkl
          obtain ⟨b, off, rfl, hbD, p0, p1, p2, p3, p4, p5⟩ := rdAC hAr hkx
          have hbl := Nat.lt_of_lt_of_le (HH.out.own.fresh _ hbD).2 HM1.out.size
          obtain ⟨e, he⟩ : ∃ e, e = xs[k] := ⟨_, rfl⟩
          rw [← he] at p0 p1 p2 p3 p4 p5
          have HT := Lib.hid (show xs.take (k + 1) = xs.take k ++ [e] by rw [he]; exact List.take_succ_eq_append_getElem hkx)
          obtain ⟨en, hen⟩ : ∃ a, a = e.r.es.length := ⟨_, rfl⟩
          obtain ⟨em, hem⟩ : ∃ a, a = e.r.cur.length := ⟨_, rfl⟩
          have HEc := Lib.hid (show e.r.cs = [.int .i64 e.r.code, .bool e.r.yes, .slice e.r.A en e.r.cA, .slice e.r.B em e.r.cB] by rw [hen, hem]; rfl)
          rw [← hen] at p4
          rw [← hem] at p5
          obtain ⟨ec, hec⟩ : ∃ a, a = e.c := ⟨_, rfl⟩
          rw [← hec] at p0
          have HEC := Lib.hid hec
          clear hAr hbD he hen hem hec
          cases fb
          · by_cases hle : c ≤ ec
            · have i1 : decide (c ≤ ec) = true := decide_eq_true hle
              by_cases heq : ec = c
              · have hst := stp3 (⟨c, n, r⟩ : AC) e s (HEC.out.symm.trans heq)
                rw [heq] at p0 i1
                have HStp := Lib.hid hst
                clear hst hle heq
                go_wp2_with (first
                  | (at_builtin
                     refine wpList_app1 (w0 := w2) (xs := s) (y := (⟨c, n, r⟩ : AC)) rfl (.tmp 63) (.tmp 68) rfl tolds_t AC.cs_len AC.cs_one rfl HO.out HM.out rfl (by show _ = Value.int .u64 (c : Int) :: .int .u64 (n : Int) :: r.cs; rw [HCs.out]) ?_ ?_ ?_
                     · have := HS.out; simp [maxLen]; omega
                     · have := HS.out; omega
                     intro v4 w4 ho4 hm4 hm5 _
                     have HO4 := Lib.hid ho4
                     have HM4 := Lib.hid hm4
                     have y0 := (hm5.cell (p := ⟨q, 0, none⟩) (by first | exact hp_lt HPr.out) (fun hb => by have := (HO.out.fresh q hb).1; omega)).trans x0
                     have c0 := cell_modC p0 hm5 (fun hb => by have := (HO.out.fresh _ hb).1; omega)
                     have c1 := cell_modC p1 hm5 (fun hb => by have := (HO.out.fresh _ hb).1; omega)
                     have c2 := cell_modC p2 hm5 (fun hb => by have := (HO.out.fresh _ hb).1; omega)
                     have c3 := cell_modC p3 hm5 (fun hb => by have := (HO.out.fresh _ hb).1; omega)
                     have c4 := cell_modC p4 hm5 (fun hb => by have := (HO.out.fresh _ hb).1; omega)
                     have c5 := cell_modC p5 hm5 (fun hb => by have := (HO.out.fresh _ hb).1; omega)
                     clear ho4 hm4 hm5)
                  | fail)
                have hst := HStp.out
                go_roundw
                case rel => exact ⟨k + 1, by omega, by go_num, _, rfl, _, by rw [HT.out, List.foldl_append, HSt.out]; exact hst, HO4.out, HM4.out⟩
                case measure => simp only [intOf]; omega
              · have hst := stp4 (⟨c, n, r⟩ : AC) e s (by rw [← HEC.out]; exact heq) (by rw [← HEC.out]; exact hle)
                have HStp := Lib.hid hst
                have i2 : decide (ec = c) = false := decide_eq_false heq
                clear hst hle
                go_wp2_with (first
                  | (at_builtin
                     refine wpList_app1 (w0 := w2) (xs := s) (y := (⟨c, n, r⟩ : AC)) rfl (.tmp 63) (.tmp 68) rfl tolds_t AC.cs_len AC.cs_one rfl HO.out HM.out rfl (by show _ = Value.int .u64 (c : Int) :: .int .u64 (n : Int) :: r.cs; rw [HCs.out]) ?_ ?_ ?_
                     · have := HS.out; simp [maxLen]; omega
                     · have := HS.out; omega
                     intro v4 w4 ho4 hm4 hm5 _
                     have HO4 := Lib.hid ho4
                     have HM4 := Lib.hid hm4
                     have y0 := (hm5.cell (p := ⟨q, 0, none⟩) (by first | exact hp_lt HPr.out) (fun hb => by have := (HO.out.fresh q hb).1; omega)).trans x0
                     have c0 := cell_modC p0 hm5 (fun hb => by have := (HO.out.fresh _ hb).1; omega)
                     have c1 := cell_modC p1 hm5 (fun hb => by have := (HO.out.fresh _ hb).1; omega)
                     have c2 := cell_modC p2 hm5 (fun hb => by have := (HO.out.fresh _ hb).1; omega)
                     have c3 := cell_modC p3 hm5 (fun hb => by have := (HO.out.fresh _ hb).1; omega)
                     have c4 := cell_modC p4 hm5 (fun hb => by have := (HO.out.fresh _ hb).1; omega)
                     have c5 := cell_modC p5 hm5 (fun hb => by have := (HO.out.fresh _ hb).1; omega)
                     clear ho4 hm4 hm5)
                  | (at_builtin
                     go_must (refine wpList_app1 (w0 := w2) (xs := (s ++ [(⟨c, n, r⟩ : AC)])) (y := e) rfl (.tmp 80) (.tmp 88) rfl tolds_t AC.cs_len AC.cs_one rfl HO4.out HM4.out rfl (by show _ = Value.int .u64 (e.c : Int) :: .int .u64 (e.n : Int) :: e.r.cs; rw [HEc.out, ← HEC.out]) ?_ ?_ ?_)
                     · have := HS.out; simp [maxLen]; omega
                     · have := HS.out; simp; omega
                     intro v5 w5 ho5 hm5 _ _
                     have HO5 := Lib.hid ho5
                     have HM5 := Lib.hid hm5
                     clear ho5 hm5)
                  | fail)
                have hst := HStp.out
                go_roundw
                case rel => exact ⟨k + 1, by omega, by go_num, _, rfl, _, by rw [HT.out, List.foldl_append, HSt.out]; exact hst, HO5.out, HM5.out⟩
                case measure => simp only [intOf]; omega
            · have i1 : decide (c ≤ ec) = false := decide_eq_false hle
              have heq : ¬ ec = c := by omega
              have i2 : decide (ec = c) = false := decide_eq_false heq
              have HStp := Lib.hid (stp5 (⟨c, n, r⟩ : AC) e s (by rw [← HEC.out]; exact hle))
              clear hle
              go_wp2_with (first
                | (at_builtin
                   go_must (refine wpList_app1 (w0 := w2) (xs := s) (y := e) rfl (.tmp 80) (.tmp 88) rfl tolds_t AC.cs_len AC.cs_one rfl HO.out HM.out rfl (by show _ = Value.int .u64 (e.c : Int) :: .int .u64 (e.n : Int) :: e.r.cs; rw [HEc.out, ← HEC.out]) ?_ ?_ ?_)
                   · have := HS.out; simp [maxLen]; omega
                   · have := HS.out; simp; omega
                   intro v5 w5 ho5 hm5 _ _
                   have HO5 := Lib.hid ho5
                   have HM5 := Lib.hid hm5
                   clear ho5 hm5)
                | fail)
              have hst := HStp.out
              go_roundw
              case rel => exact ⟨k + 1, by omega, by go_num, _, rfl, _, by rw [HT.out, List.foldl_append, HSt.out]; exact hst, HO5.out, HM5.out⟩
              case measure => simp only [intOf]; omega
          · by_cases heq : ec = c
            · have HStp := Lib.hid (stp1 (⟨c, n, r⟩ : AC) e s (HEC.out.symm.trans heq))
              rw [heq] at p0
              clear heq
              go_wp2_with fail
              have hst := HStp.out
              go_roundw
              case rel => exact ⟨k + 1, by omega, by go_num, _, rfl, _, by rw [HT.out, List.foldl_append, HSt.out]; exact hst, HO.out, HM.out⟩
              case measure => simp only [intOf]; omega
            · have HStp := Lib.hid (stp2 (⟨c, n, r⟩ : AC) e s (by rw [← HEC.out]; exact heq))
              have i2 : decide (ec = c) = false := decide_eq_false heq
              go_wp2_with (first
                | (at_builtin
                   go_must (refine wpList_app1 (w0 := w2) (xs := s) (y := e) rfl (.tmp 80) (.tmp 88) rfl tolds_t AC.cs_len AC.cs_one rfl HO.out HM.out rfl (by show _ = Value.int .u64 (e.c : Int) :: .int .u64 (e.n : Int) :: e.r.cs; rw [HEc.out, ← HEC.out]) ?_ ?_ ?_)
                   · have := HS.out; simp [maxLen]; omega
                   · have := HS.out; simp; omega
                   intro v5 w5 ho5 hm5 _ _
                   have HO5 := Lib.hid ho5
                   have HM5 := Lib.hid hm5
                   clear ho5 hm5)
                | fail)
              have hst := HStp.out
              go_roundw
              case rel => exact ⟨k + 1, by omega, by go_num, _, rfl, _, by rw [HT.out, List.foldl_append, HSt.out]; exact hst, HO5.out, HM5.out⟩
              case measure => simp only [intOf]; omega
        · obtain rfl : k = l := by omega
          have htk : xs.take k = xs := by rw [HL.out, List.take_length]
          rw [htk] at HSt
          have g0 : wr.frozen? ⟨q, 0, none⟩ = false := hp_free HPr.out _
          have HG := Lib.hid (hp_lt HPr.out)
          clear hAr htk
          cases fb
          · go_wp2_with (first
              | (at_builtin
                 go_must (refine wpList_app1 (w0 := w2) (xs := s) (y := (⟨c, n, r⟩ : AC)) rfl (.tmp 92) (.tmp 97) rfl tolds_t AC.cs_len AC.cs_one rfl HO.out HM.out rfl (by show _ = Value.int .u64 (c : Int) :: .int .u64 (n : Int) :: r.cs; rw [HCs.out]) ?_ ?_ ?_)
                 · have := HS.out; simp [maxLen]; omega
                 · have := HS.out; omega
                 intro v4 w4 ho4 hm4 hm5 _
                 obtain ⟨A9, c9, n9, rfl⟩ := own_sl ho4
                 have HO4 := Lib.hid ho4
                 have HM4 := Lib.hid hm4
                 have y0 := (hm5.cell (p := ⟨q, 0, none⟩) HG.out (fun hb => by have := (HO.out.fresh q hb).1; omega)).trans x0
                 have y1 := (hm5.frozen (p := ⟨q, 0, none⟩) HG.out (fun hb => by have := (HO.out.fresh q hb).1; omega)).trans g0
                 clear ho4 hm4 hm5)
              | fail)
            have hfin := put_fin HH.out HR.out HD.out hbase hc hn HMr.out HW.out HM1.out HO4.out HM4.out (by rw [HSt.out]; rfl)
            refine bodyPost_ret (v := .int .i64 0) (by simp [results, Tryz.results23, go_sem]) rfl (HFin.out _ _ hfin.1 hfin.2 HW.out rfl)
          · obtain ⟨A9, c9, n9, rfl⟩ := own_sl HO.out
            go_wp2_with fail
            have hfin := put_fin HH.out HR.out HD.out hbase hc hn HMr.out HW.out HM1.out HO.out HM.out (by rw [HSt.out]; rfl)
            refine bodyPost_ret (v := .int .i64 0) (by simp [results, Tryz.results23, go_sem]) rfl (HFin.out _ _ hfin.1 hfin.2 HW.out rfl)
  | some x =>
    obtain ⟨i, hi, hix, hxi⟩ := idxT_some h2
    rw [hix] at hAt1
    have hi' : i < xs.length := by rw [← hll, ← hLl]; exact hi
    have hxi : (xs[i]'hi').told = x := by
      have h9 := h.told
      subst h9
      rw [← hxi, List.getElem_map]
    obtain ⟨b0, off0, hAe, hbD, -, p1', -⟩ := rdAC hA1 hi'
    obtain ⟨xn, hxn⟩ : ∃ a, a = x.n := ⟨_, rfl⟩
    have hxn' : (xs[i]'hi').n = xn := by rw [hxn, ← hxi]; rfl
    rw [hxn'] at p1'
    have hpe : putE c n L = if n ≤ xn then 14 else 0 := by unfold putE; rw [h2, hxn]
    have hil : i < l := by rw [hll]; exact hi'
    have HAt := Lib.hid hAt1
    subst hAe
    clear hxi hxn'
    clear h hr hD hb1 hm1 hW1 hA1 hcs hmr h1 hAt1 hA hf hval h2 hLl hix hxi hi hi' hbD hxn hll
    by_cases hol : n ≤ xn
    · rw [if_pos hol] at hpe
      have i1 : decide (n ≤ xn) = true := decide_eq_true hol
      have HW := Lib.hid hpe
      clear hpe hol
      go_enter Tryz.func23, Tryz.ntmps23
      go_upto_region 1 with fail
      rw [← HW1.out]
      go_wp2_with (first
        | (go_at_call 31
           (with_reducible refine HAt.out.mono ?_)
           rintro e w2 ⟨rfl, rfl⟩)
        | fail)
      go_ret
      exact RputEnds.no HH.out (fun b hb => (HD.out b hb).1) HM1.out (by rw [HW.out]; decide) (by rw [HW.out]; rfl)
    · rw [if_neg hol] at hpe
      have i1 : decide (n ≤ xn) = false := decide_eq_false hol
      have HW := Lib.hid hpe
      clear hpe hol
      go_enter Tryz.func23, Tryz.ntmps23
      go_upto_region 1 with fail
      rw [← HW1.out]
      go_wp2_with (first
        | (go_at_call 31
           (with_reducible refine HAt.out.mono ?_)
           rintro e w2 ⟨rfl, rfl⟩)
        | fail)
      go_loopw [10, 11, 12] (fun u f i wr => ∃ k : Nat, k ≤ l ∧ i = .int .i64 (k : Int) ∧ ∃ fb, f = .bool fb ∧ ∃ s, (xs.take k).foldl (stpK AC.c (⟨c, n, r⟩ : AC)) ([], false) = (s, fb) ∧ OwnS w2.heap.size 61 6 AC.cs wr u s ∧ Mod (fun _ => False) w2 wr) (fun _ _ i _ => l - (intOf i).toNat)
      case atStart => exact ⟨0, Nat.zero_le _, rfl, false, rfl, [], rfl, OwnS.nil _ _ _ _ _, Mod.refl _ _⟩
      case round =>
        obtain ⟨k, hk, rfl, fb, rfl, s, hst0, ho, hm⟩ := hrel
        have hsl := stp_len (⟨c, n, r⟩ : AC) (xs.take k) ([], false)
        rw [hst0, List.length_take, ← HL.out] at hsl
        have hsl : s.length ≤ 32 := by have : s.length ≤ 0 + 2 * min k l := hsl; omega
        have HS := Lib.hid hsl
        have HSt := Lib.hid hst0
        have HO := Lib.hid ho
        have HM := Lib.hid hm
        have HPr := Lib.hid (hp_mod HP1.out hm id)
        have x0 : wr.cell? ⟨q, 0, none⟩ = some (.slice (some ⟨b0, off0, none⟩) l cp) := by rw [hp_cell HPr.out]; rfl
        have hql := hp_lt HP1.out
        have hbx := hp_mod HB1.out hm id
        have z0 : wr.cell? ⟨w.heap.size, 0, none⟩ = some (.int .i64 kc) := by rw [hp_cell hbx]; rfl
        have z1 : wr.cell? ⟨w.heap.size, 1, none⟩ = some (.bool ky) := by rw [hp_cell hbx]; rfl
        have z2 : wr.cell? ⟨w.heap.size, 2, none⟩ = some (.slice rA rn rcA) := by rw [hp_cell hbx]; rfl
        have z3 : wr.cell? ⟨w.heap.size, 3, none⟩ = some (.slice rB rm rcB) := by rw [hp_cell hbx]; rfl
        have HBx := Lib.hid hbx
        clear hbx
        have hAr := HA1.out.mod hm fun b hb => ⟨Nat.lt_of_lt_of_le (HH.out.own.fresh b hb).2 HM1.out.size, id⟩
        clear hsl hst0 ho hm
        by_cases hkl : k < l
        · have hkx : k < xs.length := by rw [← HL.out]; exact hkl
          obtain ⟨b, off, hbe, hbD, p0, p1, p2, p3, p4, p5⟩ := rdAC hAr hkx
          injection hbe with hbe
          injection hbe with hbe1 hbe2
          subst hbe1 hbe2
          have hbl := Nat.lt_of_lt_of_le (HH.out.own.fresh _ hbD).2 HM1.out.size
          obtain ⟨e, he⟩ : ∃ e, e = xs[k] := ⟨_, rfl⟩
          rw [← he] at p0 p1 p2 p3 p4 p5
          have HT := Lib.hid (show xs.take (k + 1) = xs.take k ++ [e] by rw [he]; exact List.take_succ_eq_append_getElem hkx)
          obtain ⟨en, hen⟩ : ∃ a, a = e.r.es.length := ⟨_, rfl⟩
          obtain ⟨em, hem⟩ : ∃ a, a = e.r.cur.length := ⟨_, rfl⟩
          have HEc := Lib.hid (show e.r.cs = [.int .i64 e.r.code, .bool e.r.yes, .slice e.r.A en e.r.cA, .slice e.r.B em e.r.cB] by rw [hen, hem]; rfl)
          rw [← hen] at p4
          rw [← hem] at p5
          obtain ⟨ec, hec⟩ : ∃ a, a = e.c := ⟨_, rfl⟩
          rw [← hec] at p0
          have HEC := Lib.hid hec
          clear hAr hbD he hen hem hec
          cases fb
          · by_cases hle : c ≤ ec
            · have i1 : decide (c ≤ ec) = true := decide_eq_true hle
              by_cases heq : ec = c
              · have hst := stp3 (⟨c, n, r⟩ : AC) e s (HEC.out.symm.trans heq)
                rw [heq] at p0 i1
                have HStp := Lib.hid hst
                clear hst hle heq
                go_wp2_with (first
                  | (at_builtin
                     refine wpList_app1 (w0 := w2) (xs := s) (y := (⟨c, n, r⟩ : AC)) rfl (.tmp 63) (.tmp 68) rfl tolds_t AC.cs_len AC.cs_one rfl HO.out HM.out rfl (by show _ = Value.int .u64 (c : Int) :: .int .u64 (n : Int) :: r.cs; rw [HCs.out]) ?_ ?_ ?_
                     · have := HS.out; simp [maxLen]; omega
                     · have := HS.out; omega
                     intro v4 w4 ho4 hm4 hm5 _
                     have HO4 := Lib.hid ho4
                     have HM4 := Lib.hid hm4
                     have y0 := (hm5.cell (p := ⟨q, 0, none⟩) (by first | exact hp_lt HPr.out) (fun hb => by have := (HO.out.fresh q hb).1; omega)).trans x0
                     have c0 := cell_modC p0 hm5 (fun hb => by have := (HO.out.fresh _ hb).1; omega)
                     have c1 := cell_modC p1 hm5 (fun hb => by have := (HO.out.fresh _ hb).1; omega)
                     have c2 := cell_modC p2 hm5 (fun hb => by have := (HO.out.fresh _ hb).1; omega)
                     have c3 := cell_modC p3 hm5 (fun hb => by have := (HO.out.fresh _ hb).1; omega)
                     have c4 := cell_modC p4 hm5 (fun hb => by have := (HO.out.fresh _ hb).1; omega)
                     have c5 := cell_modC p5 hm5 (fun hb => by have := (HO.out.fresh _ hb).1; omega)
                     clear ho4 hm4 hm5)
                  | fail)
                have hst := HStp.out
                go_roundw
                case rel => exact ⟨k + 1, by omega, by go_num, _, rfl, _, by rw [HT.out, List.foldl_append, HSt.out]; exact hst, HO4.out, HM4.out⟩
                case measure => simp only [intOf]; omega
              · have hst := stp4 (⟨c, n, r⟩ : AC) e s (by rw [← HEC.out]; exact heq) (by rw [← HEC.out]; exact hle)
                have HStp := Lib.hid hst
                have i2 : decide (ec = c) = false := decide_eq_false heq
                clear hst hle
                go_wp2_with (first
                  | (at_builtin
                     refine wpList_app1 (w0 := w2) (xs := s) (y := (⟨c, n, r⟩ : AC)) rfl (.tmp 63) (.tmp 68) rfl tolds_t AC.cs_len AC.cs_one rfl HO.out HM.out rfl (by show _ = Value.int .u64 (c : Int) :: .int .u64 (n : Int) :: r.cs; rw [HCs.out]) ?_ ?_ ?_
                     · have := HS.out; simp [maxLen]; omega
                     · have := HS.out; omega
                     intro v4 w4 ho4 hm4 hm5 _
                     have HO4 := Lib.hid ho4
                     have HM4 := Lib.hid hm4
                     have y0 := (hm5.cell (p := ⟨q, 0, none⟩) (by first | exact hp_lt HPr.out) (fun hb => by have := (HO.out.fresh q hb).1; omega)).trans x0
                     have c0 := cell_modC p0 hm5 (fun hb => by have := (HO.out.fresh _ hb).1; omega)
                     have c1 := cell_modC p1 hm5 (fun hb => by have := (HO.out.fresh _ hb).1; omega)
                     have c2 := cell_modC p2 hm5 (fun hb => by have := (HO.out.fresh _ hb).1; omega)
                     have c3 := cell_modC p3 hm5 (fun hb => by have := (HO.out.fresh _ hb).1; omega)
                     have c4 := cell_modC p4 hm5 (fun hb => by have := (HO.out.fresh _ hb).1; omega)
                     have c5 := cell_modC p5 hm5 (fun hb => by have := (HO.out.fresh _ hb).1; omega)
                     clear ho4 hm4 hm5)
                  | (at_builtin
                     go_must (refine wpList_app1 (w0 := w2) (xs := (s ++ [(⟨c, n, r⟩ : AC)])) (y := e) rfl (.tmp 80) (.tmp 88) rfl tolds_t AC.cs_len AC.cs_one rfl HO4.out HM4.out rfl (by show _ = Value.int .u64 (e.c : Int) :: .int .u64 (e.n : Int) :: e.r.cs; rw [HEc.out, ← HEC.out]) ?_ ?_ ?_)
                     · have := HS.out; simp [maxLen]; omega
                     · have := HS.out; simp; omega
                     intro v5 w5 ho5 hm5 _ _
                     have HO5 := Lib.hid ho5
                     have HM5 := Lib.hid hm5
                     clear ho5 hm5)
                  | fail)
                have hst := HStp.out
                go_roundw
                case rel => exact ⟨k + 1, by omega, by go_num, _, rfl, _, by rw [HT.out, List.foldl_append, HSt.out]; exact hst, HO5.out, HM5.out⟩
                case measure => simp only [intOf]; omega
            · have i1 : decide (c ≤ ec) = false := decide_eq_false hle
              have heq : ¬ ec = c := by omega
              have i2 : decide (ec = c) = false := decide_eq_false heq
              have HStp := Lib.hid (stp5 (⟨c, n, r⟩ : AC) e s (by rw [← HEC.out]; exact hle))
              clear hle
              go_wp2_with (first
                | (at_builtin
                   go_must (refine wpList_app1 (w0 := w2) (xs := s) (y := e) rfl (.tmp 80) (.tmp 88) rfl tolds_t AC.cs_len AC.cs_one rfl HO.out HM.out rfl (by show _ = Value.int .u64 (e.c : Int) :: .int .u64 (e.n : Int) :: e.r.cs; rw [HEc.out, ← HEC.out]) ?_ ?_ ?_)
                   · have := HS.out; simp [maxLen]; omega
                   · have := HS.out; simp; omega
                   intro v5 w5 ho5 hm5 _ _
                   have HO5 := Lib.hid ho5
                   have HM5 := Lib.hid hm5
                   clear ho5 hm5)
                | fail)
              have hst := HStp.out
              go_roundw
              case rel => exact ⟨k + 1, by omega, by go_num, _, rfl, _, by rw [HT.out, List.foldl_append, HSt.out]; exact hst, HO5.out, HM5.out⟩
              case measure => simp only [intOf]; omega
          · by_cases heq : ec = c
            · have HStp := Lib.hid (stp1 (⟨c, n, r⟩ : AC) e s (HEC.out.symm.trans heq))
              rw [heq] at p0
              clear heq
              go_wp2_with fail
              have hst := HStp.out
              go_roundw
              case rel => exact ⟨k + 1, by omega, by go_num, _, rfl, _, by rw [HT.out, List.foldl_append, HSt.out]; exact hst, HO.out, HM.out⟩
              case measure => simp only [intOf]; omega
            · have HStp := Lib.hid (stp2 (⟨c, n, r⟩ : AC) e s (by rw [← HEC.out]; exact heq))
              have i2 : decide (ec = c) = false := decide_eq_false heq
              go_wp2_with (first
                | (at_builtin
                   go_must (refine wpList_app1 (w0 := w2) (xs := s) (y := e) rfl (.tmp 80) (.tmp 88) rfl tolds_t AC.cs_len AC.cs_one rfl HO.out HM.out rfl (by show _ = Value.int .u64 (e.c : Int) :: .int .u64 (e.n : Int) :: e.r.cs; rw [HEc.out, ← HEC.out]) ?_ ?_ ?_)
                   · have := HS.out; simp [maxLen]; omega
                   · have := HS.out; simp; omega
                   intro v5 w5 ho5 hm5 _ _
                   have HO5 := Lib.hid ho5
                   have HM5 := Lib.hid hm5
                   clear ho5 hm5)
                | fail)
              have hst := HStp.out
              go_roundw
              case rel => exact ⟨k + 1, by omega, by go_num, _, rfl, _, by rw [HT.out, List.foldl_append, HSt.out]; exact hst, HO5.out, HM5.out⟩
              case measure => simp only [intOf]; omega
        · obtain rfl : k = l := by omega
          have htk : xs.take k = xs := by rw [HL.out, List.take_length]
          rw [htk] at HSt
          have g0 : wr.frozen? ⟨q, 0, none⟩ = false := hp_free HPr.out _
          have HG := Lib.hid (hp_lt HPr.out)
          clear hAr htk
          cases fb
          · go_wp2_with (first
              | (at_builtin
                 go_must (refine wpList_app1 (w0 := w2) (xs := s) (y := (⟨c, n, r⟩ : AC)) rfl (.tmp 92) (.tmp 97) rfl tolds_t AC.cs_len AC.cs_one rfl HO.out HM.out rfl (by show _ = Value.int .u64 (c : Int) :: .int .u64 (n : Int) :: r.cs; rw [HCs.out]) ?_ ?_ ?_)
                 · have := HS.out; simp [maxLen]; omega
                 · have := HS.out; omega
                 intro v4 w4 ho4 hm4 hm5 _
                 obtain ⟨A9, c9, n9, rfl⟩ := own_sl ho4
                 have HO4 := Lib.hid ho4
                 have HM4 := Lib.hid hm4
                 have y0 := (hm5.cell (p := ⟨q, 0, none⟩) HG.out (fun hb => by have := (HO.out.fresh q hb).1; omega)).trans x0
                 have y1 := (hm5.frozen (p := ⟨q, 0, none⟩) HG.out (fun hb => by have := (HO.out.fresh q hb).1; omega)).trans g0
                 clear ho4 hm4 hm5)
              | fail)
            have hfin := put_fin HH.out HR.out HD.out hbase hc hn HMr.out HW.out HM1.out HO4.out HM4.out (by rw [HSt.out]; rfl)
            refine bodyPost_ret (v := .int .i64 0) (by simp [results, Tryz.results23, go_sem]) rfl (HFin.out _ _ hfin.1 hfin.2 HW.out rfl)
          · obtain ⟨A9, c9, n9, rfl⟩ := own_sl HO.out
            go_wp2_with fail
            have hfin := put_fin HH.out HR.out HD.out hbase hc hn HMr.out HW.out HM1.out HO.out HM.out (by rw [HSt.out]; rfl)
            refine bodyPost_ret (v := .int .i64 0) (by simp [results, Tryz.results23, go_sem]) rfl (HFin.out _ _ hfin.1 hfin.2 HW.out rfl)
end Go.Proofs.YtmalclclopnlnaaGreat
