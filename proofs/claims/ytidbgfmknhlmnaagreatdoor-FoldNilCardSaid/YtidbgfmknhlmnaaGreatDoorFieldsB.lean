/-
  The iterator fields.Lines.
-/
import Derived.Test.YtidbgfmknhlmnaaGreatDoorFieldsA
import Derived.Test.YtidbgfmknhlmnaaGreatDoorRound
namespace Go.Proofs.YtidbgfmknhlmnaaGreatDoor
open Go.RowKit Go.Shelf
attribute [local go_sem] Oper.semAt_some

/-- What fields.Lines hands out: numbers, and fields in memory of their own. -/
def lnIt (L : List (Nat × List Bs)) (D : Nat → Prop) : It :=
  ⟨L.length, 2, fun k enc R W => ∃ x A, L[k]? = some x ∧ enc = #[.int .i64 (x.1 : Int), .slice (some A) x.2.length x.2.length] ∧ Rd R W 1 csB (some A) x.2, D, fun _ => False, fun _ _ => True⟩
theorem lnIt_ok {L : List (Nat × List Bs)} {D : Nat → Prop} : (lnIt L D).Ok :=
  ⟨fun k enc R W ⟨x, A, _, h, _⟩ => by rw [h]; rfl, fun k enc R W W' ⟨x, A, h1, h2, h3⟩ hA => ⟨x, A, h1, h2, h3.keep hA⟩, fun _ _ _ _ _ => trivial, fun _ h => h.elim⟩

/-! ### The fields, trimmed one by one -/
def strV (l : Bs) : Value := .string ⟨l.toArray⟩
theorem flat_csB (xs : List Bs) : xs.flatMap csB = xs.map strV := by
  induction xs with
  | nil => rfl
  | cons x r ih => rw [List.flatMap_cons, ih]; rfl
def mixT (xs : List Bs) (j : Nat) : List Bs := (xs.take j).map trimB ++ xs.drop j
theorem mixT_zero (xs : List Bs) : mixT xs 0 = xs := by simp [mixT]
theorem mixT_full (xs : List Bs) : mixT xs xs.length = xs.map trimB := by simp [mixT]
theorem mixT_len (xs : List Bs) (j : Nat) : (mixT xs j).length = xs.length := by simp [mixT]; omega
theorem mixT_get (xs : List Bs) (j : Nat) (h : j < xs.length) : (mixT xs j)[j]? = some xs[j] := by
  unfold mixT
  rw [List.getElem?_append_right (by simp; omega)]
  simp only [List.length_map, List.length_take, Nat.min_eq_left (Nat.le_of_lt h), Nat.sub_self, List.getElem?_drop, Nat.add_zero]
  exact List.getElem?_eq_getElem h
theorem mixT_set (xs : List Bs) (j : Nat) (h : j < xs.length) : (mixT xs j).set j (trimB xs[j]) = mixT xs (j + 1) := by
  unfold mixT
  rw [List.set_append_right _ _ (by simp; omega), List.take_succ_eq_append_getElem h]
  simp only [List.length_map, List.length_take, Nat.min_eq_left (Nat.le_of_lt h), Nat.sub_self, List.map_append, List.map_cons, List.map_nil, List.append_assoc, List.cons_append, List.nil_append]
  rw [List.drop_eq_getElem_cons h]; rfl
def mixO (xs : List Bs) (j : Nat) : Obj := .cells ((mixT xs j).map strV).toArray 9 (0, 0)
theorem mixO_get (xs : List Bs) (j : Nat) (h : j < xs.length) {b : Nat} {w : World} (hb : w.heap[b]? = some (mixO xs j)) : w.cell? ⟨b, j, none⟩ = some (.string ⟨xs[j].toArray⟩) := by
  rw [hp_cell hb, List.getElem?_toArray, List.getElem?_map, mixT_get xs j h]; rfl
theorem mixO_set (xs : List Bs) (j : Nat) (h : j < xs.length) {b : Nat} {w : World} (hb : w.heap[b]? = some (mixO xs j)) : (w.setCell ⟨b, j, none⟩ (.string ⟨(trimB xs[j]).toArray⟩)).heap[b]? = some (mixO xs (j + 1)) := by
  have h2 := hp_set hb j (.string ⟨(trimB xs[j]).toArray⟩)
  rw [h2]
  have : ((mixT xs j).map strV).toArray.setIfInBounds j (.string ⟨(trimB xs[j]).toArray⟩) = ((mixT xs (j + 1)).map strV).toArray := by
    rw [List.setIfInBounds_toArray, ← mixT_set xs j h, List.map_set]; rfl
  rw [this]; rfl

def cntL (rl : List Bs) (k : Nat) : Nat := (linesL 0 (rl.take k)).length
def lnS (yb b : Nat) : Prop := b = yb
def lnP (y yb : Nat) (_k : Nat) (W : World) : Prop := W.heap[yb]? = some (.cells #[.func (.yield y) #[] #[]] 131 (0, 0))
def lnX (Jx : Nat → (Nat → Prop) → World → Prop) (rl : List Bs) (c : Code) (k : Nat) (C : Nat → Prop) (W : World) : Prop := c = .ret ∧ 0 < cntL rl k ∧ Jx (cntL rl k) C W
def lnA (J : Nat → (Nat → Prop) → World → Prop) (rl : List Bs) (y yb : Nat) (T _enc : Array Value) (a' : Act) (k : Nat) (C : Nat → Prop) (W : World) : Prop :=
  ∃ x, rl[k]? = some x ∧ a' = { tmps := (((T.setIfInBounds 10 (.int .i64 ((k : Int) + 1))).setIfInBounds 11 (.string ⟨x.toArray⟩)).setIfInBounds 3 (.int .i64 ((k : Int) + 1))).setIfInBounds 4 (.string ⟨x.toArray⟩), defers := [] } ∧ Ext (fun k => J (cntL rl k)) (lnS yb) (lnP y yb) k C W

set_option maxRecDepth 100000 in
set_option maxHeartbeats 2000000 in
theorem flines1_iter (Bt : Nat) (l : Bs) (D : Nat → Prop) (w : World) (hl : l.length ≤ 1000000)
    (hBt : w.cell? ⟨Bt, 0, none⟩ = some (.string ⟨l.toArray⟩)) (hD : D Bt) (hDm : D 1) (hDl : ∀ b, D b → b < w.heap.size) (hmx : MaxVar w) :
    IterG Tryz.prog 66 #[.pointer (some ⟨Bt, 0, none⟩)] (lnIt (linesT l) D) w := by
  intro y J Jx C0 W hAg _ hC hJ hJx hY h0 _
  have hBt' := (hAg.cell (p := ⟨Bt, 0, none⟩) hD).trans hBt
  have hmx' : MaxVar W := by obtain ⟨m, hc⟩ := hmx; exact ⟨m, (hAg.cell (p := ⟨1, 0, none⟩) hDm).trans hc⟩
  have hml : 1 < W.heap.size := Nat.lt_of_lt_of_le (hDl _ hDm) hAg.size
  have hbt : Bt < W.heap.size := Nat.lt_of_lt_of_le (hDl _ hD) hAg.size
  have hG : ¬ C0 1 := fun h => (hC _ h).2.1 hDm
  obtain ⟨rl, hrl⟩ : ∃ rl, rl = rawL l := ⟨_, rfl⟩
  have hcn : (linesT l).length = cntL rl rl.length := by rw [hrl, linesT_raw]; simp [cntL]
  have hlk : ∀ k (h : k < rl.length), linesL 0 (rl.take (k + 1)) <+: linesT l := fun k h => by
    rw [linesT_raw, ← hrl]
    have := linesL_append 0 (rl.take (k + 1)) (rl.drop (k + 1))
    rw [List.take_append_drop] at this
    exact ⟨_, this.symm⟩
  have HRL := Lib.hid hrl
  have HCN := Lib.hid hcn
  have HLK := Lib.hid hlk
  have hrn : rl.length ≤ l.length := by rw [hrl]; exact rawL_len l
  have hxl : ∀ x ∈ rl, x.length ≤ l.length := by rw [hrl]; exact rawL_mem l
  have HXL := Lib.hid hxl
  have HMX := Lib.hid hmx'
  clear hBt hmx hrl hcn hlk hxl hmx'
  refine callsIn_wide.1 (callsIn_of_wp_marks (n := 0) (F := Fence.wide) Tryz.func66 rfl trivial ?_ rfl)
  simp only [Tryz.ntmps66, List.size_toArray, List.length_cons, List.length_nil, Nat.reduceAdd, Nat.reduceSub, Array.replicate_succ, Array.replicate_zero, List.push_toArray, List.append_toArray, List.nil_append, List.cons_append]
  gi_wp2_with (first
    | ((refine ⟨trivial, rfl, ?_⟩; gi_at_call 67); refine ci (raw_any l _) ?_; rintro e w1 ⟨rfl, rfl⟩)
    | fail)
  obtain ⟨W4, hW4⟩ : ∃ W4, W4 = (W.alloc (.cells #[.func (.yield y) #[] #[]] 131)).alloc (.cells #[.string ⟨l.toArray⟩] 9) := ⟨_, rfl⟩
  have hsz : W4.heap.size = W.heap.size + 2 := by subst hW4; simp
  have hy4 : W4.heap[W.heap.size]? = some (.cells #[.func (.yield y) #[] #[]] 131 (0, 0)) := by subst hW4; (repeat' (first | exact hp_new _ _ | exact hp_at _ _ (by simp; done) | refine hp_alloc ?_ _ | refine hp_drew ?_ | refine hp_drewN ?_ _ | apply hp_set | refine hp_far ?_ (by first | (simp; omega) | (simp; done)) _))
  have ht4 : W4.heap[W.heap.size + 1]? = some (.cells #[.string ⟨l.toArray⟩] 9 (0, 0)) := by subst hW4; (repeat' (first | exact hp_new _ _ | exact hp_at _ _ (by simp; done) | refine hp_alloc ?_ _ | refine hp_drew ?_ | refine hp_drewN ?_ _ | apply hp_set | refine hp_far ?_ (by first | (simp; omega) | (simp; done)) _))
  have hm4 : ∀ C, Mod C W W4 := fun C => by subst hW4; (repeat' (first | exact Mod.refl _ _ | assumption | refine Mod.alloc ?_ _ | refine Mod.drew ?_ | refine Mod.drewN ?_ _ | refine Mod.setCell ?_ (by first | exact Or.inl rfl | (right; simp; done) | (right; simp; omega) | (left; simp; done)) _))
  rw [← hW4]
  clear hW4
  have HM4 := Lib.hid hm4
  refine wp_rangeG (gf := 77) (lb := #[.pointer (some ⟨W.heap.size + 1, 0, none⟩)]) rfl (enters_of Tryz.func77 (by kernel_rfl) rfl) (encIt_ok (ar := 2) (fun x hx => by
      obtain ⟨k, hk, rfl⟩ := List.getElem_of_mem hx
      simp [rawEncs]))
    ((raw1_iter (W.heap.size + 1) l (fun b => b = W.heap.size + 1 ∨ b = 1) W4 (by omega) (hp_cell ht4 0) (.inl rfl) (.inr rfl) (fun b hb => by rcases hb with rfl | rfl <;> omega) (HMX.out.mod (hm4 (fun _ => False)) id)).toG 2)
    (fun b hb => by rcases hb with (rfl | rfl) | h <;> first | omega | exact h.elim) rfl
    (Ext (fun k => J (cntL rl k)) (lnS W.heap.size) (lnP y W.heap.size)) (lnX Jx rl) (lnA J rl y W.heap.size)
    (Ext.stab (fun k => hJ (cntL rl k)) fun k X Y h hA => hp_agree h hA rfl) (fun c k C X Y h hA => ⟨h.1, h.2.1, hJx _ _ _ _ h.2.2 hA⟩)
    (fun T enc a' k C X Y ⟨x, h1, h2, h3⟩ hA => ⟨x, h1, h2, Ext.stab (S := lnS W.heap.size) (Φ := lnP y W.heap.size) (fun k => hJ (cntL rl k)) (fun k X Y h hA => hp_agree h hA rfl) _ _ _ _ h3 hA⟩)
    (fun b => C0 b ∨ lnS W.heap.size b)
    (fun b hb => by
      rcases hb with hb | rfl
      · refine ⟨by have := (hC b hb).1; omega, ?_, id⟩
        rintro (rfl | rfl)
        · have := (hC _ hb).1; omega
        · exact hG hb
      · exact ⟨by omega, fun hd => by rcases hd with h | h <;> omega, id⟩)
    ⟨C0, hJ _ _ _ _ h0 ((hm4 (fun _ => False)).agree fun b hb => ⟨(hC b hb).1, id⟩), rfl, fun b hb hc => by have := (hC b hc).1; rw [hb] at this; omega, hy4⟩ trivial ?assign ?body ?done ?stop
  case assign =>
    rintro l' k hk enc R C W' ⟨C1, hj, rfl, hd, hp⟩ - he - hm' hb'
    have hk : k < (rawEncs l).length := hk
    have hk2 : k < rl.length := by rw [HRL.out]; simpa [rawEncs] using hk
    have he : (rawEncs l)[k]? = some enc := he
    obtain ⟨x, hx⟩ : ∃ x, x = rl[k] := ⟨_, rfl⟩
    have hen : enc = #[.int .i64 ((k : Int) + 1), .string ⟨x.toArray⟩] := by
      rw [List.getElem?_eq_getElem hk] at he
      have he := (Option.some.inj he).symm
      rw [he, hx]
      simp [rawEncs, HRL.out]
    subst hen
    have HX := Lib.hid (show rl[k]? = some x by rw [hx]; exact List.getElem?_eq_getElem hk2)
    have HP := Lib.hid hp
    clear he hx hp
    gi_wp2
    exact ⟨_, ⟨x, HX.out, rfl, C1, hj, rfl, hd, HP.out⟩, Mod.refl _ _, fun b hb => ⟨(hb' b hb).1, .inl hb⟩⟩
  case body =>
    rintro l' k hk enc R C a' W' ⟨x, hx, rfl, C1, hj, rfl, hd, hp⟩ - - - hm' hb' - - -
    have hkl : k < rl.length := (List.getElem?_eq_some_iff.1 hx).1
    have hxk : x = rl[k] := by rw [List.getElem?_eq_getElem hkl] at hx; exact (Option.some.inj hx).symm
    have hxlen : x.length ≤ l.length := HXL.out x (List.mem_of_getElem? hx)
    have HT := Lib.hid (show linesL 0 (rl.take (k + 1)) = linesL 0 (rl.take k) ++ linesL k [x] by rw [hxk]; exact linesL_take rl k hkl)
    have HY := Lib.hid hp
    have cY := hp_cell hp 0
    clear hx hxk hp
    obtain ⟨u, hu⟩ : ∃ u, u = upC 35 x := ⟨_, rfl⟩
    have hul : u.length ≤ l.length := by rw [hu]; exact Nat.le_trans (upC_len _ _) hxlen
    obtain ⟨s, hs⟩ : ∃ s, s = trimB u := ⟨_, rfl⟩
    have hsl : s.length ≤ l.length := by rw [hs]; exact Nat.le_trans (trimB_le _) hul
    have mx1 : MaxVar W' := (HMX.out.mod (HM4.out (fun _ => False)) id).mod hm' (fun h => by
      rcases h with (h | h) | h
      · exact hG h
      · have h : 1 = W.heap.size := h
        omega
      · exact h.elim)
    have HCut := Lib.hid (cut_any x 35 W' mx1 (by omega))
    rw [← hu] at HCut
    have HTr := Lib.hid (fun X => ftrim_any u X (by omega))
    rw [← hs] at HTr
    have HU := Lib.hid hu
    have HS := Lib.hid hs
    clear hu hs
    have hW1 := hp_lt HY.out
    have hm0 := hm'.size
    by_cases hse : s = []
    · have hcz : cntL rl (k + 1) = cntL rl k := by
        unfold cntL
        rw [HT.out, linesL_one_none k (by rw [← HU.out, ← HS.out]; exact hse), List.append_nil]
      have HCZ := Lib.hid hcz
      clear hcz
      subst hse
      gi_wp2_with (first
        | ((refine ⟨trivial, rfl, ?_⟩; gi_at_call 68); refine cir HCut.out ?_; rintro e w1 ⟨⟨fb, rfl⟩, hm1⟩)
        | ((refine ⟨trivial, rfl, ?_⟩; gi_at_call 69); refine cir (HTr.out _) ?_; rintro e w2 ⟨rfl, hm2⟩)
        | fail)
      have M2 := hm1.trans' hm2
      refine ⟨fun b => C1 b ∨ lnS W.heap.size b, ⟨C1, ?_, rfl, hd, hp_mod HY.out M2 id⟩, M2.mono (fun _ _ h => h.elim), fun b hb => ⟨Nat.lt_of_lt_of_le (hb' b hb).1 M2.size, .inl hb⟩⟩
      show J (cntL rl (k + 1)) C1 w2
      rw [HCZ.out]
      exact hJ _ _ _ _ hj (M2.agree fun b hb => ⟨(hb' b (.inl hb)).1, id⟩)
    · have hcz : cntL rl (k + 1) = cntL rl k + 1 ∧ (linesT l)[cntL rl k]? = some (k + 1, (splitC 59 s).map trimB) := by
        have h1 := linesL_one_some (x := x) k (by rw [← HU.out, ← HS.out]; exact hse)
        rw [← HU.out, ← HS.out] at h1
        have h2 := HT.out
        rw [h1] at h2
        refine ⟨by unfold cntL; rw [h2]; simp, ?_⟩
        obtain ⟨z, hz⟩ := HLK.out k hkl
        rw [← hz, h2, List.append_assoc]
        unfold cntL
        rw [List.getElem?_append_right (Nat.le_refl _)]
        simp
      have HCZ := Lib.hid hcz
      clear hcz
      have hse' : s.toArray.toList.isEmpty = false := by simp [hse]
      have hse2 : s.toArray.toList = [] → False := by simp [hse]
      obtain ⟨ps, hps⟩ : ∃ ps, ps = splitC 59 s := ⟨_, rfl⟩
      obtain ⟨m, hm⟩ : ∃ m, m = ps.length := ⟨_, rfl⟩
      have hpl : m ≤ l.length + 1 := by rw [hm, hps]; have := splitC_len 59 s; omega
      have hpm : ∀ z ∈ ps, z.length ≤ 9223372036854775807 := fun z hz => by rw [hps] at hz; have := splitC_mem 59 s z hz; omega
      have HPM := Lib.hid hpm
      have HSp := Lib.hid (fun X (hX : MaxVar X) => split_any s 59 X hX (by omega))
      rw [← hps, ← hm] at HSp
      have HPS := Lib.hid hps
      have HMl := Lib.hid hm
      have HMx1 := Lib.hid mx1
      clear hps hm hpm
      gi_wp2_with (first
        | ((refine ⟨trivial, rfl, ?_⟩; gi_at_call 68); refine cir HCut.out ?_; rintro e w1 ⟨⟨fb, rfl⟩, hm1⟩)
        | ((refine ⟨trivial, rfl, ?_⟩; gi_at_call 69); refine cir (HTr.out _) ?_; rintro e w2 ⟨rfl, hm2⟩)
        | ((refine ⟨trivial, rfl, ?_⟩; gi_at_call 70); refine cir (HSp.out _ (HMx1.out.mod (hm1.trans' hm2) id)) ?_; rintro e w3 ⟨rfl, rfl⟩)
        | fail)
      have M2 := hm1.trans' hm2
      obtain ⟨z, hz⟩ : ∃ z, z = w2.heap.size := ⟨_, rfl⟩
      obtain ⟨W7, hW7⟩ : ∃ W7, W7 = w2.alloc (.cells (ps.flatMap csB).toArray 9) := ⟨_, rfl⟩
      have hz7 : W7.heap[z]? = some (mixO ps 0) := by
        rw [hz, hW7, hp_new]
        unfold mixO
        rw [mixT_zero, flat_csB]
      have M7 : Mod (fun _ => False) W' W7 := by rw [hW7]; exact M2.alloc _
      have hzW : W'.heap.size ≤ z := by rw [hz]; exact M2.size
      rw [← hz, ← hW7]
      have HM7 := Lib.hid M7
      clear hz hW7 M7 M2 hm1 hm2
      gi_loopw [26] (fun i wr => ∃ j : Nat, j ≤ m ∧ i = .int .i64 j ∧ wr.heap[z]? = some (mixO ps j) ∧ Mod (fun b => b = z) W7 wr) (fun i _ => m - (intOf i).toNat)
      case atStart => exact ⟨0, Nat.zero_le _, rfl, hz7, Mod.refl _ _⟩
      case round =>
        obtain ⟨j, hj', rfl, hmx, hmz⟩ := hrel
        clear hz7
        have HMZ := Lib.hid hmz
        clear hmz
        have HMix := Lib.hid hmx
        by_cases hjm : j < m
        · have hjp : j < ps.length := by rw [← HMl.out]; exact hjm
          have cj := mixO_get ps j hjp hmx
          have fj : wr.frozen? ⟨z, j, none⟩ = false := hp_free hmx j
          obtain ⟨q, hq⟩ : ∃ q, q = ps[j] := ⟨_, rfl⟩
          rw [← hq] at cj
          have HQ := Lib.hid hq
          have HTq := Lib.hid (fun X => ftrim_any q X (by rw [hq]; exact HPM.out _ (List.getElem_mem _)))
          obtain ⟨tq, htq⟩ : ∃ tq, tq = trimB q := ⟨_, rfl⟩
          rw [← htq] at HTq
          have HTQ := Lib.hid htq
          clear hq htq hmx
          gi_wp2_with (first
            | ((refine ⟨trivial, rfl, ?_⟩; gi_at_call 69)
               refine cir (HTq.out _) ?_
               rintro e w4 ⟨rfl, hm4'⟩
               have hb4 := hp_mod HMix.out hm4' id
               have f4 : w4.frozen? ⟨z, j, none⟩ = false := hp_free hb4 j
               have c4 := mixO_get ps j hjp hb4
               have HB4 := Lib.hid hb4
               have HM4' := Lib.hid hm4'
               clear hb4 hm4')
            | fail)
          go_roundw
          case rel =>
            refine ⟨j + 1, by omega, by go_num, ?_, ?_⟩
            · have h := mixO_set ps j hjp HB4.out
              rw [← HQ.out, ← HTQ.out] at h
              exact h
            · exact (HMZ.out.trans HM4'.out (fun _ h => h.elim)).setCell (.inl rfl) _
          case measure => simp only [intOf]; omega
        · obtain rfl : j = m := by omega
          have M8 : Mod (fun _ => False) W' wr := HM7.out.trans HMZ.out (fun b hb => by subst hb; exact .inr hzW)
          have hzl := hp_lt hmx
          have hnz : ¬ C1 z := fun h => by have := (hb' z (.inl h)).1; omega
          have hb1 : ∀ b, C1 b → b < W'.heap.size ∧ (C0 b ∨ W.heap.size ≤ b) := fun b hb => by
            refine ⟨(hb' b (.inl hb)).1, ?_⟩
            rcases (hb' b (.inl hb)).2 with (h | h) | h
            · exact .inl h
            · have h : b = W.heap.size := h
              right; omega
            · right; omega
          have hmW : Mod (fun b => C0 b ∨ False) W wr := ((HM4.out (fun b => C0 b ∨ False)).trans hm' (fun b hb => by
            rcases hb with (h | h) | h
            · exact .inl (.inl h)
            · have h : b = W.heap.size := h
              right; omega
            · exact h.elim)).trans M8 (fun b h => h.elim)
          have hkn : cntL rl k < (linesT l).length := (List.getElem?_eq_some_iff.1 HCZ.out.2).1
          have hrd : Rd (fun b => b = z) wr 1 csB (some ⟨z, 0, none⟩) (ps.map trimB) := by
            refine Rd.blk csB_len hmx ?_
            rw [HMl.out, mixT_full, flat_csB]
          obtain ⟨fn, tmps, assign, body, hy, hR⟩ := hY (cntL rl k) hkn #[.int .i64 ((k : Int) + 1), .slice (some ⟨z, 0, none⟩) j j] (fun b => b = z) C1 wr (hJ _ _ _ _ hj (M8.agree fun b hb => ⟨(hb1 b hb).1, id⟩)) trivial
            ⟨_, ⟨z, 0, none⟩, HCZ.out.2, by simp [HMl.out, ← HPS.out], by rw [← HPS.out]; exact hrd⟩ (fun b hb => by subst hb; exact ⟨hzl, hnz⟩) hmW (fun b hb => ⟨Nat.lt_of_lt_of_le (hb1 b hb).1 M8.size, (hb1 b hb).2⟩)
          have cY2 := hp_cell (hp_mod HY.out M8 id) 0
          have HM8 := Lib.hid M8
          have HB1 := Lib.hid hb1
          clear hmx hrd hmW M8 hb1 hY HMix hzl cY
          gi_wp2
          refine ⟨rfl, (hR _).mono ?_⟩
          have hs8 := HM8.out.size
          rintro e W3 (⟨rfl, C', hJ3, hm3, hb3⟩ | ⟨rfl, C', hJ3, hm3, hb3⟩)
          all_goals
            have HM3 := Lib.hid hm3
            have HB3 := Lib.hid hb3
            clear hm3 hb3
            gi_wp2
          · refine ⟨fun b => C' b ∨ lnS W.heap.size b, ⟨C', ?_, rfl, fun b hb hc => ?_, hp_mod (hp_mod HY.out HM8.out id) HM3.out (hd _ rfl)⟩, (HM8.out.mono (fun _ _ h => h.elim) : Mod (fun b => C1 b ∨ lnS W.heap.size b) W' wr).trans HM3.out (fun b hb => .inl (.inl hb)), fun b hb => ?_⟩
            · show J (cntL rl (k + 1)) C' W3
              rw [HCZ.out.1]
              exact hJ3
            · have hb : b = W.heap.size := hb
              rcases (HB3.out b hc).2 with h | h
              · exact hd b hb h
              · omega
            · have := HM3.out.size
              rcases hb with hb | hb
              · exact ⟨(HB3.out b hb).1, (HB3.out b hb).2.elim (fun h => .inl (.inl h)) (fun h => .inr (by omega))⟩
              · have hb2 : b = W.heap.size := hb
                exact ⟨by omega, .inl (.inr hb)⟩
          · refine ⟨C', ⟨rfl, ?_, ?_⟩, (HM8.out.mono (fun _ _ h => h.elim) : Mod (fun b => C1 b ∨ lnS W.heap.size b) W' wr).trans HM3.out (fun b hb => .inl (.inl hb)), fun b hb => ⟨(HB3.out b hb).1, (HB3.out b hb).2.elim (fun h => .inl (.inl h)) (fun h => .inr (by omega))⟩⟩
            · rw [HCZ.out.1]; omega
            · rw [HCZ.out.1]; exact hJ3
  case done =>
    rintro W' C' ⟨C1, hj, rfl, hd, hp⟩ _ hm' hb' hK hn'
    rw [hsz] at hK hn'
    gi_wp2
    have hn : (encIt 2 (rawEncs l) fun b => b = W.heap.size + 1 ∨ b = 1).n = rl.length := by simp [encIt, rawEncs, HRL.out]
    refine endM1 rfl hK (results_none rfl _ _ _) ⟨⟨_, rfl⟩, .inl ⟨trivial, C1, ?_, ?_, fun b hb => ?_⟩⟩
    · show J (linesT l).length C1 _
      rw [HCN.out, ← hn]
      exact hJ _ _ _ _ hj ⟨rfl, rfl, rfl, by simp, fun b hb => World.putObj_heap_other (fun e => by subst e; exact hn' (.inl hb))⟩
    · refine Mod.putObj ((HM4.out (fun b => C0 b ∨ False)).trans hm' (fun b hb => ?_)) (.inr (by omega)) _
      rcases hb with (h | h) | h
      · exact .inl (.inl h)
      · have h : b = W.heap.size := h
        right; omega
      · exact h.elim
    · refine ⟨by simpa using (hb' b (.inl hb)).1, ?_⟩
      rcases (hb' b (.inl hb)).2 with (h | h) | h
      · exact .inl h
      · have h : b = W.heap.size := h
        right; omega
      · right; omega
  case stop =>
    rintro W' C' c k hk0 hk ⟨rfl, hc0, hjx⟩ _ hm' hb' hK hn'
    rw [hsz] at hK hn'
    have hk : k ≤ (rawEncs l).length := hk
    have hk2 : k ≤ rl.length := by rw [HRL.out]; simpa [rawEncs] using hk
    have hcl : cntL rl k ≤ (linesT l).length := by
      rw [HCN.out]
      unfold cntL
      have := linesL_append 0 (rl.take k) (rl.drop k)
      rw [List.take_append_drop] at this
      rw [List.take_length, this]
      simp
    rw [hsz]
    gi_wp2
    refine retM1 rfl hK (results_none rfl _ _ _) ⟨⟨_, rfl⟩, .inr ⟨cntL rl k, hc0, hcl, trivial, C', hJx _ _ _ _ hjx ⟨rfl, rfl, rfl, by simp, fun b hb => World.putObj_heap_other (fun e => by subst e; exact hn' hb)⟩, ?_, fun b hb => ?_⟩⟩
    · refine Mod.putObj ((HM4.out (fun b => C0 b ∨ False)).trans hm' (fun b hb => ?_)) (.inr (by omega)) _
      rcases hb with (h | h) | h
      · exact .inl (.inl h)
      · have h : b = W.heap.size := h
        right; omega
      · exact h.elim
    · refine ⟨by simpa using (hb' b hb).1, ?_⟩
      rcases (hb' b hb).2 with (h | h) | h
      · exact .inl h
      · have h : b = W.heap.size := h
        right; omega
      · right; omega
end Go.Proofs.YtidbgfmknhlmnaaGreatDoor
