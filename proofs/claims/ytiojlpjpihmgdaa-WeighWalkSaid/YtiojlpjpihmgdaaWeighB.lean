/-
  The iterator of weigh.Walk, and the weights collected.
-/
import Derived.Test.YtiojlpjpihmgdaaWeighA
namespace Go.Proofs.Ytiojlpjpihmgdaa
open Go.RowKit Go.Shelf
attribute [local go_sem] Oper.semAt_some

/-- Whether a variable one stands behind, when k elements are over. -/
def bAt (sh : Bool) (xs : List El) (k : Nat) : Bool := (xs.take k).foldl (oneB sh) false
/-- All the weights. -/
def weighs (sh : Bool) (lv : Int) (xs : List El) : List Wt := if (decide (1 ≤ lv) && decide (lv ≤ 4)) = true then xs.mapIdx fun k e => oneW sh (bAt sh xs k) e else []
theorem bAt_succ (sh : Bool) (xs : List El) (k : Nat) (h : k < xs.length) : bAt sh xs (k + 1) = oneB sh (bAt sh xs k) xs[k] := by
  unfold bAt
  rw [List.take_succ_eq_append_getElem h, List.foldl_append]
  rfl

/-- The blocks that the iterator keeps for itself, from z on; what they hold when k elements are over; an activation with the element in a box. -/
def w1S (z b : Nat) : Prop := b = z ∨ b = z + 2
def w1P (l z : Nat) (sh : Bool) (xs : List El) (k : Nat) (W' : World) : Prop :=
  W'.heap[z]? = some (.cells #[.func (.yield l) #[] #[]] 47 (0, 0)) ∧ W'.heap[z + 2]? = some (.cells #[.bool sh, .bool (bAt sh xs k)] 49 (0, 0))
def w1X (Jx : Nat → (Nat → Prop) → World → Prop) (c : Code) (k : Nat) (C : Nat → Prop) (W : World) : Prop := c = .ret ∧ Jx k C W
def w1A (J : Nat → (Nat → Prop) → World → Prop) (l z Bq Bo g : Nat) (lb : Array Value) (sh : Bool) (lv : Int) (xs : List El) (a' : Act) (k : Nat) (C : Nat → Prop) (W' : World) : Prop :=
  ∃ bE e, xs[k]? = some e ∧ a' = { tmps := #[.func (.yield l) #[] #[], .pointer (some ⟨Bq, 0, none⟩), .pointer (some ⟨Bo, 0, none⟩), .pointer (some ⟨z, 0, none⟩), .pointer (some ⟨z + 1 + 1, 0, none⟩), .pointer (some ⟨bE, 0, none⟩), .func (.func g) #[] lb, .bool false, .bool false, .agg #[.bool sh, .int .i64 lv], .bool true, .bool false, .bool false, .pointer (some ⟨Bo, 0, none⟩), .bool sh, .agg #[.bool sh, .bool false], .func (.func g) #[] lb, .agg #[.int .u16 e.P, .int .u16 e.S, .int .u16 e.T, .bool e.V], undef, undef, undef, undef, undef], defers := [] } ∧
    Ext J (fun b => w1S z b ∨ b = bE) (fun k W' => w1P l z sh xs k W' ∧ W'.heap[bE]? = some (.cells #[.int .u16 e.P, .int .u16 e.S, .int .u16 e.T, .bool e.V] 33 (0, 0)) ∧ z + 3 ≤ bE) k C W'

set_option maxRecDepth 100000 in
set_option maxHeartbeats 1000000 in
theorem walk1_iter (Bq Bo : Nat) (sh : Bool) (lv : Int) (g : Nat) (lb : Array Value) (xs : List El) (D : Nat → Prop) (w : World)
    (hq : w.cell? ⟨Bq, 0, none⟩ = some (.func (.func g) #[] lb)) (ho0 : w.cell? ⟨Bo, 0, none⟩ = some (.bool sh)) (ho1 : w.cell? ⟨Bo, 1, none⟩ = some (.int .i64 lv))
    (hDq : D Bq) (hDo : D Bo) (hDl : ∀ b, D b → b < w.heap.size) (eg : ∀ args w, (callFunc g args).run Try.prog w = .ok (.enter g args) w) (it : Iter Try.prog g lb (xs.map fun e => #[e.v]) D w) :
    Iter Try.prog 15 #[.pointer (some ⟨Bq, 0, none⟩), .pointer (some ⟨Bo, 0, none⟩)] ((weighs sh lv xs).map fun x => #[x.v]) D w := by
  intro l J Jx C0 W hAg hC hJ hJx hY h0
  have q' := (hAg.cell (p := ⟨Bq, 0, none⟩) hDq).trans hq
  have o0' := (hAg.cell (p := ⟨Bo, 0, none⟩) hDo).trans ho0
  have o1' := (hAg.cell (p := ⟨Bo, 1, none⟩) hDo).trans ho1
  have it' := it.later hAg
  have hbq : Bq < W.heap.size := Nat.lt_of_lt_of_le (hDl _ hDq) hAg.size
  have hbo : Bo < W.heap.size := Nat.lt_of_lt_of_le (hDl _ hDo) hAg.size
  clear hq ho0 ho1 it
  have hn := fun W' => run_eql_func_nil (P := Try.prog) W' Try.underlying46 (.func g) #[] lb
  refine callsIn_wide.1 (callsIn_of_wp_marks (n := 0) (F := Fence.wide) Try.func15 rfl trivial ?_ rfl)
  simp only [Try.ntmps15, List.size_toArray, List.length_cons, List.length_nil, Nat.reduceAdd, Nat.reduceSub, Array.replicate_succ, Array.replicate_zero, List.push_toArray, List.append_toArray, List.nil_append, List.cons_append]
  by_cases hm : (decide (1 ≤ lv) && decide (lv ≤ 4)) = true
  · have hmay := fun w => (may_any sh lv w).mono (R' := fun e w' => e = .returned (.bool true) ∧ w.alloc (.cells #[.bool sh, .int .i64 lv] 23) = w') (fun e w' h => by rw [hm] at h; exact h)
    have HM := Lib.hid hm
    have HMay := Lib.hid hmay
    clear hm hmay
    have hbq1 : Bq < W.heap.size + 1 := by omega
    have hbq2 : Bq < W.heap.size + 1 + 1 := by omega
    gi_wp2_with ((refine ⟨trivial, rfl, ?_⟩; gi_at_call 14); refine ci (HMay.out _) ?_; rintro e w' ⟨rfl, rfl⟩)
    obtain ⟨W4, hW4⟩ : ∃ W4, W4 = ((W.alloc (.cells #[.func (.yield l) #[] #[]] 47)).alloc (.cells #[.bool sh, .int .i64 lv] 23)).alloc (.cells #[.bool sh, .bool false] 49) := ⟨_, rfl⟩
    have hsz : W4.heap.size = W.heap.size + 3 := by subst hW4; simp
    have hy4 : W4.heap[W.heap.size]? = some (.cells #[.func (.yield l) #[] #[]] 47 (0, 0)) := by subst hW4; (repeat' (first | exact hp_new _ _ | exact hp_at _ _ (by simp; done) | refine hp_alloc ?_ _ | refine hp_drew ?_ | refine hp_drewN ?_ _ | apply hp_set | refine hp_far ?_ (by first | (simp; omega) | (simp; done)) _))
    have hs4 : W4.heap[W.heap.size + 2]? = some (.cells #[.bool sh, .bool false] 49 (0, 0)) := by subst hW4; (repeat' (first | exact hp_new _ _ | exact hp_at _ _ (by simp; done) | refine hp_alloc ?_ _ | refine hp_drew ?_ | refine hp_drewN ?_ _ | apply hp_set | refine hp_far ?_ (by first | (simp; omega) | (simp; done)) _))
    have hm4 : ∀ C, Mod C W W4 := fun C => by subst hW4; (repeat' (first | exact Mod.refl _ _ | assumption | refine Mod.alloc ?_ _ | refine Mod.drew ?_ | refine Mod.drewN ?_ _ | refine Mod.setCell ?_ (by first | exact Or.inl rfl | (right; simp; done) | (right; simp; omega) | (left; simp; done)) _))
    rw [← hW4]
    clear hW4
    refine wp_range (gf := g) (lb := lb) rfl eg (it'.later ((hm4 (fun _ => False)).agree fun b hb => ⟨by have := hDl b hb; have := hAg.size; omega, id⟩)) (fun b hb => by have := hDl b hb; have := hAg.size; omega)
      (fun x hx => by obtain ⟨e, _, rfl⟩ := List.mem_map.1 hx; rfl)
      (Ext J (w1S W.heap.size) (w1P l W.heap.size sh xs)) (w1X Jx) (w1A J l W.heap.size Bq Bo g lb sh lv xs)
      (Ext.stab hJ fun k X Y h hA => ⟨hp_agree h.1 hA (.inl rfl), hp_agree h.2 hA (.inr rfl)⟩) (fun c k C X Y h hA => ⟨h.1, hJx _ _ _ _ h.2 hA⟩)
      (fun a' k C X Y h hA => by
        obtain ⟨bE, e, he, ha, h⟩ := h
        exact ⟨bE, e, he, ha, Ext.stab hJ (fun k X Y h hA => ⟨⟨hp_agree h.1.1 hA (.inl (.inl rfl)), hp_agree h.1.2 hA (.inl (.inr rfl))⟩, hp_agree h.2.1 hA (.inr rfl), h.2.2⟩) _ _ _ _ h hA⟩)
      (fun b => C0 b ∨ w1S W.heap.size b)
      (fun b hb => by
        rcases hb with hb | rfl | rfl
        · exact ⟨by have := (hC b hb).1; omega, (hC b hb).2⟩
        · exact ⟨by omega, fun hd => by have := hDl _ hd; have := hAg.size; omega⟩
        · exact ⟨by omega, fun hd => by have := hDl _ hd; have := hAg.size; omega⟩)
      ⟨C0, hJ _ _ _ _ h0 ((hm4 (fun _ => False)).agree fun b hb => ⟨(hC b hb).1, id⟩), rfl, fun b hb hc => by have := (hC b hc).1; rcases hb with rfl | rfl <;> omega, hy4, hs4⟩ ?assign ?body ?done ?stop
    case assign =>
      rintro l' k hk C W' ⟨C1, hj, rfl, hd, hp⟩ hm' hb'
      simp only [List.length_map] at hk
      simp only [List.getElem_map, El.v]
      obtain ⟨e, he⟩ : ∃ e, e = xs[k] := ⟨_, rfl⟩
      rw [← he]
      have HE := Lib.hid (show xs[k]? = some e by rw [he]; exact List.getElem?_eq_getElem hk)
      have HP := Lib.hid hp
      clear he hp
      gi_wp2
      refine ⟨fun b => C1 b ∨ (w1S W.heap.size b ∨ b = W'.heap.size), ⟨W'.heap.size, e, HE.out, rfl, C1, hJ _ _ _ _ hj (Agree.below ((Below.refl _ _).alloc (Nat.le_refl _) _) fun b h => (hb' b (.inl h)).1), rfl, ?_, ⟨⟨hp_alloc HP.out.1 _, hp_alloc HP.out.2 _⟩, hp_new _ _, by have := hm'.size; omega⟩⟩, by (repeat' (first | exact Mod.refl _ _ | assumption | refine Mod.alloc ?_ _ | refine Mod.drew ?_ | refine Mod.drewN ?_ _ | refine Mod.setCell ?_ (by first | exact Or.inl rfl | (right; simp; done) | (right; simp; omega) | (left; simp; done)) _)), ?_⟩
      · rintro b (hb | rfl) hc
        · exact hd b hb hc
        · have := (hb' _ (.inl hc)).1; omega
      · rintro b (hb | hb | rfl)
        · exact ⟨by have := (hb' b (.inl hb)).1; simp; omega, .inl (.inl hb)⟩
        · exact ⟨by have := (hb' b (.inr hb)).1; simp; omega, .inl (.inr hb)⟩
        · exact ⟨by simp, .inr (Nat.le_refl _)⟩
    case body =>
      rintro l' k hk C a' W' ⟨bE, e, he, rfl, C1, hj, rfl, hd, ⟨⟨hy', hs'⟩, hE', hbE⟩⟩ hm' hb' - - -
      simp only [List.length_map] at hk
      have HE := Lib.hid he
      have HY := Lib.hid hy'
      have HS := Lib.hid hs'
      have cE0 := hp_cell hE' 0
      have cE1 := hp_cell hE' 1
      have cE2 := hp_cell hE' 2
      have cE3 := hp_cell hE' 3
      have cY := hp_cell hy' 0
      have HEE := Lib.hid hE'
      clear he hy' hs' hE'
      have hwe : ∀ hk', (weighs sh lv xs)[k]'hk' = oneW sh (bAt sh xs k) e := fun hk' => by
        simp only [weighs, HM.out, if_true, List.getElem_mapIdx]
        rw [List.getElem?_eq_getElem hk] at HE
        have := HE.out
        simp at this
        rw [this]
      have hkw : k < ((weighs sh lv xs).map fun x => #[x.v]).length := by simp [weighs, HM.out, hk]
      have HW := Lib.hid hwe
      clear hwe
      have hds : ∀ b, w1S W.heap.size b ∨ b = bE → b < W'.heap.size ∧ ¬ C1 b := fun b hb => ⟨(hb' b (.inr hb)).1, hd b hb⟩
      obtain ⟨hds0, hds1⟩ := hds W.heap.size (.inl (.inl rfl))
      obtain ⟨hds2, hds3⟩ := hds (W.heap.size + 2) (.inl (.inr rfl))
      have hb1 : ∀ b, C1 b → b < W'.heap.size ∧ (C0 b ∨ W.heap.size ≤ b) := fun b hb => by
        refine ⟨(hb' b (.inl hb)).1, ?_⟩
        rcases (hb' b (.inl hb)).2 with (h | h) | h
        · exact .inl h
        · rcases h with rfl | rfl <;> (right; omega)
        · right; omega
      have hmW : Mod C0 W W' := (hm4 C0).trans hm' (fun b hb => hb.elim .inl (fun h => by rcases h with rfl | rfl <;> (right; omega)))
      have HD := Lib.hid hds
      clear hds hd hb' hm'
      gi_wp2
      gi_region_with (first
        | ((refine ⟨trivial, rfl, ?_⟩; gi_at_call 16); refine cir (one_any _ sh (bAt sh xs k) e _ HS.out) ?_; rintro r w1 ⟨rfl, hs1, hm0⟩
           have hm1 := hm0.undrew
           clear hm0
           have cY1 : w1.cell? ⟨W.heap.size, 0, none⟩ = some (.func (.yield l) #[] #[]) := (hm1.cell (p := ⟨W.heap.size, 0, none⟩) hds0 (by simp; omega)).trans cY
           have hA1 : Agree C1 W' w1 := hm1.agree fun b hb => ⟨(hb1 b hb).1, fun h => by subst h; exact hds3 hb⟩
           obtain ⟨fn, tmps, assign, body, hy, hR⟩ := (hY k hkw C1 w1 (hJ _ _ _ _ hj hA1) (hmW.trans hm1 (fun b hb => by subst hb; right; omega)) (fun b hb => ⟨Nat.lt_of_lt_of_le (hb1 b hb).1 hm1.size, (hb1 b hb).2⟩)).two
           simp only [List.getElem_map] at hy
           rw [HW.out] at hy
           have HS1 := Lib.hid hs1
           have HM1 := Lib.hid hm1
           clear hs1 hm1)
        | (refine ⟨rfl, (hR _).mono ?_⟩; rintro r w2 ⟨b2, rfl, h2⟩))
      all_goals
        have hs1 := HM1.out.size
        have hmod : Mod (fun b => C1 b ∨ (w1S W.heap.size b ∨ b = bE)) W' w1 := HM1.out.mono (fun b _ h => .inr (.inl (.inr h)))
        rcases h2 with ⟨rfl, C2, hj2, hm2, hb2⟩ | ⟨rfl, C2, hj2, hm2, hb2⟩
      all_goals
        have hmod2 := hmod.trans hm2 (fun b hb => .inl (.inl hb))
        have hs2 := hm2.size
        have HM2 := Lib.hid hm2
        have HMo := Lib.hid hmod2
        clear hm2 hmod hmod2
        gi_wp2
      all_goals first
        | (refine ⟨fun b => C2 b ∨ w1S W.heap.size b, ⟨C2, hj2, rfl, fun b hb hc => ?_, ?_, ?_⟩, HMo.out, fun b hb => ?_⟩
           · obtain ⟨h1, h2⟩ := HD.out b (.inl hb)
             rcases (hb2 b hc).2 with h | h
             · exact h2 h
             · omega
           · exact hp_mod (hp_mod HY.out HM1.out (by omega)) HM2.out hds1
           · have he : bAt sh xs (k + 1) = oneB sh (bAt sh xs k) e := by
               rw [bAt_succ sh xs k hk]
               have := HE.out
               rw [List.getElem?_eq_getElem hk] at this
               simp at this
               rw [this]
             rw [he]
             exact hp_mod HS1.out HM2.out hds3
           · rcases hb with hb | hb
             · exact ⟨(hb2 b hb).1, (hb2 b hb).2.elim (fun h => .inl (.inl h)) (fun h => .inr (by omega))⟩
             · exact ⟨by have := (HD.out b (.inl hb)).1; omega, .inl (.inr (.inl hb))⟩)
        | (exact ⟨C2, ⟨rfl, hj2⟩, HMo.out, fun b hb => ⟨(hb2 b hb).1, (hb2 b hb).2.elim (fun h => .inl (.inl h)) (fun h => .inr (by omega))⟩⟩)
    case done =>
      rintro W' C' ⟨C1, hj, rfl, hd, hp⟩ hm' hb' hK hn'
      rw [hsz] at hK hn'
      gi_wp2
      refine endM1 rfl hK (results_none rfl _ _ _) ⟨⟨_, rfl⟩, .inl ?_⟩
      have hlen : (xs.map fun e => #[e.v]).length = (weighs sh lv xs).length := by simp [weighs, HM.out]
      rw [hlen] at hj
      refine ⟨C1, hJ _ _ _ _ hj ⟨rfl, rfl, rfl, by simp, fun b hb => World.putObj_heap_other (fun e => by subst e; exact hn' (.inl hb))⟩, ?_, fun b hb => ?_⟩
      · refine Mod.putObj (((hm4 C0).trans hm' (fun b hb => hb.elim .inl (fun h => by rcases h with rfl | rfl <;> (right; omega))))) (.inr (by omega)) _
      · refine ⟨by simpa using (hb' b (.inl hb)).1, ?_⟩
        rcases (hb' b (.inl hb)).2 with (h | h) | h
        · exact .inl h
        · rcases h with rfl | rfl <;> (right; omega)
        · right; omega
    case stop =>
      rintro W' C' c k hk0 hk ⟨rfl, hjx⟩ hm' hb' hK hn'
      rw [hsz] at hK hn'
      have hlen : (xs.map fun e => #[e.v]).length = (weighs sh lv xs).length := by simp [weighs, HM.out]
      rw [hlen] at hk
      rw [hsz]
      gi_wp2
      refine retM1 rfl hK (results_none rfl _ _ _) ⟨⟨_, rfl⟩, .inr ⟨k, hk0, by simpa using hk, C', hJx _ _ _ _ hjx ⟨rfl, rfl, rfl, by simp, fun b hb => World.putObj_heap_other (fun e => by subst e; exact hn' hb)⟩, ?_, fun b hb => ?_⟩⟩
      · refine Mod.putObj (((hm4 C0).trans hm' (fun b hb => hb.elim .inl (fun h => by rcases h with rfl | rfl <;> (right; omega))))) (.inr (by omega)) _
      · refine ⟨by simpa using (hb' b hb).1, ?_⟩
        rcases (hb' b hb).2 with (h | h) | h
        · exact .inl h
        · rcases h with rfl | rfl <;> (right; omega)
        · right; omega
  · have hm' : (decide (1 ≤ lv) && decide (lv ≤ 4)) = false := by simpa using hm
    gi_wp2_with ((refine ⟨trivial, rfl, ?_⟩; gi_at_call 14); refine ci (may_any _ _ _) ?_; rintro e w' ⟨rfl, rfl⟩)
    refine retM0 rfl (results_none rfl _ _ _) ⟨⟨_, rfl⟩, .inl ?_⟩
    have hw : weighs sh lv xs = [] := by simp [weighs, hm']
    rw [hw]
    exact ⟨C0, hJ _ _ _ _ h0 (Agree.below (((Below.refl _ _).alloc (Nat.le_refl _) _).alloc (by simp) _) fun b h => (hC b h).1), by (repeat' (first | exact Mod.refl _ _ | assumption | refine Mod.alloc ?_ _ | refine Mod.drew ?_ | refine Mod.drewN ?_ _ | refine Mod.setCell ?_ (by first | exact Or.inl rfl | (right; simp; done) | (right; simp; omega) | (left; simp; done)) _)), fun b h => ⟨by have := (hC b h).1; simp; omega, .inl h⟩⟩
end Go.Proofs.Ytiojlpjpihmgdaa
