/-
  The weights collected: slices.AppendSeq, slices.Collect, weigh.Of, weigh.Ignored.
-/
import Derived.Test.YtiojlpjpihmgdaaWeighB
namespace Go.Proofs.Ytiojlpjpihmgdaa
open Go.RowKit Go.Shelf
attribute [local go_sem] Oper.semAt_some

def apI (z : Nat) (xs : List Wt) (k : Nat) (C : Nat → Prop) (W : World) : Prop :=
  ∃ v, W.heap[z]? = some (.cells #[v] 35 (0, 0)) ∧ OwnS (z + 1) 38 4 Wt.cs W v (xs.take k) ∧ C = fun b => b = z ∨ v.ownBlock = some b
def apX (_ : Code) (_ : Nat) (_ : Nat → Prop) (_ : World) : Prop := False
def apA (z g : Nat) (lb : Array Value) (xs : List Wt) (a' : Act) (k : Nat) (C : Nat → Prop) (W : World) : Prop :=
  ∃ bE x v, xs[k]? = some x ∧ a' = { tmps := #[.slice none 0 0, .func (.func g) #[] lb, .pointer (some ⟨z, 0, none⟩), undef, .slice none 0 0, .pointer (some ⟨bE, 0, none⟩), .func (.func g) #[] lb, .agg #[.int .u16 x.a, .int .u16 x.b, .int .u16 x.c, .int .u16 x.d], undef, undef, undef, undef, undef], defers := [] } ∧
    z < bE ∧ W.heap[z]? = some (.cells #[v] 35 (0, 0)) ∧ OwnS (z + 1) 38 4 Wt.cs W v (xs.take k) ∧ W.heap[bE]? = some (.cells #[.int .u16 x.a, .int .u16 x.b, .int .u16 x.c, .int .u16 x.d] 38 (0, 0)) ∧ C = fun b => (b = z ∨ v.ownBlock = some b) ∨ b = bE

set_option maxRecDepth 100000 in
set_option maxHeartbeats 1000000 in
theorem appseq_any (g : Nat) (lb : Array Value) (xs : List Wt) (D : Nat → Prop) (w : World) (eg : ∀ args w, (callFunc g args).run Try.prog w = .ok (.enter g args) w)
    (it : Iter Try.prog g lb (xs.map fun x => #[x.v]) D w) (hDl : ∀ b, D b → b < w.heap.size) (hlen : xs.length ≤ 1099511627776) :
    Calls Try.prog 19 #[.slice none 0 0, .func (.func g) #[] lb] w fun e w' => ∃ v, e = .returned v ∧ OwnS w.heap.size 38 4 Wt.cs w' v xs ∧ Mod (fun _ => False) w w' := by
  refine callsIn_wide.1 (callsIn_of_wp_marks (n := 0) (F := Fence.wide) Try.func19 rfl trivial ?_ rfl)
  simp only [Try.ntmps19, List.size_toArray, List.length_cons, List.length_nil, Nat.reduceAdd, Nat.reduceSub, Array.replicate_succ, Array.replicate_zero, List.push_toArray, List.append_toArray, List.nil_append, List.cons_append]
  gi_wp2
  obtain ⟨W4, hW4⟩ : ∃ W4, W4 = w.alloc (.cells #[.slice none 0 0] 35) := ⟨_, rfl⟩
  have hsz : W4.heap.size = w.heap.size + 1 := by subst hW4; simp
  have hz4 : W4.heap[w.heap.size]? = some (.cells #[.slice none 0 0] 35 (0, 0)) := by subst hW4; (repeat' (first | exact hp_new _ _ | exact hp_at _ _ (by simp; done) | refine hp_alloc ?_ _ | refine hp_drew ?_ | refine hp_drewN ?_ _ | apply hp_set | refine hp_far ?_ (by first | (simp; omega) | (simp; done)) _))
  have hm4 : Mod (fun _ => False) w W4 := by subst hW4; (repeat' (first | exact Mod.refl _ _ | assumption | refine Mod.alloc ?_ _ | refine Mod.drew ?_ | refine Mod.drewN ?_ _ | refine Mod.setCell ?_ (by first | exact Or.inl rfl | (right; simp; done) | (right; simp; omega) | (left; simp; done)) _))
  rw [← hW4]
  clear hW4
  have HSZ := Lib.hid hsz
  refine wp_range (gf := g) (lb := lb) rfl eg (it.later (hm4.agree fun b hb => ⟨hDl b hb, id⟩)) (fun b hb => by have := hDl b hb; omega)
    (fun x hx => by obtain ⟨e, _, rfl⟩ := List.mem_map.1 hx; rfl) (apI w.heap.size xs) apX (apA w.heap.size g lb xs)
    (by
      rintro k C X Y ⟨v, h1, h2, rfl⟩ hA
      exact ⟨v, hp_agree h1 hA (.inl rfl), h2.keep (hA.mono fun b hb => .inr hb), rfl⟩)
    (fun c k C X Y h hA => h)
    (by
      rintro a' k C X Y ⟨bE, x, v, hx, ha, hlt, h1, h2, h3, rfl⟩ hA
      exact ⟨bE, x, v, hx, ha, hlt, hp_agree h1 hA (.inl (.inl rfl)), h2.keep (hA.mono fun b hb => .inl (.inr hb)), hp_agree h3 hA (.inr rfl), rfl⟩)
    (fun b => b = w.heap.size) (fun b hb => by subst hb; exact ⟨by omega, fun hd => by have := hDl _ hd; omega⟩)
    ⟨_, hz4, by simpa using OwnS.nil _ _ _ _ _, by funext b; simp [Value.ownBlock]⟩ ?assign ?body ?done ?stop
  case assign =>
    rintro l' k hk C W' ⟨v, h1, h2, rfl⟩ hm' hb'
    simp only [List.length_map] at hk
    simp only [List.getElem_map, Wt.v]
    obtain ⟨x, hx⟩ : ∃ x, x = xs[k] := ⟨_, rfl⟩
    rw [← hx]
    have HX := Lib.hid (show xs[k]? = some x by rw [hx]; exact List.getElem?_eq_getElem hk)
    have H1 := Lib.hid h1
    have hzl := hp_lt h1
    clear hx h1 hsz
    gi_wp2
    refine ⟨_, ⟨W'.heap.size, x, v, HX.out, rfl, hzl, hp_alloc H1.out _, h2.keep (Agree.below ((Below.refl _ _).alloc (Nat.le_refl _) _) fun b h => (h2.fresh b h).2), hp_new _ _, rfl⟩, by (repeat' (first | exact Mod.refl _ _ | assumption | refine Mod.alloc ?_ _ | refine Mod.drew ?_ | refine Mod.drewN ?_ _ | refine Mod.setCell ?_ (by first | exact Or.inl rfl | (right; simp; done) | (right; simp; omega) | (left; simp; done)) _)), ?_⟩
    rintro b (hb | rfl)
    · exact ⟨by have := (hb' b hb).1; simp; omega, .inl hb⟩
    · exact ⟨by simp, .inr (Nat.le_refl _)⟩
  case body =>
    rintro l' k hk C a' W' ⟨bE, x, v, hx, rfl, hlt, h1, h2, h3, rfl⟩ hm' hb' - - -
    simp only [List.length_map] at hk
    obtain ⟨A, c, hv, -, hfr, hml⟩ := OwnS.rd h2 Wt.cs_len
    subst hv
    have cz := hp_cell h1 0
    have fz := hp_free h1 0
    have e0 := hp_cell h3 0
    have e1 := hp_cell h3 1
    have e2 := hp_cell h3 2
    have e3 := hp_cell h3 3
    have hbz := hp_lt h1
    have hbE := hp_lt h3
    have H1 := Lib.hid h1
    have H3 := Lib.hid h3
    have HX := Lib.hid hx
    have hlk : (xs.take k).length = k := by simp; omega
    rw [hlk] at hml cz h1 H1 h2
    have HLK := Lib.hid hlk
    clear hlk
    have HT := Lib.hid (show xs.take k ++ [x] = xs.take (k + 1) by
      rw [List.take_succ_eq_append_getElem hk]; rw [List.getElem?_eq_getElem hk] at hx; simp at hx; rw [hx])
    have HL1 := Lib.hid (show (xs.take (k + 1)).length = k + 1 by simp; omega)
    have hnz : ∀ b, (Value.slice A k c).ownBlock = some b → b ≠ w.heap.size := fun b hb => by have := (hfr b (ob_len.trans hb)).1; omega
    clear h1 h3 hx hsz
    gi_wp2_with (gi_at_builtin
                 refine wpListIn_app (xs := xs.take k) (ys := [x]) (D := fun b => b = W'.heap.size) rfl (.tmp 8) (.tmp 10) rfl wts_t Wt.cs_len Wt.cs_one rfl (h2.keep (Agree.below ((Below.refl _ _).alloc (Nat.le_refl _) _) fun b h => (h2.fresh b h).2)) 1 rfl rfl (Rd.one (hp_new _ _) rfl) ?_ ?_ ?_ ?_
                 · rw [HLK.out]; simp [maxLen]; omega
                 · rw [HLK.out]; simp; omega
                 · simp; omega
                 intro v' w2 hown2 hm2 hat2
                 rw [HT.out] at hown2
                 obtain ⟨A2, c2, hv2, -, hfr2, hml2⟩ := OwnS.rd hown2 Wt.cs_len
                 rw [HL1.out] at hv2
                 subst hv2
                 have h12 := hp_mod (hp_alloc H1.out _) hm2 (fun h => hnz _ h rfl)
                 have cz2 := hp_cell h12 0
                 have fz2 := hp_free h12 0
                 have H12 := Lib.hid h12
                 have HM2 := Lib.hid hm2
                 clear h12 hm2)
    have hs2 := HM2.out.size
    simp at hs2
    refine ⟨fun b => b = w.heap.size ∨ (Value.slice A2 (k + 1) c2).ownBlock = some b, ⟨_, hp_eq (hp_set H12.out 0 _) rfl, ?_, rfl⟩, ?_, ?_⟩
    · exact hown2.keep ⟨rfl, rfl, rfl, by simp [World.setCell], fun b hb => Below.heap_setCell _ _ _ _ (by have := (hfr2 b hb).1; simp; omega)⟩
    · refine Mod.setCell (((Mod.refl _ W').alloc _).trans HM2.out (fun b hb => .inl (.inl (.inr ?_)))) (.inl (.inl (.inl rfl))) _
      exact ob_len.trans hb
    · rintro b (rfl | hb)
      · exact ⟨by simp [World.setCell]; omega, .inl (.inl (.inl rfl))⟩
      · refine ⟨by have := (hfr2 b hb).2; simpa [World.setCell] using this, ?_⟩
        rcases hat2 with h | h
        · rw [hb] at h; exact .inl (.inl (.inr (ob_len.trans h.symm)))
        · rw [hb] at h; simp at h; right; omega
  case done =>
    rintro W' C' ⟨v, h1, h2, rfl⟩ hm' hb' hK hn'
    rw [HSZ.out] at hK hn' ⊢
    have cz := hp_cell h1 0
    have HM := Lib.hid (hm4.trans (C := fun _ => False) hm' (fun b hb => by subst hb; right; omega))
    clear h1 hm' hsz
    have ht : xs.take (xs.map fun x => #[x.v]).length = xs := by simp
    rw [ht] at h2
    gi_wp2
    refine endM1 rfl hK (results_tmp rfl _ _ _) ⟨v, rfl, ?_, HM.out.putObj (.inr (by omega)) _⟩
    refine OwnS.keep (h2.less (by omega)) ⟨rfl, rfl, rfl, by simp, fun b hb => World.putObj_heap_other (fun e => by subst e; exact hn' (.inr hb))⟩
  case stop =>
    rintro W' C' c k hk0 hk hjx hm' hb' hK hn'
    exact hjx.elim

theorem coll_any (g : Nat) (lb : Array Value) (xs : List Wt) (w : World) (eg : ∀ args w, (callFunc g args).run Try.prog w = .ok (.enter g args) w)
    (it : Iter Try.prog g lb (xs.map fun x => #[x.v]) (fun b => b < w.heap.size) w) (hlen : xs.length ≤ 1099511627776) :
    Calls Try.prog 17 #[.func (.func g) #[] lb] w fun e w' => ∃ v, e = .returned v ∧ OwnS w.heap.size 38 4 Wt.cs w' v xs ∧ Mod (fun _ => False) w w' := by
  have H := Lib.hid (appseq_any g lb xs _ w eg it (fun _ h => h) hlen)
  clear it eg
  go_enter Try.func17, Try.ntmps17
  go_wp2_with (go_at_call 19; refine H.out.mono ?_; rintro e w' ⟨v, rfl, hv, hm⟩)
  go_ret
  exact ⟨v, rfl, hv, hm⟩

theorem weighs_len (sh : Bool) (lv : Int) (xs : List El) : (weighs sh lv xs).length ≤ xs.length := by
  unfold weighs; split <;> simp

/-- The iterator that weigh.Walk makes of slices.Values. -/
theorem walkvals_iter (sh : Bool) (lv : Int) (A : Option Addr) (c : Nat) (xs : List El) (w : World) (z1 z2 z3 : Nat) (hl : xs.length ≤ maxLen)
    (h1 : w.heap[z1]? = some (.cells #[.slice A xs.length c] 24 (0, 0))) (h2 : w.heap[z2]? = some (.cells #[.bool sh, .int .i64 lv] 23 (0, 0)))
    (h3 : w.heap[z3]? = some (.cells #[.func (.func 20) #[] #[.pointer (some ⟨z1, 0, none⟩)]] 46 (0, 0))) (hA : Rd (fun b => b < w.heap.size) w 4 El.cs A xs) :
    Iter Try.prog 15 #[.pointer (some ⟨z3, 0, none⟩), .pointer (some ⟨z2, 0, none⟩)] ((weighs sh lv xs).map fun x => #[x.v]) (fun b => b < w.heap.size) w :=
  walk1_iter z3 z2 sh lv _ _ xs _ w (hp_cell h3 0) (hp_cell h2 0) (hp_cell h2 1) (hp_lt h3) (hp_lt h2) (fun _ h => h) (enters_of Try.func20 (by kernel_rfl) rfl)
    (values1_iter z1 A c xs _ w hl (hp_cell h1 0) (hp_lt h1) (fun _ h => h) hA)

set_option maxHeartbeats 1000000 in
theorem of_any (sh : Bool) (lv : Int) (A : Option Addr) (c : Nat) (xs : List El) (w : World) (hA : Rd (fun b => b < w.heap.size) w 4 El.cs A xs) (hlen : xs.length ≤ 1099511627776) :
    Calls Try.prog 11 #[.agg #[.bool sh, .int .i64 lv], .slice A xs.length c] w fun e w' => ∃ v, e = .returned v ∧ OwnS w.heap.size 38 4 Wt.cs w' v (weighs sh lv xs) ∧ Mod (fun _ => False) w w' := by
  obtain ⟨n, hn⟩ : ∃ n, n = xs.length := ⟨_, rfl⟩
  rw [← hn]
  have HN := Lib.hid hn
  clear hn
  have ew := Lib.hid (enters_of Try.func15 (by kernel_rfl) rfl)
  have HC := Lib.hid (fun (W : World) (z1 z2 z3 : Nat) (e1) (e2) (e3) (hA) => coll_any 15 _ _ W ew.out (walkvals_iter sh lv A c xs W z1 z2 z3 (by simp [maxLen]; omega) e1 e2 e3 hA) (Nat.le_trans (weighs_len sh lv xs) hlen))
  rw [← HN.out] at HC
  go_enter Try.func11, Try.ntmps11
  go_wp2
  go_region_with (first
    | (go_at_call 18; refine (vals_any A n c _).mono ?_; rintro e w' ⟨rfl, rfl⟩)
    | (go_at_call 8; refine (walk_any sh lv _ ⟨_, _, rfl⟩ _).mono ?_; rintro e w' ⟨rfl, rfl⟩)
    | (go_at_call 17
       refine (HC.out _ (w.heap.size + 1) (w.heap.size + 1 + 1) (w.heap.size + 1 + 1 + 1) ?_ ?_ ?_ ?_).mono ?_
       · (repeat' (first | exact hp_new _ _ | exact hp_at _ _ (by simp; done) | refine hp_alloc ?_ _ | refine hp_drew ?_ | refine hp_drewN ?_ _ | apply hp_set | refine hp_far ?_ (by first | (simp; omega) | (simp; done)) _))
       · (repeat' (first | exact hp_new _ _ | exact hp_at _ _ (by simp; done) | refine hp_alloc ?_ _ | refine hp_drew ?_ | refine hp_drewN ?_ _ | apply hp_set | refine hp_far ?_ (by first | (simp; omega) | (simp; done)) _))
       · (repeat' (first | exact hp_new _ _ | exact hp_at _ _ (by simp; done) | refine hp_alloc ?_ _ | refine hp_drew ?_ | refine hp_drewN ?_ _ | apply hp_set | refine hp_far ?_ (by first | (simp; omega) | (simp; done)) _))
       · exact (hA.below (((((Below.refl _ w).alloc (Nat.le_refl _) _).alloc (by simp) _).alloc (by simp; omega) _).alloc (by simp; omega) _).drew (fun b h => h)).mono (fun b h => by simp; omega)
       rintro e w' ⟨v, rfl, hv, hm⟩))
  all_goals
    go_wp2
    go_ret
    exact ⟨v, rfl, hv.less (by simp; omega), Mod.trans' (by (repeat' (first | exact Mod.refl _ _ | assumption | refine Mod.alloc ?_ _ | refine Mod.drew ?_ | refine Mod.drewN ?_ _ | refine Mod.setCell ?_ (by first | exact Or.inl rfl | (right; simp; done) | (right; simp; omega) | (left; simp; done)) _))) hm⟩
end Go.Proofs.Ytiojlpjpihmgdaa
