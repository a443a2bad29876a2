/-
  A map's keys, collected and sorted.
-/
import Derived.Test.YtidbgfmknhlmnaaGreatDoorSortH
import Derived.Test.YtidbgfmknhlmnaaGreatDoorMapsR
import Derived.Test.YtidbgfmknhlmnaaGreatDoorIterU
import Derived.Test.YtidbgfmknhlmnaaGreatDoorApp1
import Derived.Deep.DeepFit
namespace Go.Proofs.YtidbgfmknhlmnaaGreatDoor
open Go.RowKit Go.Shelf
attribute [local go_sem] Oper.semAt_some

def kvK (n : Int) : Value := .int .i32 n
theorem kvK_t : KeyT kvK Tryz.prog 21 := ⟨fun a b h => by injection h, _, Tryz.underlying21, fun a => by simp [MapKept.IsKey, kvK]⟩
theorem keys_t : SliceT Tryz.prog 22 21 1 4 := SliceT.mk' (z := .int .i32 0) Tryz.underlying22 (by kernel_rfl) rfl (by decide)
/-- A map's keys, by their places. -/
def keyAt (L : List (Int × Value)) (j : Nat) : Int := at_ (L.map Prod.fst) j
theorem keyAt_lt {L : List (Int × Value)} {j : Nat} (h : j < L.length) : keyAt L j = L[j].1 := by unfold keyAt; rw [at_lt (by simpa using h)]; simp
def keysU (L : List (Int × Value)) (b Bt : Nat) : ItU Nat := ⟨1, fun j => #[kvK (keyAt L j)], fun p => p.Nodup ∧ ∀ j ∈ p, j < L.length, fun p => p.Perm (List.range L.length), fun x => x = b ∨ x = Bt, fun _ => False⟩
/-- How many a range has seen. -/
def seenN (w : World) (r : Nat) : Nat := match w.heap[r]? with | some (.mapIter _ _ s _) => s.size | _ => 0
theorem RgAt.seenN {κ : Type} {w : World} {b r : Nat} {kv : κ → Value} {L : List (κ × Value)} {seen : List Nat} (h : RgAt w b r kv L seen) : seenN w r = seen.length := by
  unfold Go.Proofs.YtidbgfmknhlmnaaGreatDoor.seenN
  rw [h.it]
  simp [rgO]
set_option maxRecDepth 100000 in
set_option maxHeartbeats 1000000 in
theorem keys1_iter (Bt b : Nat) (L : List (Int × Value)) (w : World) (hBt : w.cell? ⟨Bt, 0, none⟩ = some (.map (some b))) (hb : w.heap[b]? = some (mapO kvK L)) :
    IterU Tryz.prog 60 #[.pointer (some ⟨Bt, 0, none⟩)] (keysU L b Bt) w := by
  intro y J Jx C0 W hAg hE hC hJ hJx hY h0
  have hBt' := (hAg.cell (p := ⟨Bt, 0, none⟩) (.inr rfl)).trans hBt
  have hb' : W.heap[b]? = some (mapO kvK L) := (hAg.block b (.inl rfl)).trans hb
  have hbW := hp_lt hb'
  have HBC := Lib.hid (show ¬ C0 b from fun h => (hC b h).2.1 (.inl rfl))
  have HC := Lib.hid hC
  have HY := Lib.hid hY
  clear hBt hb hAg hE hC hY
  refine callsIn_wide.1 (callsIn_of_wp (n := 0) (F := Fence.wide) Tryz.func60 rfl trivial ?_ rfl)
  simp only [Tryz.ntmps60, List.size_toArray, List.length_cons, List.length_nil, Nat.reduceAdd, Nat.reduceSub, Array.replicate_succ, Array.replicate_zero, List.push_toArray, List.append_toArray, List.nil_append, List.cons_append]
  gi_wp2_with (first
    | (gi_at_range; refine wpListIn_mrange (kv := kvK) rfl _ 60 rfl _ _ Tryz.underlying60 hb' rfl ?_; intro w0 hrg hm0)
    | fail)
  go_frame
  gi_loopw [3] (fun _ wr => ∃ (seen : List Nat) (C : Nat → Prop), RgAt wr b W.heap.size kvK L seen ∧ J seen C wr ∧ Mod C0 W wr ∧ (∀ x, C x → x < wr.heap.size ∧ (C0 x ∨ W.heap.size < x))) (fun _ wr => L.length - seenN wr W.heap.size)
  case atStart =>
    refine ⟨[], C0, hrg, hJ _ _ _ _ h0 (hm0.agree fun x hx => ⟨(HC.out x hx).1, id⟩), hm0.mono fun _ _ h => h.elim, fun x hx => ⟨Nat.lt_of_lt_of_le (HC.out x hx).1 hm0.size, .inl hx⟩⟩
  case round =>
    obtain ⟨seen, C, hr, hj, hm, hCx⟩ := hrel
    have hrC : ¬ C W.heap.size := fun h => by
      rcases (hCx _ h).2 with h | h
      · have := (HC.out _ h).1; omega
      · omega
    have hbC : ¬ C b := fun h => by
      rcases (hCx _ h).2 with h | h
      · exact HBC.out h
      · omega
    have HRg := Lib.hid hr
    have HCx := Lib.hid hCx
    have HM := Lib.hid hm
    clear hCx hm
    gi_wp2_with (first
      | (gi_at_next; refine wpListIn_mnext rfl _ rfl rfl hr ?_ ?_)
      | fail)
    · intro hall
      gi_wp2
      go_end0
      exact ⟨⟨_, rfl⟩, .inl ⟨seen, HRg.out.perm hall, C, hj, HM.out.mono fun x _ h => .inl h, fun x hx => ⟨(HCx.out x hx).1, (HCx.out x hx).2.imp id (fun h => by omega)⟩⟩⟩
    · intro j hjL w2 hns hlt hr2 hm2 hen
      have hk := keyAt_lt hjL
      have hj2 : J seen C w2 := hJ _ _ _ _ hj (hm2.agree fun x hx => ⟨(HCx.out x hx).1, fun e => by subst e; exact hrC hx⟩)
      have HM2 := Lib.hid (HM.out.trans hm2 (fun x hx => .inr (by omega)))
      have HC2 := Lib.hid (show ∀ x, C x → x < w2.heap.size ∧ (C0 x ∨ W.heap.size < x) from fun x hx => ⟨Nat.lt_of_lt_of_le (HCx.out x hx).1 hm2.size, (HCx.out x hx).2⟩)
      obtain ⟨fn, tmps, assign, body, hy, hR⟩ := HY.out seen j ⟨hr2.nd, hr2.lt⟩ C w2 hj2 (HM2.out.mono fun x _ h => .inl h) (fun x hx => ⟨(HC2.out x hx).1, (HC2.out x hx).2.imp id (fun h => by omega)⟩)
      simp only [keysU, hk] at hy
      have HR2 := Lib.hid hr2
      have HOk := Lib.hid (show (keysU L b Bt).Ok (seen ++ [j]) from ⟨hr2.nd, hr2.lt⟩)
      have HSn := Lib.hid hr.seenN
      have hw2 : W.heap.size < w2.heap.size := hp_lt hr2.it
      clear hr hr2 hj2 hm2 hns hk hj
      gi_wp2
      refine ⟨rfl, (hR _).mono ?_⟩
      rintro e W3 (⟨rfl, C', hJ3, hm3, hb3⟩ | ⟨rfl, C', hJ3, hm3, hb3⟩)
      all_goals
        have M3 := HM2.out.trans hm3 (fun x hx => (HC2.out x hx).2.imp id (fun h => by omega))
        have B3 : ∀ x, C' x → x < W3.heap.size ∧ (C0 x ∨ W.heap.size < x) := fun x hx => ⟨(hb3 x hx).1, (hb3 x hx).2.elim (fun h => (HC2.out x h).2) (fun h => .inr (by omega))⟩
      · have hr3 := HR2.out.mod hm3 hbC hrC
        gi_wp2
        go_roundw
        case rel => exact ⟨seen ++ [j], C', hr3, hJ3, M3, B3⟩
        case measure =>
          rw [hr3.seenN, HSn.out, List.length_append]
          simp
          omega
      · gi_wp2
        refine bodyPost_ret (results_none rfl _ _ _) rfl ?_
        exact ⟨⟨_, rfl⟩, .inr ⟨seen, j, HOk.out, C', hJ3, M3.mono fun x _ h => .inl h, fun x hx => ⟨(B3 x hx).1, (B3 x hx).2.imp id (fun h => by omega)⟩⟩⟩
theorem mkeys_any (b : Nat) (w : World) : Calls Tryz.prog 43 #[.map (some b)] w fun e w' => e = .returned (.func (.func 60) #[] #[.pointer (some ⟨w.heap.size, 0, none⟩)]) ∧ w.alloc (.cells #[.map (some b)] 60) = w' := by
  go_enter Tryz.func43, Tryz.ntmps43
  go_wp2
  go_ret
  exact ⟨rfl, rfl⟩
/-- What is collected. -/
def KeysEnd {α : Type} (i : ItU α) (key : α → Int) (w : World) (e : Ending) (w' : World) : Prop := ∃ v p, e = .returned v ∧ i.Fin p ∧ OwnS w.heap.size 21 1 csK w' v (p.map key) ∧ (p = [] → v = .slice none 0 0) ∧ Mod i.E w w'
/-- Between two rounds of AppendSeq: what has come, in an own slice. -/
def apI {α : Type} (key : α → Int) (Bs : Nat) : WordU α := fun p C W => ∃ v, W.heap[Bs]? = some (.cells #[v] 22 (0, 0)) ∧ OwnS (Bs + 1) 21 1 csK W v (p.map key) ∧ (p = [] → v = .slice none 0 0) ∧ C = fun b => b = Bs ∨ v.ownBlock = some b
def apX {α : Type} : Code → WordU α := fun _ _ _ _ => False
def apA {α : Type} (key : α → Int) (Bs : Nat) (T enc : Array Value) (a' : Act) : WordU α := fun p C W => ∃ v0, enc = #[v0] ∧ a' = { tmps := (T.setIfInBounds 7 v0).setIfInBounds 5 v0, defers := [] } ∧ apI key Bs p C W
theorem apI_stab {α : Type} (key : α → Int) (Bs : Nat) : StabU (apI key Bs) := by
  rintro p C W W' ⟨v, h1, h2, h3, rfl⟩ hA
  exact ⟨v, hp_agree h1 hA (.inl rfl), h2.keep (hA.mono fun b hb => .inr hb), h3, rfl⟩
set_option maxRecDepth 100000 in
set_option maxHeartbeats 2000000 in
theorem appseq_any {α : Type} (gf : Nat) (lb : Array Value) (i : ItU α) (key : α → Int) (w : World) (henc : ∀ x, i.enc x = #[kvK (key x)]) (hlen : ∀ p, i.Ok p → p.length ≤ 1000000) (hdis : ∀ b, i.E b → ¬ i.D b)
    (eg : ∀ args w, (callFunc gf args).run Tryz.prog w = .ok (.enter gf args) w) (it : IterU Tryz.prog gf lb i w) (hD : ∀ b, i.D b ∨ i.E b → b < w.heap.size) :
    CallsIn Fence.wide 0 Tryz.prog 74 #[.slice none 0 0, .func (.func gf) #[] lb] w (KeysEnd i key w) := by
  have HD := Lib.hid hD
  have HIt := Lib.hid it
  have HLen := Lib.hid hlen
  have HEn := Lib.hid henc
  clear hD it hlen henc
  refine (callsIn_of_wp_marks (n := 0) (F := Fence.wide) Tryz.func74 rfl trivial ?_ rfl)
  simp only [Tryz.ntmps74, List.size_toArray, List.length_cons, List.length_nil, Nat.reduceAdd, Nat.reduceSub, Array.replicate_succ, Array.replicate_zero, List.push_toArray, List.append_toArray, List.nil_append, List.cons_append]
  gi_wp2
  obtain ⟨W4, hW4⟩ : ∃ W4, W4 = w.alloc (.cells #[.slice none 0 0] 22) := ⟨_, rfl⟩
  have hsz : W4.heap.size = w.heap.size + 1 := by subst hW4; simp
  have hz4 : W4.heap[w.heap.size]? = some (.cells #[.slice none 0 0] 22 (0, 0)) := by subst hW4; (repeat' (first | exact hp_new _ _ | exact hp_at _ _ (by simp; done) | refine hp_alloc ?_ _ | refine hp_drew ?_ | refine hp_drewN ?_ _ | apply hp_set | refine hp_far ?_ (by first | (simp; omega) | (simp; done)) _))
  have hm4 : ∀ C, Mod C w W4 := fun C => by subst hW4; (repeat' (first | exact Mod.refl _ _ | assumption | refine Mod.alloc ?_ _ | refine Mod.drew ?_ | refine Mod.drewN ?_ _ | refine Mod.setCell ?_ (by first | exact Or.inl rfl | (right; simp; done) | (right; simp; omega) | (left; simp; done)) _))
  rw [← hW4]
  clear hW4
  have HM4 := Lib.hid hm4
  refine wp_rangeU (gf := gf) (lb := lb) rfl eg (fun x => by rw [HEn.out]; rfl) hdis (fun l J Jx C0 W hA hE hC hJ hJx hY h0 => HIt.out l J Jx C0 W (((hm4 (fun _ => False)).agree fun b hb => ⟨HD.out b (.inl hb), id⟩).trans hA) hE hC hJ hJx hY h0)
    (fun b hb => by have := HD.out b hb; omega) (apI key w.heap.size) apX (apA key w.heap.size) (apI_stab _ _) (fun c p C X Y h hA => h)
    (fun T enc a' p C X Y ⟨v0, h0, h1, h2⟩ hA => ⟨v0, h0, h1, apI_stab _ _ _ _ _ _ h2 hA⟩)
    (fun b => b = w.heap.size) (fun b hb => by subst hb; exact ⟨by omega, fun hd => by have := HD.out _ (.inl hd); omega, fun hd => by have := HD.out _ (.inr hd); omega⟩)
    ⟨_, hz4, OwnS.nil _ _ _ _ _, fun _ => rfl, by funext b; simp [Value.ownBlock]⟩ ?assign ?body ?done (fun _ _ _ _ _ h => h.elim)
  case assign =>
    rintro l' p x hok C W' hI hm' hb'
    rw [HEn.out]
    have H1 := Lib.hid hI
    clear hI
    gi_wp2
    exact ⟨C, ⟨_, rfl, rfl, H1.out⟩, Mod.refl _ _, fun b hb => ⟨(hb' b hb).1, .inl hb⟩⟩
  case body =>
    rintro l' p x hok C a' W' ⟨v0, he, rfl, v, hb1, hown, hnil, rfl⟩ hm' hb' - - -
    rw [HEn.out] at he
    have he2 : v0 = kvK (key x) := by simpa using he.symm
    subst he2
    clear he
    have hpl : p.length + 1 ≤ 1000000 := by have := HLen.out _ hok; simpa using this
    obtain ⟨A, c, rfl, -, hfr, -⟩ := hown.rd csK_len
    obtain ⟨xs, hxs⟩ : ∃ xs, xs = p.map key := ⟨_, rfl⟩
    obtain ⟨y, hy⟩ : ∃ y, y = key x := ⟨_, rfl⟩
    have hxy : xs ++ [y] = (p ++ [x]).map key := by rw [hxs, hy, List.map_append]; rfl
    rw [← hxs] at hb1 hown hfr hb'
    rw [← hy]
    have hxl : xs.length + 1 ≤ 1000000 := by rw [hxs, List.length_map]; exact hpl
    rw [← hxs]
    obtain ⟨k, hk⟩ : ∃ k, k = xs.length := ⟨_, rfl⟩
    rw [← hk] at hb1 hown hfr hb' hxl
    rw [← hk]
    have hne : ∀ b, (Value.slice A k c).ownBlock = some b → b ≠ w.heap.size := fun b hb => by have := (hfr b hb).1; omega
    have cz := hp_cell hb1 0
    have fz := hp_free hb1 0
    have hbz := hp_lt hb1
    have H1 := Lib.hid hb1
    have HXy := Lib.hid hxy
    have HK := Lib.hid hk
    have HX := Lib.hid hxs
    have HO := Lib.hid hown
    have HFr := Lib.hid hfr
    have HNe := Lib.hid hne
    have HMW := Lib.hid (show w.heap.size + 1 ≤ W'.heap.size by have := hm'.size; omega)
    have HL1 := Lib.hid (show (xs ++ [y]).length = k + 1 by simp [hk])
    clear hxs hy hxy hk hb1 hown hfr hne hm' hpl hnil hb'
    unfold kvK
    gi_wp2_with (gi_at_builtin
                 refine wpListIn_app (base := w.heap.size + 1) (xs := xs) (ys := [y]) (D := fun b => b = W'.heap.size) rfl (.tmp 8) (.tmp 10) rfl keys_t csK_len csK_one rfl (HO.out.keep (Agree.below ((Below.refl _ _).alloc (Nat.le_refl _) _) fun b h => (HFr.out b h).2)) 1 rfl rfl (Rd.one (hp_new _ _) rfl) ?_ ?_ ?_ ?_
                 · rw [← HK.out]; simp [maxLen]; omega
                 · rw [← HK.out]; simp; omega
                 · have := HMW.out; simp; omega
                 intro v' w2 hown2 hm2 hat2
                 obtain ⟨A2, c2, hv2, -, hfr2, hml2⟩ := OwnS.rd hown2 csK_len
                 rw [HL1.out] at hv2
                 subst hv2
                 have h12 := hp_mod (hp_alloc H1.out _) hm2 (fun h => HNe.out _ h rfl)
                 have cz2 := hp_cell h12 0
                 have fz2 := hp_free h12 0
                 have H12 := Lib.hid h12
                 have HM2 := Lib.hid hm2
                 have HO2 := Lib.hid hown2
                 have HA2 := Lib.hid hat2
                 clear h12 hm2 hown2 hat2)
    have hs2 := HM2.out.size
    simp at hs2
    have hmw := HMW.out
    refine ⟨fun b => b = w.heap.size ∨ (Value.slice A2 (k + 1) c2).ownBlock = some b, ⟨_, hp_eq (hp_set H12.out 0 _) rfl, ?_, fun e => by simp at e, rfl⟩, ?_, ?_⟩
    · rw [← HXy.out]
      exact HO2.out.keep ⟨rfl, rfl, rfl, by simp [World.setCell], fun b hb => Below.heap_setCell _ _ _ _ (by have := (hfr2 b hb).1; simp; omega)⟩
    · refine Mod.setCell (((Mod.refl _ W').alloc _).trans HM2.out (fun b hb => .inl (.inr ?_))) (.inl (.inl rfl)) _
      exact hb
    · rintro b (rfl | hb)
      · exact ⟨by simp [World.setCell]; omega, .inl (.inl rfl)⟩
      · refine ⟨by have := (hfr2 b hb).2; simpa [World.setCell] using this, ?_⟩
        rcases HA2.out with h | h
        · left; right; exact h.symm.trans hb
        · have hb3 := h.symm.trans hb
          injection hb3 with hb3
          right
          rw [← hb3]; simp
  case done =>
    rintro W' C' p hfin ⟨v, hb1, hown, hnil, rfl⟩ hm' hb' hK hn'
    rw [hsz] at hK
    have c0 := hp_cell hb1 0
    simp only [List.getElem?_toArray, List.getElem?_cons_zero] at c0
    have HO := Lib.hid hown
    have HNil := Lib.hid hnil
    have HM' := Lib.hid hm'
    have HFin := Lib.hid hfin
    clear hm' hown hnil hb1 hfin
    gi_wp2
    refine endM1 rfl hK (results_tmp rfl _ _ _) ⟨v, p, rfl, HFin.out, ?_, HNil.out, ?_⟩
    · refine (HO.out.less (by omega)).mod ((Mod.refl (fun b => b = w.heap.size + 1) W').putObj (.inl rfl) _) (fun b hb e => ?_)
      rw [hsz] at hn'
      exact hn' (.inr (e ▸ hb))
    · refine Mod.putObj (l := w.heap.size + 1) ((HM4.out i.E).trans HM'.out (fun b hb => ?_)) (.inr (by omega)) _
      rcases hb with h | h
      · right; omega
      · exact .inl h
set_option maxHeartbeats 1000000 in
theorem collect_any {α : Type} (gf : Nat) (lb : Array Value) (i : ItU α) (key : α → Int) (w : World) (henc : ∀ x, i.enc x = #[kvK (key x)]) (hlen : ∀ p, i.Ok p → p.length ≤ 1000000) (hdis : ∀ b, i.E b → ¬ i.D b)
    (eg : ∀ args w, (callFunc gf args).run Tryz.prog w = .ok (.enter gf args) w) (it : IterU Tryz.prog gf lb i w) (hD : ∀ b, i.D b ∨ i.E b → b < w.heap.size) :
    Calls Tryz.prog 58 #[.func (.func gf) #[] lb] w (KeysEnd i key w) := by
  have H := Lib.hid (appseq_any gf lb i key w henc hlen hdis eg it hD)
  clear henc hlen hdis it hD
  refine callsIn_wide.1 (callsIn_of_wp (n := 0) (F := Fence.wide) Tryz.func58 rfl trivial ?_ rfl)
  simp only [Tryz.ntmps58, List.size_toArray, List.length_cons, List.length_nil, Nat.reduceAdd, Nat.reduceSub, Array.replicate_succ, Array.replicate_zero, List.push_toArray, List.append_toArray, List.nil_append, List.cons_append]
  gi_wp2_with (first
    | ((refine ⟨trivial, rfl, ?_⟩; gi_at_call 74); refine H.out.mono ?_; rintro e w' ⟨v, p, rfl, h1, h2, h3, h4⟩)
    | fail)
  go_ret
  exact ⟨v, p, rfl, h1, h2, h3, h4⟩
/-- What is sorted out of an iterator. -/
def SortedEnd {α : Type} (i : ItU α) (key : α → Int) (w : World) (e : Ending) (w' : World) : Prop := ∃ v p ys, e = .returned v ∧ i.Fin p ∧ OwnS w.heap.size 21 1 csK w' v ys ∧ ys.Perm (p.map key) ∧ ys.Pairwise (· ≤ ·) ∧ Mod i.E w w'
set_option maxHeartbeats 1000000 in
theorem sorted_any {α : Type} (gf : Nat) (lb : Array Value) (i : ItU α) (key : α → Int) (w : World) (henc : ∀ x, i.enc x = #[kvK (key x)]) (hlen : ∀ p, i.Ok p → p.length ≤ 1000000) (hfin : ∀ p, i.Fin p → p.length ≤ 1000000) (hdis : ∀ b, i.E b → ¬ i.D b)
    (eg : ∀ args w, (callFunc gf args).run Tryz.prog w = .ok (.enter gf args) w) (it : IterU Tryz.prog gf lb i w) (hD : ∀ b, i.D b ∨ i.E b → b < w.heap.size) :
    Calls Tryz.prog 42 #[.func (.func gf) #[] lb] w (SortedEnd i key w) := by
  have H := Lib.hid (collect_any gf lb i key w henc hlen hdis eg it hD)
  have HFl := Lib.hid hfin
  clear henc hlen hdis it hD hfin
  go_enter Tryz.func42, Tryz.ntmps42
  go_wp2_with (first
    | (go_at_call 58
       (with_reducible refine H.out.mono ?_)
       rintro e w1 ⟨v, p, rfl, h1, h2, h3, h4⟩
       obtain ⟨A, c, rfl, -, hfr, -⟩ := h2.rd csK_len
       have hs := ssort_any w.heap.size _ (p.map key) w1 h2 (by have := HFl.out p h1; rw [List.length_map]; omega) (fun A' n' c' e hn => by
         injection e with e1 e2 e3
         rw [← e2, List.length_map] at hn
         exact h3 (List.eq_nil_of_length_eq_zero hn))
       obtain ⟨n, hn⟩ : ∃ n, n = (p.map key).length := ⟨_, rfl⟩
       rw [← hn] at hs hfr
       rw [← hn]
       have HS := Lib.hid hs
       have HF := Lib.hid h1
       have HM := Lib.hid h4
       have HFr := Lib.hid hfr
       clear hs h1 h2 h3 h4 hn hfr)
    | (go_at_call 59
       (with_reducible refine HS.out.mono ?_)
       rintro e w2 ⟨rfl, ys, hown, hp, hso, hm⟩
       have HO := Lib.hid hown
       have HP := Lib.hid hp
       have HSo := Lib.hid hso
       have HM2 := Lib.hid hm
       clear hown hp hso hm)
    | fail)
  go_ret
  exact ⟨_, p, ys, rfl, HF.out, HO.out, HP.out, HSo.out, HM.out.trans HM2.out (fun b hb => .inr (HFr.out b hb).1)⟩
theorem range_keys (L : List (Int × Value)) : (List.range L.length).map (keyAt L) = L.map Prod.fst := by
  apply List.ext_getElem
  · simp
  · intro j h1 h2
    simp only [List.length_map, List.length_range] at h1
    rw [List.getElem_map, List.getElem_range, keyAt_lt h1, List.getElem_map]
/-- A map's keys, sorted: 'slices.Sorted(maps.Keys(m))', the iterator at hand. -/
theorem sortedKeys_any (Bt b : Nat) (L : List (Int × Value)) (w : World) (hBt : w.heap[Bt]? = some (.cells #[.map (some b)] 60 (0, 0))) (hb : w.heap[b]? = some (mapO kvK L)) (hl : L.length ≤ 1000000) :
    Calls Tryz.prog 42 #[.func (.func 60) #[] #[.pointer (some ⟨Bt, 0, none⟩)]] w fun e w' => ∃ v ys, e = .returned v ∧ OwnS w.heap.size 21 1 csK w' v ys ∧ ys.Perm (L.map Prod.fst) ∧ ys.Pairwise (· ≤ ·) ∧ Mod (fun _ => False) w w' := by
  refine (sorted_any _ _ (keysU L b Bt) (keyAt L) w (fun x => rfl) (fun p hp => ?_) (fun p hp => ?_) (fun b h => h.elim) (enters_of Tryz.func60 (by kernel_rfl) rfl) (keys1_iter Bt b L w (by have := hp_cell hBt 0; simpa using this) hb) (fun x hx => ?_)).mono ?_
  · exact Nat.le_trans (nodup_full hp.1 hp.2) hl
  · have h2 : p.Perm (List.range L.length) := hp
    have := h2.length_eq
    simp at this; omega
  · rcases hx with (rfl | rfl) | h
    · exact hp_lt hb
    · exact hp_lt hBt
    · exact h.elim
  · rintro e w' ⟨v, p, ys, rfl, hf, ho, hp, hs, hm⟩
    have hf2 : p.Perm (List.range L.length) := hf
    exact ⟨v, ys, rfl, ho, by rw [← range_keys]; exact hp.trans (hf2.map _), hs, hm⟩
end Go.Proofs.YtidbgfmknhlmnaaGreatDoor
