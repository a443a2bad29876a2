/-
  How many code points change; whether what they are folded to stays.
-/
import Derived.Test.YtidbgfmknhlmnaaGreatDoorFoldE
namespace Go.Proofs.YtidbgfmknhlmnaaGreatDoor
open Go.RowKit Go.Shelf Go.Sort
attribute [local go_sem] Oper.semAt_some

theorem chgL_len (ls : List FL) : (chgL ls).length ≤ ls.length := by
  have h := (chgL_perm ls).length_eq
  rw [List.length_map] at h
  have := List.length_filter_le moves ls
  omega
theorem dallI_any (D : Nat → Prop) (v : Value) (hs : List FH) (ls : List FL) (hls : hs.map FH.x = ls) (w : World) (hF : FoldIn D w v hs) (hD : ∀ b, D b → b < w.heap.size) (hlen : hs.length ≤ 1000000) :
    Calls Tryz.prog 27 #[v] w fun e w1 => ∃ bl bf, e = .returned (.func (.func 44) #[] #[ptrV bl, ptrV bf]) ∧ IterG Tryz.prog 44 #[ptrV bl, ptrV bf] (foldIt ls (fun b => D b ∨ (w.heap.size ≤ b ∧ b < w1.heap.size))) w1 ∧ Mod (fun _ => False) w w1 := by
  refine (dall_any D v hs w hF hD hlen).mono ?_
  rintro e w1 ⟨bl, bf, ul, rfl, p1, p2, p3, p4, p5, p6, p7⟩
  rw [hls] at p6
  obtain ⟨Au, cu, rfl, hru, hfu, -⟩ := p6.rd csI_len
  refine ⟨bl, bf, rfl, dall1_iter bl bf cu Au v hs ls hls _ w1 (hp_cell p4 0) (hp_cell p5 0) (.inr ⟨by omega, by omega⟩) (.inr ⟨by omega, by omega⟩) (fun b hb => ?_) (hru.mono fun b hb => .inr ?_) ((hF.mod p7 fun b hb => ⟨hD b hb, id⟩).mono fun b hb => .inl hb) ?_, p7⟩
  · rcases hb with hb | hb
    · exact Nat.lt_of_lt_of_le (hD b hb) p7.size
    · exact hb.2
  · have := hfu b hb; omega
  · have h1 := chgL_len ls
    have h2 : ls.length = hs.length := by rw [← hls, List.length_map]
    omega
def ctI (z : Nat) (k : Nat) (C : Nat → Prop) (W : World) : Prop := W.heap[z]? = some (.cells #[.int .i64 (k : Int)] 3 (0, 0)) ∧ C = fun b => b = z
def noX (_ : Code) (_ : Nat) (_ : Nat → Prop) (_ : World) : Prop := False
def ctA (z : Nat) (T enc : Array Value) (a' : Act) (k : Nat) (C : Nat → Prop) (W : World) : Prop := ∃ v0 v1, enc = #[v0, v1] ∧ a' = { tmps := (T.setIfInBounds 6 v0).setIfInBounds 7 v1, defers := [] } ∧ ctI z k C W
set_option maxRecDepth 100000 in
set_option maxHeartbeats 1000000 in
theorem dlen_any (D : Nat → Prop) (v : Value) (hs : List FH) (ls : List FL) (hls : hs.map FH.x = ls) (w : World) (hF : FoldIn D w v hs) (hD : ∀ b, D b → b < w.heap.size) (hlen : hs.length ≤ 1000000) :
    Calls Tryz.prog 25 #[v] w fun e w' => e = .returned (.int .i64 (chgL ls).length) ∧ Mod (fun _ => False) w w' := by
  have hcl := chgL_len ls
  have hll : ls.length ≤ 1000000 := by rw [← hls, List.length_map]; exact hlen
  obtain ⟨N, hN⟩ : ∃ N, N = (chgL ls).length := ⟨_, rfl⟩
  have hNl : N ≤ 1000000 := by omega
  have HAll := Lib.hid (fun X (hX : Mod (fun _ => False) w X) => dallI_any D v hs ls hls X (hF.mod hX fun b hb => ⟨hD b hb, id⟩) (fun b hb => Nat.lt_of_lt_of_le (hD b hb) hX.size) hlen)
  rw [← hN]
  have HN := Lib.hid hN
  have HD := Lib.hid hD
  clear hls hN hF hD hlen hcl hll
  refine callsIn_wide.1 (callsIn_of_wp_marks (n := 0) (F := Fence.wide) Tryz.func25 rfl trivial ?_ rfl)
  simp only [Tryz.ntmps25, List.size_toArray, List.length_cons, List.length_nil, Nat.reduceAdd, Nat.reduceSub, Array.replicate_succ, Array.replicate_zero, List.push_toArray, List.append_toArray, List.nil_append, List.cons_append]
  gi_wp2_with (first
    | ((refine ⟨trivial, rfl, ?_⟩; gi_at_call 27); (with_reducible refine ci (HAll.out _ (by (repeat' (with_reducible (first | exact Mod.refl _ _ | assumption | refine Mod.alloc ?_ _ | refine Mod.drew ?_ | refine Mod.drewN ?_ _ | refine Mod.setCell ?_ (by first | exact Or.inl rfl | (right; simp; done) | (right; simp; omega) | (left; simp; done)) _))))) ?_); rintro e w1 ⟨bl, bf, rfl, hit, p7⟩)
    | fail)
  obtain ⟨B, hB⟩ : ∃ B, B = w.heap.size := ⟨_, rfl⟩
  have q0 : w1.heap[w.heap.size]? = some (.cells #[.int .i64 0] 3 (0, 0)) := hp_mod (by (repeat' (first | exact hp_new _ _ | exact hp_at _ _ (by simp; done) | refine hp_alloc ?_ _ | refine hp_drew ?_ | refine hp_drewN ?_ _ | apply hp_set | refine hp_far ?_ (by first | (simp; omega) | (simp; done)) _))) p7 id
  have M1 : Mod (fun _ => False) w w1 := Mod.trans' (by (repeat' (first | exact Mod.refl _ _ | assumption | refine Mod.alloc ?_ _ | refine Mod.drew ?_ | refine Mod.drewN ?_ _ | refine Mod.setCell ?_ (by first | exact Or.inl rfl | (right; simp; done) | (right; simp; omega) | (left; simp; done)) _))) p7
  have hs1 := p7.size
  simp only [World.size_alloc] at hs1
  rw [← hB] at q0 hs1 ⊢
  have HM1 := Lib.hid M1
  have HB := Lib.hid hB
  clear hB
  refine wp_rangeG (gf := 44) (lb := #[ptrV bl, ptrV bf]) rfl (enters_of Tryz.func44 (by kernel_rfl) rfl) foldIt_ok hit
    (fun b hb => by
      rcases hb with (hb | hb) | h
      · have := HD.out b hb; have := HB.out; omega
      · exact hb.2
      · exact h.elim) rfl
    (ctI B) noX (ctA B) (fun k C X Y ⟨h1, h2⟩ hA => ⟨hp_agree h1 hA (by rw [h2]), h2⟩) (fun c k C X Y h hA => h)
    (fun T enc a' k C X Y ⟨v0, v1, h0, h1, h2, h3⟩ hA => ⟨v0, v1, h0, h1, hp_agree h2 hA (by rw [h3]), h3⟩)
    (fun b => b = B) (fun b hb => by
      subst hb
      refine ⟨by omega, fun hd => ?_, id⟩
      rcases hd with hd | hd
      · have := HD.out _ hd; have := HB.out; omega
      · have h9 := hd.1; have := HB.out; simp at h9; omega) ⟨q0, rfl⟩ trivial ?assign ?body ?done (fun _ _ _ _ _ _ h => h.elim)
  case assign =>
    rintro l' k hk enc R C W' ⟨h1, rfl⟩ - ⟨A, c, rfl, -⟩ - hm' hb'
    have H1 := Lib.hid h1
    clear h1 q0
    gi_wp2
    exact ⟨fun b => b = B, ⟨_, _, rfl, rfl, H1.out, rfl⟩, Mod.refl _ _, fun b hb => ⟨(hb' b hb).1, .inl hb⟩⟩
  case body =>
    rintro l' k hk enc R C a' W' ⟨v0, v1, rfl, rfl, h1, rfl⟩ - - - hm' hb' - - -
    have hk : k < (chgL ls).length := hk
    have hkN : k < N := by rw [HN.out]; exact hk
    have c0 := hp_cell h1 0
    have f0 := hp_free h1 0
    have hlt := hp_lt h1
    have H1 := Lib.hid h1
    clear h1 hk q0
    gi_wp2
    exact ⟨fun b => b = B, ⟨hp_eq (hp_set H1.out 0 _) (by simp), rfl⟩, by (repeat' (first | exact Mod.refl _ _ | assumption | refine Mod.alloc ?_ _ | refine Mod.drew ?_ | refine Mod.drewN ?_ _ | refine Mod.setCell ?_ (by first | exact Or.inl rfl | (right; simp; done) | (right; simp; omega) | (left; simp; done)) _)), fun b hb => by subst hb; exact ⟨by simpa [World.setCell] using hlt, .inl rfl⟩⟩
  case done =>
    rintro W' C' ⟨h1, rfl⟩ _ hm' hb' hK hn'
    have h1 : W'.heap[B]? = some (.cells #[.int .i64 ((chgL ls).length : Int)] 3 (0, 0)) := h1
    rw [← HN.out] at h1
    have c0 := hp_cell h1 0
    have HM' := Lib.hid hm'
    clear hm' q0
    gi_wp2
    refine endM1 rfl hK (results_tmp rfl _ _ _) ⟨rfl, ?_⟩
    refine Mod.putObj (HM1.out.trans HM'.out (fun b hb => ?_)) (.inr HM1.out.size) _
    rcases hb with h | h
    · have := HB.out; right; omega
    · exact h.elim
/-! ### Still -/
theorem stillL_take {ls : List FL} {k : Nat} (h : k < (chgL ls).length) : ((chgL ls).take (k + 1)).all (fun r => textL ls (fullL ls r) == fullL ls r) = (((chgL ls).take k).all (fun r => textL ls (fullL ls r) == fullL ls r) && (textL ls (fullL ls (at_ (chgL ls) k)) == fullL ls (at_ (chgL ls) k))) := by
  rw [List.take_succ_eq_append_getElem h, List.all_append, at_lt h]; simp
def slI (ls : List FL) (rb : Nat) (k : Nat) (C : Nat → Prop) (W : World) : Prop := (∃ b, W.heap[rb]? = some (.cells #[.bool b] 4 (0, 0))) ∧ ((chgL ls).take k).all (fun r => textL ls (fullL ls r) == fullL ls r) = true ∧ C = fun b => b = rb
def slX (ls : List FL) (rb : Nat) (c : Code) (_k : Nat) (C : Nat → Prop) (W : World) : Prop := c = .ret ∧ W.heap[rb]? = some (.cells #[.bool false] 4 (0, 0)) ∧ stillL ls = false ∧ C = fun b => b = rb
def slA (ls : List FL) (rb : Nat) (T enc : Array Value) (a' : Act) (k : Nat) (C : Nat → Prop) (W : World) : Prop := ∃ v0 v1, enc = #[v0, v1] ∧ a' = { tmps := ((T.setIfInBounds 7 v0).setIfInBounds 8 v1).setIfInBounds 4 v1, defers := [] } ∧ slI ls rb k C W
set_option maxRecDepth 100000 in
set_option maxHeartbeats 2000000 in
theorem dstill_any (D : Nat → Prop) (v : Value) (hs : List FH) (ls : List FL) (hls : hs.map FH.x = ls) (w : World) (hF : FoldIn D w v hs) (hD : ∀ b, D b → b < w.heap.size) (hlen : hs.length ≤ 1000000) :
    Calls Tryz.prog 21 #[v] w fun e w' => e = .returned (.bool (stillL ls)) ∧ Mod (fun _ => False) w w' := by
  have HAll := Lib.hid (fun X (hX : Mod (fun _ => False) w X) => dallI_any D v hs ls hls X (hF.mod hX fun b hb => ⟨hD b hb, id⟩) (fun b hb => Nat.lt_of_lt_of_le (hD b hb) hX.size) hlen)
  have HD := Lib.hid hD
  have HF := Lib.hid hF
  have HLS := Lib.hid hls
  obtain ⟨p, rfl⟩ : ∃ p, v = .pointer p := by
    rcases hF with ⟨h, -⟩ | ⟨fb, h, -⟩ | ⟨fb, m1, m2, h, -⟩
    · exact ⟨_, h⟩
    · exact ⟨_, h⟩
    · exact ⟨_, h⟩
  clear hls hF hD hlen
  refine callsIn_wide.1 (callsIn_of_wp_marks (n := 0) (F := Fence.wide) Tryz.func21 rfl trivial ?_ rfl)
  simp only [Tryz.ntmps21, List.size_toArray, List.length_cons, List.length_nil, Nat.reduceAdd, Nat.reduceSub, Array.replicate_succ, Array.replicate_zero, List.push_toArray, List.append_toArray, List.nil_append, List.cons_append]
  gi_wp2_with (first
    | ((refine ⟨trivial, rfl, ?_⟩; gi_at_call 27); (with_reducible refine ci (HAll.out _ (by (repeat' (with_reducible (first | exact Mod.refl _ _ | assumption | refine Mod.alloc ?_ _ | refine Mod.drew ?_ | refine Mod.drewN ?_ _ | refine Mod.setCell ?_ (by first | exact Or.inl rfl | (right; simp; done) | (right; simp; omega) | (left; simp; done)) _))))) ?_); rintro e w1 ⟨bl, bf, rfl, hit, p7⟩)
    | fail)
  obtain ⟨B, hB⟩ : ∃ B, B = w.heap.size := ⟨_, rfl⟩
  have q0 : w1.heap[w.heap.size]? = some (.cells #[.pointer p] 24 (0, 0)) := hp_mod (by (repeat' (first | exact hp_new _ _ | exact hp_at _ _ (by simp; done) | refine hp_alloc ?_ _ | refine hp_drew ?_ | refine hp_drewN ?_ _ | apply hp_set | refine hp_far ?_ (by first | (simp; omega) | (simp; done)) _))) p7 id
  have q1 : w1.heap[w.heap.size + 1]? = some (.cells #[.bool false] 4 (0, 0)) := hp_mod (hp_at _ _ (by simp)) p7 id
  have M1 : Mod (fun _ => False) w w1 := Mod.trans' (by (repeat' (first | exact Mod.refl _ _ | assumption | refine Mod.alloc ?_ _ | refine Mod.drew ?_ | refine Mod.drewN ?_ _ | refine Mod.setCell ?_ (by first | exact Or.inl rfl | (right; simp; done) | (right; simp; omega) | (left; simp; done)) _))) p7
  have hs1 := p7.size
  have hit := hit
  simp only [World.size_alloc] at hs1 hit
  rw [← hB] at q0 q1 hs1 hit ⊢
  have HM1 := Lib.hid M1
  have HB := Lib.hid hB
  have HQ0 := Lib.hid q0
  clear hB q0 p7 M1
  refine wp_rangeG (gf := 44) (lb := #[ptrV bl, ptrV bf]) rfl (enters_of Tryz.func44 (by kernel_rfl) rfl) foldIt_ok hit
    (fun b hb => by
      rcases hb with (hb | hb) | h
      · have := HD.out b hb; have := HB.out; omega
      · exact hb.2
      · exact h.elim) rfl
    (slI ls (B + 1)) (slX ls (B + 1)) (slA ls (B + 1)) (fun k C X Y ⟨⟨b, h1⟩, h2, h3⟩ hA => ⟨⟨b, hp_agree h1 hA (by rw [h3])⟩, h2, h3⟩) (fun c k C X Y ⟨h0, h1, h2, h3⟩ hA => ⟨h0, hp_agree h1 hA (by rw [h3]), h2, h3⟩)
    (fun T enc a' k C X Y ⟨v0, v1, g0, g1, ⟨b, h1⟩, h2, h3⟩ hA => ⟨v0, v1, g0, g1, ⟨b, hp_agree h1 hA (by rw [h3])⟩, h2, h3⟩)
    (fun b => b = B + 1) (fun b hb => by
      subst hb
      refine ⟨by omega, fun hd => ?_, id⟩
      rcases hd with hd | hd
      · have := HD.out _ hd; have := HB.out; omega
      · have := hd.1; omega) ⟨⟨false, q1⟩, rfl, rfl⟩ trivial ?assign ?body ?done ?stop
  case assign =>
    rintro l' k hk enc R C W' ⟨⟨b, h1⟩, h2, rfl⟩ - ⟨A, c, rfl, -⟩ - hm' hb'
    have H1 := Lib.hid h1
    have H2 := Lib.hid h2
    clear h1 h2 q1
    gi_wp2
    exact ⟨fun b => b = B + 1, ⟨_, _, rfl, rfl, ⟨b, H1.out⟩, H2.out, rfl⟩, Mod.refl _ _, fun b hb => ⟨(hb' b hb).1, .inl hb⟩⟩
  case body =>
    rintro l' k hk enc R C a' W' ⟨v0, v1, he, rfl, ⟨rb, h1⟩, h2, rfl⟩ - ⟨A, c, hen, hrd⟩ hR hm' hb' - - -
    have hk : k < (chgL ls).length := hk
    rw [hen] at he
    injection he with he
    injection he with he0 he
    injection he with he1 he
    subst he0 he1
    clear he hen
    obtain ⟨r, hr⟩ : ∃ r, r = at_ (chgL ls) k := ⟨_, rfl⟩
    have hst := stillL_take hk
    rw [h2, ← hr, Bool.true_and] at hst
    rw [← hr] at hrd ⊢
    have M' : Mod (fun b => b = B + 1) w1 W' := hm'.mono fun b _ h => h.elim id False.elim
    have MW : Mod (fun _ => False) w W' := HM1.out.trans M' fun b hb => .inr (by have := HB.out; omega)
    have c0 := hp_cell (hp_mod HQ0.out M' (by omega)) 0
    have hfl := fullL_len HF.out r
    rw [HLS.out] at hfl
    obtain ⟨xs, hxs⟩ : ∃ xs, xs = fullL ls r := ⟨_, rfl⟩
    rw [← hxs] at hst hrd hfl ⊢
    have hT := dtext_any D R (.pointer p) hs A c xs W' (HF.out.mod MW fun b hb => ⟨HD.out b hb, id⟩) (fun b hb => Nat.lt_of_lt_of_le (HD.out b hb) MW.size) hrd (fun b hb => (hR b hb).1) (by omega)
    rw [HLS.out] at hT
    have hTl : (textL ls xs).length ≤ 9 := by
      have := textL_le (ls := ls) (fun r => by have := fullL_len HF.out r; rwa [HLS.out] at this) xs
      omega
    have HT := Lib.hid hT
    have HRd := Lib.hid hrd
    have HRl := Lib.hid hR
    have HSt := Lib.hid hst
    have H1 := Lib.hid h1
    have HTl := Lib.hid hTl
    have HEnd := Lib.hid (show (textL ls xs == xs) = false → stillL ls = false from fun h => by
      unfold stillL
      rw [List.all_eq_false]
      refine ⟨at_ (chgL ls) k, by rw [at_lt hk]; exact List.getElem_mem _, ?_⟩
      rw [← hr, ← hxs, h]; simp)
    have hrl := hp_lt h1
    clear hT hrd hR hst h1 hTl hr hxs h2 q1 hm' MW
    obtain ⟨n, hn⟩ : ∃ n, n = xs.length := ⟨_, rfl⟩
    have HN := Lib.hid hn
    rw [← hn] at HT hfl ⊢
    clear hn
    obtain ⟨z, hz⟩ : ∃ z, z = (textL ls xs == xs) := ⟨_, rfl⟩
    rw [← hz] at HSt HEnd
    have HZ := Lib.hid (show decide (textL ls xs = xs) = z by rw [hz, Bool.eq_iff_iff]; simp)
    clear hz
    cases z
    all_goals
      gi_wp2_with (first
        | ((refine ⟨trivial, rfl, ?_⟩; gi_at_call 16)
           (with_reducible refine cir HT.out ?_)
           rintro e w2 ⟨u, rfl, ho, hm2⟩
           obtain ⟨A2, c2, hu, hr2, hf2, -⟩ := ho.rd csI_len
           subst hu
           have HE := Lib.hid (show Calls Tryz.prog 41 #[.slice A2 (textL ls xs).length c2, .slice A n c] w2 _ from by
             have := iequal_any _ R A2 A c2 c (textL ls xs) xs w2 hr2 (HRd.out.mod hm2 fun b hb => ⟨(HRl.out b hb).1, id⟩) (by unfold maxLen; have := HTl.out; omega) (by unfold maxLen; have := HN.out; omega) (fun b hb => (hf2 b hb).2) (fun b hb => Nat.lt_of_lt_of_le (HRl.out b hb).1 hm2.size)
             rw [HZ.out, ← HN.out] at this
             exact this)
           have HM2 := Lib.hid hm2
           clear ho hm2 hr2 hf2)
        | ((refine ⟨trivial, rfl, ?_⟩; gi_at_call 41)
           (with_reducible refine cir HE.out ?_)
           rintro e w3 ⟨rfl, hm3⟩
           have h3 := hp_mod (hp_mod H1.out HM2.out id) hm3 id
           have f3 := hp_free h3 0
           have c3 := hp_cell h3 0
           have H3 := Lib.hid h3
           have HM3 := Lib.hid (HM2.out.trans' hm3)
           clear hm3 h3)
        | fail)
    · refine ⟨fun b => b = B + 1, ⟨rfl, hp_eq (hp_set H3.out 0 _) (by simp), HEnd.out (by first | rfl | trivial), rfl⟩, (HM3.out.mono (C' := fun b => b = B + 1) fun _ _ h => h.elim).setCell (p := ⟨B + 1, 0, none⟩) (.inl rfl) _, fun b hb => ?_⟩
      subst hb
      have := HM3.out.size
      exact ⟨by simp [World.setCell]; omega, .inl rfl⟩
    · refine ⟨fun b => b = B + 1, ⟨⟨rb, H3.out⟩, HSt.out, rfl⟩, HM3.out.mono fun _ _ h => h.elim, fun b hb => ?_⟩
      subst hb
      have := HM3.out.size
      exact ⟨by omega, .inl rfl⟩
  case done =>
    rintro W' C' ⟨⟨b, h1⟩, h2, rfl⟩ _ hm' hb' hK hn'
    have HS := Lib.hid (show stillL ls = true by
      have h2 : ((chgL ls).take (chgL ls).length).all (fun r => textL ls (fullL ls r) == fullL ls r) = true := h2
      rw [List.take_length] at h2
      exact h2)
    have M' : Mod (fun b => b = B + 1) w1 W' := hm'.mono fun b _ h => h.elim id False.elim
    have f0 := hp_free h1 0
    have c0 := hp_cell h1 0
    have H1 := Lib.hid h1
    have HK := Lib.hid hK
    have HM' := Lib.hid M'
    clear h1 h2 hm' hb' hK hn' M' q1
    gi_wp2
    have hK2 := hp_far HK.out (p := ⟨B + 1, 0, none⟩) (show w1.heap.size ≠ B + 1 by omega) (.bool true)
    have hR := hp_eq (hp_set H1.out 0 (.bool true)) (cs' := #[.bool true]) (by simp)
    have hR2 : ((W'.setCell ⟨B + 1, 0, none⟩ (.bool true)).putObj w1.heap.size (.deferred none)).heap[B + 1]? = some (.cells #[.bool true] 4 (0, 0)) := by
      rw [World.putObj_heap_other (by omega)]; exact hR
    have hc := hp_cell hR2 0
    refine retM1 (v := .bool true) rfl hK2 ?_ ⟨by rw [HS.out], ?_⟩
    · simp [results, asAddr, go_sem] at hc ⊢
      rw [hc]
    · refine Mod.putObj ?_ (.inr HM1.out.size) _
      refine Mod.setCell ?_ (.inr (by have := HB.out; show w.heap.size ≤ B + 1; omega)) _
      exact HM1.out.trans HM'.out (fun b hb => by have := HB.out; subst hb; right; omega)
  case stop =>
    rintro W' C' cc k hk0 hk ⟨rfl, h2, h3, rfl⟩ _ hm' hb' hK hn'
    have M' : Mod (fun b => b = B + 1) w1 W' := hm'.mono fun b _ h => h.elim id False.elim
    have hR2 : (W'.putObj w1.heap.size (.deferred none)).heap[B + 1]? = some (.cells #[.bool false] 4 (0, 0)) := by
      rw [World.putObj_heap_other (by omega)]; exact h2
    have hc := hp_cell hR2 0
    have HS := Lib.hid h3
    have HM' := Lib.hid M'
    clear q1 hm' M' h2 h3
    gi_wp2
    refine retM1 (v := .bool false) rfl hK ?_ ⟨by rw [HS.out], ?_⟩
    · simp [results, asAddr, go_sem] at hc ⊢
      rw [hc]
    · refine Mod.putObj ?_ (.inr HM1.out.size) _
      exact HM1.out.trans HM'.out (fun b hb => by have := HB.out; subst hb; right; omega)
end Go.Proofs.YtidbgfmknhlmnaaGreatDoor
