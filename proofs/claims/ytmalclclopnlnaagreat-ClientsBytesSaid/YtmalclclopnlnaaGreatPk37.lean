/-
  Texts of this claim, one behind the other: CliK, CliL.
-/
import Derived.Test.YtmalclclopnlnaaGreatPk09
import Derived.Test.YtmalclclopnlnaaGreatPk36
/-
  The package clients: two maps the same, two tables the same.
-/
namespace Go.Proofs.YtmalclclopnlnaaGreat
open Go.RowKit Go.Shelf
attribute [local go_sem] Oper.semAt_some

theorem told_at {ms : List TC} {j : Nat} (h : j < (ms.map TC.kv).length) : ∃ h' : j < ms.length, (ms.map TC.kv)[j] = ms[j].kv := ⟨by simpa using h, by simp⟩
set_option maxRecDepth 100000 in
set_option maxHeartbeats 2000000 in
theorem tequalF_any (F F' : Nat → Prop) (p p' m m' T T' : Nat) (L M : List Told) (ms ms' : List TC) (w : World) (h : TabAt F p m T w L ms) (h' : TabAt F' p' m' T' w M ms') :
    Calls Tryz.prog 27 #[.map (some m), .map (some m'), .func (.func 28) #[] #[]] w fun e w' => e = .returned (.bool (decide (L = M))) ∧ Mod (fun _ => False) w w' := by
  have HL1 := Lib.hid (fun X (hX : Mod (fun _ => False) w X) => (tab_len h X hX).2)
  have HL2 := Lib.hid (fun X (hX : Mod (fun _ => False) w X) => (tab_len h' X hX).2)
  obtain ⟨n, hn⟩ : ∃ n, n = L.length := ⟨_, rfl⟩
  obtain ⟨n', hn'⟩ : ∃ n, n = M.length := ⟨_, rfl⟩
  rw [← hn] at HL1
  rw [← hn'] at HL2
  have HN := Lib.hid hn
  have HN' := Lib.hid hn'
  have HH := Lib.hid h
  have HH' := Lib.hid h'
  have hl1 := HL1.out w (Mod.refl _ _)
  have hl2 := HL2.out w (Mod.refl _ _)
  have hmp := h.map
  clear hn hn' h h'
  by_cases hne : n = n'
  case neg =>
    have i1 : (((n : Int)) == (n' : Int)) = false := by rw [beq_eq_false_iff_ne]; omega
    have hno : decide (L = M) = false := decide_eq_false fun e => hne (by rw [HN.out, HN'.out, e])
    rw [hno]
    clear hno
    go_enter Tryz.func27, Tryz.ntmps27
    go_wp2
    go_ret
    exact ⟨rfl, Mod.refl _ _⟩
  case pos =>
    subst hne
    obtain ⟨z, hz⟩ : ∃ z, z = decide (L = M) := ⟨_, rfl⟩
    rw [← hz]
    have HZ := Lib.hid hz
    have HAll := Lib.hid (same_all HH.out.tab.1 HH'.out.tab.1 (by rw [← HN.out, ← HN'.out]))
    clear hz
    refine callsIn_wide.1 (callsIn_of_wp (n := 0) (F := Fence.wide) Tryz.func27 rfl trivial ?_ rfl)
    simp only [Tryz.ntmps27, List.size_toArray, List.length_cons, List.length_nil, Nat.reduceAdd, Nat.reduceSub, Array.replicate_succ, Array.replicate_zero, List.push_toArray, List.append_toArray, List.nil_append, List.cons_append]
    gi_wp2_with (first
      | (gi_at_range; refine wpListIn_mrange (kv := kvU) rfl _ 45 rfl _ _ Tryz.underlying45 hmp rfl ?_; intro w0 hrg hm0)
      | fail)
    go_frame
    have HM0 := Lib.hid hm0
    gi_loopw [7] (fun _ wr => ∃ (seen : List Nat), RgAt wr m w.heap.size kvU (ms.map TC.kv) seen ∧ (∀ j ∈ seen, ∀ t, ms[j]? = some t → atT t.c M = some t.told) ∧ Mod (fun _ => False) w wr) (fun _ wr => (ms.map TC.kv).length - seenN wr w.heap.size)
    case atStart => exact ⟨[], hrg, ⟨fun j hj => (by cases hj), HM0.out⟩⟩
    case round =>
      obtain ⟨seen, hr, hs, hm⟩ := hrel
      have HRg := Lib.hid hr
      have HS := Lib.hid hs
      have HM := Lib.hid hm
      clear hs hm hrg hm0 hl1 hl2 hmp
      gi_wp2_with (first
        | (gi_at_next; refine wpListIn_mnext rfl _ rfl rfl hr ?_ ?_)
        | fail)
      · intro hall
        have hz : z = true := by
          rw [HZ.out]
          refine decide_eq_true (HAll.out fun x hx => ?_)
          have hx2 := HH.out.perm.mem_iff.2 hx
          obtain ⟨t, ht, rfl⟩ := List.mem_map.1 hx2
          obtain ⟨j, hj, rfl⟩ := List.getElem_of_mem ht
          exact HS.out j (hall j (by simpa using hj)) _ (List.getElem?_eq_getElem hj)
        subst hz
        clear hr
        gi_wp2
        go_ret
        exact ⟨rfl, HM.out⟩
      · intro j hjL w2 hns hlt hr2 hm2 hen
        obtain ⟨t, ht⟩ : ∃ t, t = ms[j] := ⟨_, rfl⟩
        obtain ⟨k, hk⟩ : ∃ k, k = (resV t.r).length := ⟨_, rfl⟩
        have e1 : kvU ms[j].kv.fst = .int .u64 (t.c : Int) := by rw [ht]; rfl
        have e2 : ms[j].kv.snd = .agg #[.int .u64 (t.n : Int), .slice t.A k t.cap] := by rw [hk, ht]; rfl
        rw [e1, e2] at hen ⊢
        have htm : t ∈ ms := by rw [ht]; exact List.getElem_mem _
        have hjt : ms[j]? = some t := by rw [ht]; exact List.getElem?_eq_getElem hjL
        have htL : t.told ∈ L := HH.out.perm.mem_iff.1 (List.mem_map_of_mem htm)
        have hmr : mayR t.r = true := (HH.out.tab.2.2 t.told htL).1
        have M2 : Mod (fun _ => False) w w2 := HM.out.trans hm2 fun b hb => .inr (by omega)
        have hlk := run_mget (P := Tryz.prog) (w := w2.alloc (.cells #[.int .u64 (t.n : Int), .slice t.A k t.cap] 74)) kvU_t Tryz.underlying45 (z := .agg #[.int .u64 0, .slice none 0 0]) (by kernel_rfl) (hp_alloc (hp_mod HH'.out.map M2 id) _) (t.c : Int) true
        have hrd1 := fun X (hX : Mod (fun _ => False) w X) => ((HH.out.rd t htm).1.mod hX fun b hb => ⟨(HH.out.off b hb).1, id⟩)
        have HSn := Lib.hid hr.seenN
        have HR2 := Lib.hid hr2
        have HM2 := Lib.hid M2
        have HK := Lib.hid hk
        have HJ := Lib.hid hjt
        have HL := Lib.hid htL
        have hwlt : w.heap.size < w2.heap.size := hp_lt hr2.it
        have hlt2 : seen.length < ms.length := hlt
        rcases HH'.out.get t.c with ⟨h1, h2⟩ | ⟨t2, ht2, htc2, h1, h2⟩
        · rw [h1] at hlk
          have hlk : (Instr.lookup 45 (.map (some m')) (.int .u64 (t.c : Int)) true).run Tryz.prog (w2.alloc (.cells #[.int .u64 (t.n : Int), .slice t.A k t.cap] 74)) = .ok (.tuple #[.agg #[.int .u64 0, .slice none 0 0], .bool false]) (w2.alloc (.cells #[.int .u64 (t.n : Int), .slice t.A k t.cap] 74)) := hlk
          have hz : z = false := by
            rw [HZ.out]
            refine decide_eq_false fun e => ?_
            have := same_each HH'.out.tab.1 e t.told htL
            have h2 : atT t.told.c M = none := h2
            rw [h2] at this
            cases this
          subst hz
          clear hr hr2 hm2 M2 hns hlt ht hk e1 e2 htm hjt htL hmr hrd1 h1 h2
          gi_wp2
          refine ⟨fun f h => (by cases h), ?_⟩
          gi_wp2
          go_ret
          have M2 := HM2.out
          exact ⟨rfl, by (repeat' (first | exact Mod.refl _ _ | assumption | refine Mod.alloc ?_ _ | refine Mod.drew ?_ | refine Mod.drewN ?_ _ | refine Mod.setCell ?_ (by first | exact Or.inl rfl | (right; simp; done) | (right; simp; omega) | (left; simp; done)) _))⟩
        · rw [h1] at hlk
          obtain ⟨k2, hk2⟩ : ∃ k, k = (resV t2.r).length := ⟨_, rfl⟩
          have hlk : (Instr.lookup 45 (.map (some m')) (.int .u64 (t.c : Int)) true).run Tryz.prog (w2.alloc (.cells #[.int .u64 (t.n : Int), .slice t.A k t.cap] 74)) = .ok (.tuple #[.agg #[.int .u64 (t2.n : Int), .slice t2.A k2 t2.cap], .bool true]) (w2.alloc (.cells #[.int .u64 (t.n : Int), .slice t.A k t.cap] 74)) := by rw [hk2]; exact hlk
          have hmr2 : mayR t2.r = true := (HH'.out.tab.2.2 t2.told (atT_some h2).1).1
          have hcl := fun X (hX : Mod (fun _ => False) w X) => tsame1_any t t2 F F' X (hrd1 X hX) ((HH'.out.rd t2 ht2).1.mod hX fun b hb => ⟨(HH'.out.off b hb).1, id⟩) (fun b hb => Nat.lt_of_lt_of_le (HH.out.off b hb).1 hX.size) (fun b hb => Nat.lt_of_lt_of_le (HH'.out.off b hb).1 hX.size)
          have hv1 : t.val = .agg #[.int .u64 (t.n : Int), .slice t.A k t.cap] := by rw [hk]; rfl
          have hv2 : t2.val = .agg #[.int .u64 (t2.n : Int), .slice t2.A k2 t2.cap] := by rw [hk2]; rfl
          rw [hv1, hv2] at hcl
          obtain ⟨y, hy⟩ : ∃ y, y = (decide (t.n = t2.n) && decide (resV t.r = resV t2.r)) := ⟨_, rfl⟩
          rw [← hy] at hcl
          have HCl := Lib.hid hcl
          have hyt : y = true → atT t.c M = some t.told := fun hyt => by
            rw [hyt] at hy
            obtain ⟨h3, h4⟩ := Bool.and_eq_true_iff.1 hy.symm
            have h3 := of_decide_eq_true h3
            have h4 := resV_inj hmr hmr2 (of_decide_eq_true h4)
            rw [h2]
            show some (Told.mk t2.c t2.n t2.r) = some (Told.mk t.c t.n t.r)
            rw [htc2, h3, h4]
          have hyf : y = false → z = false := fun hyf => by
            rw [HZ.out]
            refine decide_eq_false fun e => ?_
            have h5 := same_each HH'.out.tab.1 e t.told htL
            have h2 : atT t.told.c M = some t2.told := h2
            rw [h2] at h5
            injection h5 with h5
            rw [hyf] at hy
            have h6 : t2.n = t.n := congrArg Told.n h5
            have h7 : t2.r = t.r := congrArg Told.r h5
            rw [h6, h7] at hy
            simp at hy
          have HYt := Lib.hid hyt
          have HYf := Lib.hid hyf
          clear hr hr2 hm2 hns hlt ht hk e1 e2 htm hjt htL hmr hrd1 h1 h2 hcl hv1 hv2 hy hyt hyf hmr2 ht2 htc2 hk2
          cases y
          · obtain rfl : z = false := HYf.out rfl
            gi_wp2_with (first
              | ((refine ⟨trivial, rfl, ?_⟩; gi_at_call 28)
                 (with_reducible refine ci (HCl.out _ (by (repeat' (with_reducible (first | exact Mod.refl _ _ | assumption | refine Mod.alloc ?_ _ | refine Mod.drew ?_ | refine Mod.drewN ?_ _ | refine Mod.setCell ?_ (by first | exact Or.inl rfl | (right; simp; done) | (right; simp; omega) | (left; simp; done)) _))))) ?_)
                 rintro e w4 ⟨rfl, hm4⟩)
              | fail)
            go_ret
            exact ⟨rfl, HM2.out.trans' (Mod.trans' (by (repeat' (first | exact Mod.refl _ _ | assumption | refine Mod.alloc ?_ _ | refine Mod.drew ?_ | refine Mod.drewN ?_ _ | refine Mod.setCell ?_ (by first | exact Or.inl rfl | (right; simp; done) | (right; simp; omega) | (left; simp; done)) _))) hm4)⟩
          · have hat := HYt.out rfl
            have HAt := Lib.hid hat
            clear hat
            gi_wp2_with (first
              | ((refine ⟨trivial, rfl, ?_⟩; gi_at_call 28)
                 (with_reducible refine ci (HCl.out _ (by (repeat' (with_reducible (first | exact Mod.refl _ _ | assumption | refine Mod.alloc ?_ _ | refine Mod.drew ?_ | refine Mod.drewN ?_ _ | refine Mod.setCell ?_ (by first | exact Or.inl rfl | (right; simp; done) | (right; simp; omega) | (left; simp; done)) _))))) ?_)
                 rintro e w4 ⟨rfl, hm4⟩
                 have HM4 := Lib.hid (show Mod (fun _ => False) w2 w4 from Mod.trans' (by (repeat' (first | exact Mod.refl _ _ | assumption | refine Mod.alloc ?_ _ | refine Mod.drew ?_ | refine Mod.drewN ?_ _ | refine Mod.setCell ?_ (by first | exact Or.inl rfl | (right; simp; done) | (right; simp; omega) | (left; simp; done)) _))) hm4)
                 clear hm4)
              | fail)
            have hr4 := HR2.out.mod HM4.out id id
            go_roundw
            case rel =>
              refine ⟨seen ++ [j], hr4, fun i hi t' ht' => ?_, HM2.out.trans' HM4.out⟩
              rcases List.mem_append.1 hi with hi | hi
              · exact HS.out i hi t' ht'
              · rw [List.mem_singleton] at hi
                subst hi
                rw [HJ.out] at ht'
                injection ht' with ht'
                rw [← ht']
                exact HAt.out
            case measure =>
              rw [hr4.seenN, HSn.out, List.length_append]
              simp
              omega
end Go.Proofs.YtmalclclopnlnaaGreat
/-
  The package clients: two tables the same.
-/
namespace Go.Proofs.YtmalclclopnlnaaGreat
open Go.RowKit Go.Shelf
attribute [local go_sem] Oper.semAt_some

set_option maxRecDepth 100000 in
set_option maxHeartbeats 1000000 in
theorem ttsame_any (F F' : Nat → Prop) (p p' m m' T T' : Nat) (L M : List Told) (ms ms' : List TC) (w : World) (h : TabAt F p m T w L ms) (h' : TabAt F' p' m' T' w M ms') :
    Calls Tryz.prog 13 #[.pointer (some ⟨p, 0, none⟩), .pointer (some ⟨p', 0, none⟩)] w fun e w' => e = .returned (.bool (decide (L = M))) ∧ Mod (fun _ => False) w w' := by
  have x0 := (tab_len h w (Mod.refl _ _)).1
  have x1 := (tab_len h' w (Mod.refl _ _)).1
  have HT := Lib.hid (tthere_yes p m w x0)
  have HT' := Lib.hid (tthere_yes p' m' w x1)
  have HX := Lib.hid (fun X (hX : Mod (fun _ => False) w X) => (show X.cell? ⟨p, 0, none⟩ = some (.map (some m)) ∧ X.cell? ⟨p', 0, none⟩ = some (.map (some m')) from ⟨cell_modC x0 hX id, cell_modC x1 hX id⟩))
  have HE := Lib.hid (fun X (hX : Mod (fun _ => False) w X) => tequalF_any F F' p p' m m' T T' L M ms ms' X (h.mod hX id id fun _ _ => id) (h'.mod hX id id fun _ _ => id))
  obtain ⟨z, hz⟩ : ∃ z, z = decide (L = M) := ⟨_, rfl⟩
  rw [← hz] at HE ⊢
  clear hz h h'
  go_enter Tryz.func13, Tryz.ntmps13
  go_wp2_with (first
    | (go_at_call 24
       (first | (with_reducible refine HT.out.mono ?_) | (with_reducible refine HT'.out.mono ?_))
       rintro e w1 ⟨rfl, rfl⟩)
    | fail)
  have y0 := cell_regrown x0
  have y1 := cell_regrown x1
  refine wp_region_quiet_below (by kernel_rfl) (by kernel_rfl) ?_
  repeat (go_big_quiet_step ((first | (first | (go_at_call 27; with_reducible exact regM fun X hX => HE.out X hX) | fail) | fail)))
  refine wpQuiet_nil ?_
  intro W1 hW1
  have HQ := mod_of_regrown hW1
  clear hW1
  go_wp2
  go_ret
  exact ⟨rfl, HQ⟩
theorem ttsame_no (v v' : Value) (b : Bool) (w : World) (h : ∀ X, Mod (fun _ => False) w X → Calls Tryz.prog 24 #[v] X fun e w' => e = .returned (.bool false) ∧ X = w') (h' : ∀ X, Mod (fun _ => False) w X → Calls Tryz.prog 24 #[v'] X fun e w' => e = .returned (.bool b) ∧ X = w') :
    Calls Tryz.prog 13 #[v, v'] w fun e w' => e = .returned (.bool (!b)) ∧ Mod (fun _ => False) w w' := by
  have HT := Lib.hid h
  have HT' := Lib.hid h'
  clear h h'
  cases b
  all_goals
    go_enter Tryz.func13, Tryz.ntmps13
    go_wp2_with (first
      | (go_at_call 24
         (first | (with_reducible refine (HT.out _ (Mod.refl _ _)).mono ?_) | (with_reducible refine (HT'.out _ (Mod.refl _ _)).mono ?_))
         rintro e w1 ⟨rfl, rfl⟩)
      | fail)
    go_ret
    exact ⟨rfl, Mod.refl _ _⟩
end Go.Proofs.YtmalclclopnlnaaGreat
