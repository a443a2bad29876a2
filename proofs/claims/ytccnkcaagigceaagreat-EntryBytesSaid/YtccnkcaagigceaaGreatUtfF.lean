/-
  The document's layer 1: a text's runes.
-/
import Derived.Test.YtccnkcaagigceaaGreatUtfE
namespace Go.Proofs.YtccnkcaagigceaaGreat
open Go.RowKit Go.Shelf
attribute [local go_sem] Oper.semAt_some

theorem i32s_tu : SliceT Tryz.prog 99 21 1 4 := SliceT.mk' (z := .int .i32 0) Tryz.underlying99 (by kernel_rfl) rfl (by decide)
set_option maxRecDepth 100000 in
set_option maxHeartbeats 4000000 in
theorem rdecode_any (l : Bs) (w : World) (hl : l.length ≤ 4294967000) : Calls Tryz.prog 71 #[.string ⟨l.toArray⟩] w fun e w' => ∃ v, e = .returned (.tuple #[v, .int .i64 (endU l)]) ∧ OwnS w.heap.size 21 1 csI w' v (natI (runesU l)) ∧ Mod (fun _ => False) w w' := by
  obtain ⟨z, hz⟩ : ∃ z, z = endU l := ⟨_, rfl⟩
  obtain ⟨rs, hrs⟩ : ∃ rs, rs = runesU l := ⟨_, rfl⟩
  rw [← hz, ← hrs]
  have HZ := Lib.hid hz
  have HRS := Lib.hid hrs
  clear hz hrs
  go_enter Tryz.func71, Tryz.ntmps71
  go_wp2
  go_loopw [4, 5] (fun v a wr => ∃ (o : Nat) (ns : List Nat), o ≤ l.length ∧ ns.length ≤ o ∧ a = .int .i64 o ∧ rs = ns ++ runesU (l.drop o) ∧ z = o + endU (l.drop o) ∧ OwnS w.heap.size 21 1 csI wr v (natI ns) ∧ Mod (fun _ => False) w wr) (fun _ a _ => l.length - (intOf a).toNat)
  case atStart => exact ⟨0, [], Nat.zero_le _, Nat.le_refl _, rfl, HRS.out, by rw [HZ.out]; simp, OwnS.nil _ _ _ _ _, Mod.refl _ _⟩
  case round =>
    obtain ⟨o, ns, ho, hno, rfl, hr, he, hown, hm⟩ := hrel
    have HR := Lib.hid hr
    have HE := Lib.hid he
    have HO := Lib.hid hown
    have HM := Lib.hid hm
    clear hr he hown hm
    by_cases hlt : o < l.length
    · obtain ⟨r, hr⟩ : ∃ r, r = l.drop o := ⟨_, rfl⟩
      have hrl : r.length = l.length - o := by rw [hr, List.length_drop]
      have hr2 : ∀ k, l.drop (o + k) = r.drop k := fun k => by rw [hr, List.drop_drop]
      have HNx := Lib.hid (fun X => rnext_any (r.take 4) X (by rw [List.length_take]; omega))
      have hnp : nextP (r.take 4) = nextP r := by unfold nextP; rw [nextU_take4]
      rw [hnp] at HNx
      rw [← hr] at HR HE
      have HR2 := Lib.hid hr2
      obtain ⟨s, hs⟩ : ∃ s, s = r.take 4 := ⟨_, rfl⟩
      rw [← hs] at HNx
      have hx1 : o + 4 < l.length → (⟨l.toArray⟩ : ByteArray).extract o (((o : Int) + 4).toNat) = ⟨s.toArray⟩ := fun h => by
        rw [mk_ext, hs, hr, show ((o : Int) + 4).toNat - o = 4 by omega]
      have hx2 : ¬ o + 4 < l.length → (⟨l.toArray⟩ : ByteArray).extract o l.length = ⟨s.toArray⟩ := fun h => by
        rw [mk_ext, hs, hr, List.take_of_length_le (by simp), List.take_of_length_le (by simp; omega)]
      have HX1 := Lib.hid hx1
      have HX2 := Lib.hid hx2
      obtain ⟨p, hp⟩ : ∃ p, p = nextU r := ⟨_, rfl⟩
      have HP := Lib.hid hp
      clear hnp hx1 hx2 hr hr2 hs hp
      have HPn := Lib.hid (show nextP r = p.getD (0, 0) by rw [HP.out]; rfl)
      rw [HPn.out] at HNx
      clear HPn
      rcases p with _ | ⟨x, m⟩
      · obtain ⟨h1, h2⟩ := runesU_none HP.out.symm
        rw [h1, List.append_nil] at HR
        rw [h2, Nat.add_zero] at HE
        clear h1 h2
        obtain rfl := HE.out
        obtain rfl := HR.out
        simp only [Option.getD_none] at HNx
        by_cases h4 : z + 4 < l.length
        case' pos => have hx := HX1.out h4
        case' neg => have hx := HX2.out h4
        all_goals
          go_wp2_with (first
            | (go_at_call 78; (with_reducible refine (HNx.out _).mono ?_); rintro e w' ⟨rfl, hm2⟩; have HM2 := Lib.hid (HM.out.trans' hm2); have HO2 := Lib.hid (HO.out.mod hm2 (fun _ _ => id)); clear hm2)
            | fail)
          go_ret2
          exact ⟨_, rfl, HO2.out, HM2.out⟩
      · have hp := nextU_pos HP.out.symm
        obtain ⟨h1, h2⟩ := runesU_some HP.out.symm
        rw [← HR2.out m] at h1 h2
        have HR3 := Lib.hid (show rs = (ns ++ [x]) ++ runesU (l.drop (o + m)) by rw [HR.out, h1]; simp)
        have HE3 := Lib.hid (show z = o + m + endU (l.drop (o + m)) by rw [HE.out, h2]; omega)
        have hm0 : 0 < m := hp.1
        have hm4 : m ≤ 4 := hp.2.1
        have hml : o + m ≤ l.length := by have := hp.2.2.1; omega
        have hnl := natI_len ns
        have HNI := Lib.hid (natI_snoc ns x)
        have HLN := Lib.hid hnl
        clear h1 h2 hp hnl
        simp only [Option.getD_some] at HNx
        by_cases h4 : o + 4 < l.length
        case' pos => have hx := HX1.out h4
        case' neg => have hx := HX2.out h4
        all_goals
          go_wp2_with (first
            | (go_at_call 78; (with_reducible refine (HNx.out _).mono ?_); rintro e w' ⟨rfl, hm2⟩; have HM2 := Lib.hid (HM.out.trans' hm2); have HO2 := Lib.hid (HO.out.mod hm2 (fun _ _ => id)); clear hm2)
            | (at_builtin
               refine wpList_app1 (w0 := w) (xs := natI ns) (y := (x : Int)) rfl (.tmp 26) (.tmp 28) rfl i32s_tu csI_len csI_one rfl HO2.out HM2.out rfl ?_ ?_ ?_ ?_
               · rfl
               · rw [HLN.out]; simp [maxLen]; omega
               · rw [HLN.out]; omega
               intro v' w2 hown2 hm2 _ _
               have HO3 := Lib.hid hown2
               have HM3 := Lib.hid hm2
               clear hown2 hm2)
            | fail)
          exact ⟨⟨o + m, ns ++ [x], by omega, by simp; omega, by go_num, HR3.out, HE3.out, by rw [HNI.out]; exact HO3.out, HM3.out⟩, by simp only [intOf]; omega⟩
    · obtain rfl : o = l.length := by omega
      have hd : l.drop l.length = [] := List.drop_length
      rw [hd] at HR HE
      have h1 : runesU ([] : Bs) = [] := rfl
      have h2 : endU ([] : Bs) = 0 := rfl
      rw [h1, List.append_nil] at HR
      rw [h2, Nat.add_zero] at HE
      clear hd h1 h2
      obtain rfl := HE.out
      obtain rfl := HR.out
      go_wp2
      go_ret2
      exact ⟨_, rfl, HO.out, HM.out⟩
theorem rvalid_any (l : Bs) (w : World) (hl : l.length ≤ 4294967000) : Calls Tryz.prog 58 #[.string ⟨l.toArray⟩] w fun e w' => e = .returned (.bool (validU l)) ∧ Mod (fun _ => False) w w' := by
  obtain ⟨r, hr⟩ : ∃ r, r = endU l := ⟨_, rfl⟩
  have HW := Lib.hid (rdecode_any l w hl)
  rw [← hr] at HW
  by_cases he : r = l.length
  · have hv : validU l = true := by unfold validU; rw [← hr, he]; simp
    rw [hv]
    subst he
    clear hv hr
    go_enter Tryz.func58, Tryz.ntmps58
    go_wp2_with (go_at_call 71; refine HW.out.mono ?_; rintro e w1 ⟨v, rfl, hown, hm⟩)
    go_ret
    exact ⟨rfl, hm⟩
  · have hv : validU l = false := by unfold validU; rw [← hr]; simp [he]
    rw [hv]
    have hb : ((r : Int) == (l.length : Int)) = false := by rw [beq_eq_false_iff_ne]; omega
    clear hv hr he
    go_enter Tryz.func58, Tryz.ntmps58
    go_wp2_with (go_at_call 71; refine HW.out.mono ?_; rintro e w1 ⟨v, rfl, hown, hm⟩)
    go_ret
    exact ⟨rfl, hm⟩
end Go.Proofs.YtccnkcaagigceaaGreat
