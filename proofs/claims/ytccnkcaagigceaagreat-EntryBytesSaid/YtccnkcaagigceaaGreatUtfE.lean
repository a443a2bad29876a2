/-
  The document's layer 1: the first rune, its walk.
-/
import Derived.Test.YtccnkcaagigceaaGreatUtfD
namespace Go.Proofs.YtccnkcaagigceaaGreat
open Go.RowKit Go.Shelf
attribute [local go_sem] Oper.semAt_some

set_option maxRecDepth 100000 in
set_option maxHeartbeats 4000000 in
theorem rnext_any (l : Bs) (w : World) (hl : l.length ≤ 4294967000) : Calls Tryz.prog 78 #[.string ⟨l.toArray⟩] w fun e w' => e = .returned (.tuple #[.int .i32 (nextP l).1, .int .i64 (nextP l).2]) ∧ Mod (fun _ => False) w w' := by
  obtain ⟨z, hz⟩ : ∃ z, z = nextP l := ⟨_, rfl⟩
  rw [← hz]
  obtain ⟨z1, z2⟩ := z
  simp only
  have HZ := Lib.hid hz
  have HN := Lib.hid (next_eq l)
  clear hz
  go_enter Tryz.func78, Tryz.ntmps78
  go_wp2
  go_loopw [4] (fun v wr => ∃ n : Nat, 1 ≤ n ∧ n ≤ 5 ∧ v = .int .i64 n ∧ tryR (natB l) (5 - n) n = nextU l ∧ Mod (fun _ => False) w wr) (fun v _ => 5 - (intOf v).toNat)
  case atStart => exact ⟨1, by omega, by omega, rfl, HN.out, Mod.refl _ _⟩
  case round =>
    obtain ⟨n, hn1, hn2, rfl, ht, hm⟩ := hrel
    have HT := Lib.hid ht
    have HM := Lib.hid hm
    clear ht hm HN
    by_cases hn4 : n ≤ 4
    · by_cases hnl : n ≤ l.length
      · go_wp2
        clear hn2
        go_loopw [5, 6, 7] (fun r i _c wr => ∃ k : Nat, k ≤ n ∧ i = .int .i64 k ∧ r = .int .i32 (partR n k (natB l)) ∧ Mod (fun _ => False) w wr) (fun _ i _ _ => n - (intOf i).toNat)
        case atStart => exact ⟨0, Nat.zero_le _, rfl, rfl, HM.out⟩
        case round =>
          obtain ⟨k, hk, rfl, rfl, hm2⟩ := hrel
          have HM2 := Lib.hid hm2
          have hb := partR_le n k (natB l) hn4 hk (natB_lt l)
          obtain ⟨q, hq⟩ : ∃ q, q = partR n k (natB l) := ⟨_, rfl⟩
          rw [← hq] at hb ⊢
          have HQ := Lib.hid hq
          clear hm2 hq
          by_cases hkn : k < n
          · have hkl : k < l.length := by omega
            obtain ⟨d, hd⟩ : ∃ d, d = l[k] := ⟨_, rfl⟩
            have h7 : ∀ h, (⟨l.toArray⟩ : ByteArray)[k]'h = d := fun h => by rw [hd]; rfl
            have hdn : (natB l)[k]'(by simpa [natB] using hkl) = d.toNat := by rw [hd]; simp [natB]
            have HD := Lib.hid hdn
            clear hdn hd
            by_cases hk0 : k = 0
            · subst hk0
              obtain rfl : q = 0 := HQ.out
              have hd8 := d.toNat_lt
              have HP := Lib.hid (show partR n 1 (natB l) = firstM n d.toNat by rw [partR_one n _ (by simpa [natB] using hkl), HD.out])
              rcases (show n = 1 ∨ n = 2 ∨ n = 3 ∨ n = 4 by omega) with rfl | rfl | rfl | rfl
              all_goals
                go_wp2
                exact ⟨⟨1, by omega, by go_num, by rw [HP.out]; simp [firstM], by have := HM2.out; (repeat' (first | exact Mod.refl _ _ | assumption | refine Mod.alloc ?_ _ | refine Mod.drew ?_ | refine Mod.drewN ?_ _ | refine Mod.setCell ?_ (by first | exact Or.inl rfl | (right; simp; done) | (right; simp; omega) | (left; simp; done)) _))⟩, by simp only [intOf]; omega⟩
            · obtain ⟨i, rfl⟩ : ∃ i, k = i + 1 := ⟨k - 1, by omega⟩
              have HP := Lib.hid (show partR n (i + 1 + 1) (natB l) = 64 * q + d.toNat % 64 by rw [partR_succ n i _ (by simpa [natB] using hkl), HD.out, HQ.out])
              have hd8 := d.toNat_lt
              go_wp2
              exact ⟨⟨i + 1 + 1, by omega, by go_num, by rw [HP.out]; go_num, HM2.out⟩, by simp only [intOf]; omega⟩
          · obtain rfl : k = n := by omega
            have HQ2 := Lib.hid (show numR k (natB l) = q by rw [← partR_num k _ (by omega), ← HQ.out])
            have HMay := Lib.hid (fun X => rmay_any (q : Int) X)
            rw [mayI_nat] at HMay
            have hlen : (natB l).length = l.length := by simp [natB]
            have hsl : ∀ h, (⟨l.toArray⟩ : ByteArray).extract 0 k = ⟨(l.take k).toArray⟩ := fun _ : True => by rw [mk_ext]; simp
            cases hmq : mayN q
            · have HT2 := Lib.hid (show tryR (natB l) (5 - (k + 1)) (k + 1) = nextU l by
                rw [← HT.out, show 5 - k = (5 - (k + 1)) + 1 by omega, tryR_no]
                unfold hitR; rw [HQ2.out, hmq]; simp)
              rw [hmq] at HMay
              clear hmq
              go_wp2
              go_quiet ((go_at_call 92; exact quiet_eq (HMay.out _)))
              go_wp2
              exact ⟨⟨k + 1, by omega, by omega, by go_num, HT2.out, by have := HM2.out; (repeat' (first | exact Mod.refl _ _ | assumption | refine Mod.alloc ?_ _ | refine Mod.drew ?_ | refine Mod.drewN ?_ _ | refine Mod.setCell ?_ (by first | exact Or.inl rfl | (right; simp; done) | (right; simp; omega) | (left; simp; done)) _))⟩, by simp only [intOf]; omega⟩
            · have hq1 : q ≤ 1114111 := mayN_le hmq
              have HPut := Lib.hid (fun X => rput_any q X hq1)
              have hpp := putN_pos q
              have hcv := put_str q hq1 wr (putN q).length
              have HY := Lib.hid (show (putB q == l.take k) = true → nextU l = some (q, k) from fun h => by
                rw [← HT.out, show 5 - k = (4 - k) + 1 by omega, tryR_hit, HQ2.out]
                unfold hitR
                rw [HQ2.out, hmq, ← putB_eq q k l hq1]
                have h' : putB q = l.take k := by simpa using h
                simp [h', hlen, hnl])
              have HNo := Lib.hid (show (putB q == l.take k) = false → tryR (natB l) (5 - (k + 1)) (k + 1) = nextU l from fun h => by
                rw [← HT.out, show 5 - k = (5 - (k + 1)) + 1 by omega, tryR_no]
                unfold hitR
                rw [HQ2.out, hmq, ← putB_eq q k l hq1]
                have h' : ¬ putB q = l.take k := by simpa using h
                simp [h'])
              rw [hmq] at HMay
              clear hmq
              go_wp2
              go_region_with (first
                | (go_at_call 92; refine (HMay.out _).mono ?_; rintro e w' ⟨rfl, rfl⟩)
                | (go_at_call 93; refine (HPut.out _).mono ?_; rintro e w' ⟨rfl, rfl⟩)
                | fail)
              all_goals
                go_wp2
              · have e : (putB q == l.take k) = true := by assumption
                have hz := HZ.out
                unfold nextP at hz
                rw [HY.out e] at hz
                cases hz
                go_ret2
                exact ⟨rfl, by have := HM2.out; (repeat' (first | exact Mod.refl _ _ | assumption | refine Mod.alloc ?_ _ | refine Mod.drew ?_ | refine Mod.drewN ?_ _ | refine Mod.setCell ?_ (by first | exact Or.inl rfl | (right; simp; done) | (right; simp; omega) | (left; simp; done)) _))⟩
              · have e : (putB q == l.take k) = false := by assumption
                exact ⟨⟨k + 1, by omega, by omega, by go_num, HNo.out e, by have := HM2.out; (repeat' (first | exact Mod.refl _ _ | assumption | refine Mod.alloc ?_ _ | refine Mod.drew ?_ | refine Mod.drewN ?_ _ | refine Mod.setCell ?_ (by first | exact Or.inl rfl | (right; simp; done) | (right; simp; omega) | (left; simp; done)) _))⟩, by simp only [intOf]; omega⟩
      · have hz := HZ.out
        unfold nextP at hz
        rw [← HT.out, tryR_short (by simp [natB]; omega)] at hz
        cases hz
        go_wp2
        go_ret2
        exact ⟨rfl, HM.out⟩
    · obtain rfl : n = 5 := by omega
      have hz := HZ.out
      unfold nextP at hz
      rw [← HT.out] at hz
      cases hz
      go_wp2
      go_ret2
      exact ⟨rfl, HM.out⟩
end Go.Proofs.YtccnkcaagigceaaGreat
