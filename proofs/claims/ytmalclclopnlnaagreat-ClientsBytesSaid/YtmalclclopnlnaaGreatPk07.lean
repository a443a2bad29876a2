/-
  Texts of this claim, one behind the other: UtfD, UtfE, UtfF.
-/
import Derived.Test.YtmalclclopnlnaaGreatPk01
import Derived.Test.YtmalclclopnlnaaGreatPk06
/-
  The document's layer 1: a rune's bytes, the first rune.
-/
namespace Go.Proofs.YtmalclclopnlnaaGreat
open Go.RowKit Go.Shelf
attribute [local go_sem] Oper.semAt_some

/-- A contract that leaves the world as it is, in a region that only reads. -/
theorem quiet_eq {P : Program} {f : FuncId} {args : Array Value} {w : World} {n : Nat} {v : Value}
    (h : Calls P f args (w.drewN n) fun e w' => e = .returned v ∧ w.drewN n = w') : Calls P f args (w.drewN n) fun e w'' => e = .returned v ∧ ∃ m, w'' = w.drewN m :=
  Calls.quiet_of_same (h.mono fun _ _ ⟨he, hm⟩ => ⟨he, hm.symm⟩)
def putV (r : Nat) : Array Value := ((putN r).map fun b : Nat => Value.int .u8 (b : Int)).toArray
theorem wrap_u8' (n : Int) (h0 : 0 ≤ n) (h : n < 256) : IntKind.u8.wrap n = n := by
  obtain ⟨m, rfl⟩ := Int.eq_ofNat_of_zero_le h0
  exact wrap_u8 m (by omega)
set_option maxRecDepth 100000 in
set_option maxHeartbeats 1000000 in
theorem rput_any (r : Nat) (w : World) (hr : r ≤ 1114111) : Calls Tryz.prog 133 #[.int .i32 r] w fun e w' => e = .returned (.slice (some ⟨w.heap.size, 0, none⟩) (putN r).length (putN r).length) ∧ w.alloc (.cells (putV r) 5 (0, 0)) = w' := by
  by_cases h1 : r ≤ 127
  · have hp : putN r = [r] := by unfold putN; rw [if_pos h1]
    unfold putV
    rw [hp]
    clear hp
    go_enter Tryz.func133, Tryz.ntmps133
    go_wp2
    go_ret
    exact ⟨rfl, rfl⟩
  by_cases h2 : r ≤ 2047
  · have hp : putN r = [192 + r / 64, 128 + r % 64] := by unfold putN; rw [if_neg h1, if_pos h2]
    unfold putV
    rw [hp]
    clear hp
    go_enter Tryz.func133, Tryz.ntmps133
    go_wp2
    go_ret
    exact ⟨rfl, rfl⟩
  by_cases h3 : r ≤ 65535
  · have hp : putN r = [224 + r / 4096, 128 + r / 64 % 64, 128 + r % 64] := by unfold putN; rw [if_neg h1, if_neg h2, if_pos h3]
    unfold putV
    rw [hp]
    clear hp
    go_enter Tryz.func133, Tryz.ntmps133
    go_wp2
    go_ret
    exact ⟨rfl, rfl⟩
  · have hp : putN r = [240 + r / 262144, 128 + r / 4096 % 64, 128 + r / 64 % 64, 128 + r % 64] := by unfold putN; rw [if_neg h1, if_neg h2, if_neg h3]
    unfold putV
    rw [hp]
    clear hp
    go_enter Tryz.func133, Tryz.ntmps133
    go_wp2
    go_ret
    exact ⟨rfl, rfl⟩

/-- The number of the first i of n bytes. -/
def partR (n : Nat) : Nat → List Nat → Nat
  | 0, _ => 0
  | _ + 1, [] => 0
  | i + 1, a :: s => (s.take i).foldl (fun x b => 64 * x + b % 64) (firstM n a)
theorem partR_num (n : Nat) (s : List Nat) (h : 0 < n) : partR n n s = numR n s := by
  obtain ⟨k, rfl⟩ : ∃ k, n = k + 1 := ⟨n - 1, by omega⟩
  cases s with
  | nil => rfl
  | cons a s => rfl
theorem partR_one (n : Nat) (s : List Nat) (h : 0 < s.length) : partR n 1 s = firstM n s[0] := by
  cases s with
  | nil => simp at h
  | cons a s => rfl
theorem partR_succ (n i : Nat) (s : List Nat) (h : i + 1 < s.length) : partR n (i + 2) s = 64 * partR n (i + 1) s + s[i + 1] % 64 := by
  cases s with
  | nil => simp at h
  | cons a s =>
    simp only [List.length_cons] at h
    simp only [partR, List.getElem_cons_succ]
    rw [List.take_succ_eq_append_getElem (by omega), List.foldl_append]
    rfl
theorem fold_lt (s : List Nat) (x M : Nat) (h : x < M) : s.foldl (fun x b => 64 * x + b % 64) x < M * 64 ^ s.length := by
  induction s generalizing x M with
  | nil => simpa using h
  | cons b s ih =>
    rw [List.foldl_cons, List.length_cons, Nat.pow_succ, Nat.mul_comm (64 ^ s.length) 64, ← Nat.mul_assoc]
    exact ih (64 * x + b % 64) (M * 64) (by omega)
theorem partR_le (n i : Nat) (s : List Nat) (hn : n ≤ 4) (hi : i ≤ n) (hs : ∀ x ∈ s, x < 256) : partR n i s ≤ 2097151 := by
  cases i with
  | zero => simp [partR]
  | succ i =>
    cases s with
    | nil => simp [partR]
    | cons a s =>
      have ha : a < 256 := hs a (by simp)
      have hl : (s.take i).length ≤ i := List.length_take_le _ _
      have hk := Nat.pow_le_pow_right (show 0 < 64 by decide) hl
      simp only [partR]
      have hb : ∀ M j, firstM n a < M → i ≤ j → (s.take i).foldl (fun x b => 64 * x + b % 64) (firstM n a) < M * 64 ^ j := fun M j hM hj =>
        Nat.lt_of_lt_of_le (fold_lt (s.take i) _ M hM) (Nat.mul_le_mul_left _ (Nat.pow_le_pow_right (by decide) (by omega)))
      rcases (show n = 1 ∨ n = 2 ∨ n = 3 ∨ n = 4 by omega) with rfl | rfl | rfl | rfl
      · have := hb 256 0 (by simp only [firstM]; omega) (by omega); omega
      · have := hb 32 1 (by simp only [firstM]; omega) (by omega); omega
      · have := hb 16 2 (by simp only [firstM]; omega) (by omega); omega
      · have := hb 8 3 (by simp only [firstM]; omega) (by omega); omega
theorem putN_lt (r : Nat) (hr : r ≤ 1114111) : ∀ b ∈ putN r, b < 256 := by
  intro b hb
  unfold putN at hb
  split at hb
  · simp at hb; omega
  · split at hb
    · simp at hb; omega
    · split at hb
      · simp at hb; omega
      · simp at hb; omega
theorem putN_pos (r : Nat) : 0 < (putN r).length ∧ (putN r).length ≤ 4 := by
  unfold putN
  split
  · simp
  · split
    · simp
    · split <;> simp
def putB (r : Nat) : Bs := (putN r).map UInt8.ofNat
theorem natB_putB (r : Nat) (hr : r ≤ 1114111) : natB (putB r) = putN r := by
  unfold natB putB
  rw [List.map_map]
  have : (putN r).map (UInt8.toNat ∘ UInt8.ofNat) = (putN r).map id := List.map_congr_left fun b hb => by
    have := putN_lt r hr b hb
    simp only [Function.comp, UInt8.toNat_ofNat', id]
    omega
  rw [this, List.map_id]
theorem natB_inj {a b : Bs} : natB a = natB b ↔ a = b := by
  constructor
  · intro h
    exact List.map_inj_right (fun _ _ h => UInt8.toNat_inj.1 h) |>.1 h
  · rintro rfl; rfl
theorem natB_take (s : Bs) (n : Nat) : natB (s.take n) = (natB s).take n := List.map_take
theorem putB_eq (r n : Nat) (s : Bs) (hr : r ≤ 1114111) : decide (putB r = s.take n) = decide (putN r = (natB s).take n) := by
  rw [decide_eq_decide, ← natB_inj, natB_putB r hr, natB_take]
theorem putV_eq (r : Nat) (hr : r ≤ 1114111) : (putV r).toList = (putB r).flatMap csU := by
  unfold putV
  rw [← natB_putB r hr]
  unfold natB csU
  induction putB r with
  | nil => rfl
  | cons b l ih => simp at ih ⊢; exact ih
theorem putB_len (r : Nat) : (putB r).length = (putN r).length := by simp [putB]
theorem put_str (r : Nat) (hr : r ≤ 1114111) (X : World) (c : Nat) : (convert 35 9 (.slice (some ⟨X.heap.size, 0, none⟩) (putN r).length c)).run Tryz.prog (X.alloc (.cells (putV r) 5 (0, 0))).drew = .ok (.string ⟨(putB r).toArray⟩) (X.alloc (.cells (putV r) 5 (0, 0))).drew := by
  rw [← putB_len]
  refine run_str_of (D := fun b => b = X.heap.size) (xs := putB r) ?_ c
  exact Rd.blk csU_len (hp_drew (hp_new X _)) (putV_eq r hr)
theorem nextU_take4 (s : Bs) : nextU (s.take 4) = nextU s := by
  rcases s with _ | ⟨a, s⟩
  · rfl
  · rw [List.take_succ_cons]
    simp only [nextU]
    cases hh : headN a.toNat with
    | none => rfl
    | some p =>
      obtain ⟨r, n⟩ := p
      have hn := headN_le hh
      simp only
      rw [List.take_take, Nat.min_eq_left hn.1]
      by_cases hl : s.length < n
      · rw [if_pos hl, if_pos (by rw [List.length_take]; omega)]
      · rw [if_neg hl, if_neg (by rw [List.length_take]; omega)]
def nextP (l : Bs) : Nat × Nat := (nextU l).getD (0, 0)
theorem tryR_hit {s : List Nat} {f n : Nat} (h : hitR n s = true) : tryR s (f + 1) n = some (numR n s, n) := by rw [tryR_go, if_pos h]
theorem tryR_no {s : List Nat} {f n : Nat} (h : hitR n s = false) : tryR s (f + 1) n = tryR s f (n + 1) := by rw [tryR_go, if_neg (by simp [h])]
theorem tryR_short {s : List Nat} : ∀ {f n : Nat}, s.length < n → tryR s f n = none
  | 0, _, _ => rfl
  | f + 1, n, h => by rw [tryR_no (hit_short h)]; exact tryR_short (by omega)
end Go.Proofs.YtmalclclopnlnaaGreat
/-
  The document's layer 1: the first rune, its walk.
-/
namespace Go.Proofs.YtmalclclopnlnaaGreat
open Go.RowKit Go.Shelf
attribute [local go_sem] Oper.semAt_some

set_option maxRecDepth 100000 in
set_option maxHeartbeats 4000000 in
theorem rnext_any (l : Bs) (w : World) (hl : l.length ≤ 4294967000) : Calls Tryz.prog 125 #[.string ⟨l.toArray⟩] w fun e w' => e = .returned (.tuple #[.int .i32 (nextP l).1, .int .i64 (nextP l).2]) ∧ Mod (fun _ => False) w w' := by
  obtain ⟨z, hz⟩ : ∃ z, z = nextP l := ⟨_, rfl⟩
  rw [← hz]
  obtain ⟨z1, z2⟩ := z
  simp only
  have HZ := Lib.hid hz
  have HN := Lib.hid (next_eq l)
  clear hz
  go_enter Tryz.func125, Tryz.ntmps125
  go_wp2
  go_loopw [4] (fun v wr => ∃ n : Nat, 1 ≤ n ∧ n ≤ 5 ∧ v = .int .i64 n ∧ tryR (natB l) (5 - n) n = nextU l ∧ Mod (fun _ => False) w wr) (fun v _ => 5 - (intOf v).toNat)
  case atStart => exact ⟨1, by omega, by omega, rfl, HN.out, Mod.refl _ _⟩
  case round =>
    obtain ⟨n, hn1, hn2, rfl, ht, hm⟩ := hrel
    have HT := Lib.hid ht
    have HM := Lib.hid hm
    clear ht hm HN
    by_cases hn4 : n ≤ 4
    · by_cases hnl : n ≤ l.length
      · go_wp2
        clear hn2
        go_loopw [5, 6, 7] (fun r i _c wr => ∃ k : Nat, k ≤ n ∧ i = .int .i64 k ∧ r = .int .i32 (partR n k (natB l)) ∧ Mod (fun _ => False) w wr) (fun _ i _ _ => n - (intOf i).toNat)
        case atStart => exact ⟨0, Nat.zero_le _, rfl, rfl, HM.out⟩
        case round =>
          obtain ⟨k, hk, rfl, rfl, hm2⟩ := hrel
          have HM2 := Lib.hid hm2
          have hb := partR_le n k (natB l) hn4 hk (natB_lt l)
          obtain ⟨q, hq⟩ : ∃ q, q = partR n k (natB l) := ⟨_, rfl⟩
          rw [← hq] at hb ⊢
          have HQ := Lib.hid hq
          clear hm2 hq
          by_cases hkn : k < n
          · have hkl : k < l.length := by omega
            obtain ⟨d, hd⟩ : ∃ d, d = l[k] := ⟨_, rfl⟩
            have h7 : ∀ h, (⟨l.toArray⟩ : ByteArray)[k]'h = d := fun h => by rw [hd]; rfl
            have hdn : (natB l)[k]'(by simpa [natB] using hkl) = d.toNat := by rw [hd]; simp [natB]
            have HD := Lib.hid hdn
            clear hdn hd
            by_cases hk0 : k = 0
            · subst hk0
              obtain rfl : q = 0 := HQ.out
              have hd8 := d.toNat_lt
              have HP := Lib.hid (show partR n 1 (natB l) = firstM n d.toNat by rw [partR_one n _ (by simpa [natB] using hkl), HD.out])
              rcases (show n = 1 ∨ n = 2 ∨ n = 3 ∨ n = 4 by omega) with rfl | rfl | rfl | rfl
              all_goals
                go_wp2
                exact ⟨⟨1, by omega, by go_num, by rw [HP.out]; simp [firstM], by have := HM2.out; (repeat' (first | exact Mod.refl _ _ | assumption | refine Mod.alloc ?_ _ | refine Mod.drew ?_ | refine Mod.drewN ?_ _ | refine Mod.setCell ?_ (by first | exact Or.inl rfl | (right; simp; done) | (right; simp; omega) | (left; simp; done)) _))⟩, by simp only [intOf]; omega⟩
            · obtain ⟨i, rfl⟩ : ∃ i, k = i + 1 := ⟨k - 1, by omega⟩
              have HP := Lib.hid (show partR n (i + 1 + 1) (natB l) = 64 * q + d.toNat % 64 by rw [partR_succ n i _ (by simpa [natB] using hkl), HD.out, HQ.out])
              have hd8 := d.toNat_lt
              go_wp2
              exact ⟨⟨i + 1 + 1, by omega, by go_num, by rw [HP.out]; go_num, HM2.out⟩, by simp only [intOf]; omega⟩
          · obtain rfl : k = n := by omega
            have HQ2 := Lib.hid (show numR k (natB l) = q by rw [← partR_num k _ (by omega), ← HQ.out])
            have HMay := Lib.hid (fun X => rmay_any (q : Int) X)
            rw [mayI_nat] at HMay
            have hlen : (natB l).length = l.length := by simp [natB]
            have hsl : ∀ h, (⟨l.toArray⟩ : ByteArray).extract 0 k = ⟨(l.take k).toArray⟩ := fun _ : True => by rw [mk_ext]; simp
            cases hmq : mayN q
            · have HT2 := Lib.hid (show tryR (natB l) (5 - (k + 1)) (k + 1) = nextU l by
                rw [← HT.out, show 5 - k = (5 - (k + 1)) + 1 by omega, tryR_no]
                unfold hitR; rw [HQ2.out, hmq]; simp)
              rw [hmq] at HMay
              clear hmq
              go_wp2
              go_quiet ((go_at_call 132; exact quiet_eq (HMay.out _)))
              go_wp2
              exact ⟨⟨k + 1, by omega, by omega, by go_num, HT2.out, by have := HM2.out; (repeat' (first | exact Mod.refl _ _ | assumption | refine Mod.alloc ?_ _ | refine Mod.drew ?_ | refine Mod.drewN ?_ _ | refine Mod.setCell ?_ (by first | exact Or.inl rfl | (right; simp; done) | (right; simp; omega) | (left; simp; done)) _))⟩, by simp only [intOf]; omega⟩
            · have hq1 : q ≤ 1114111 := mayN_le hmq
              have HPut := Lib.hid (fun X => rput_any q X hq1)
              have hpp := putN_pos q
              have hcv := put_str q hq1 wr (putN q).length
              have HY := Lib.hid (show (putB q == l.take k) = true → nextU l = some (q, k) from fun h => by
                rw [← HT.out, show 5 - k = (4 - k) + 1 by omega, tryR_hit, HQ2.out]
                unfold hitR
                rw [HQ2.out, hmq, ← putB_eq q k l hq1]
                have h' : putB q = l.take k := by simpa using h
                simp [h', hlen, hnl])
              have HNo := Lib.hid (show (putB q == l.take k) = false → tryR (natB l) (5 - (k + 1)) (k + 1) = nextU l from fun h => by
                rw [← HT.out, show 5 - k = (5 - (k + 1)) + 1 by omega, tryR_no]
                unfold hitR
                rw [HQ2.out, hmq, ← putB_eq q k l hq1]
                have h' : ¬ putB q = l.take k := by simpa using h
                simp [h'])
              rw [hmq] at HMay
              clear hmq
              go_wp2
              go_region_with (first
                | (go_at_call 132; refine (HMay.out _).mono ?_; rintro e w' ⟨rfl, rfl⟩)
                | (go_at_call 133; refine (HPut.out _).mono ?_; rintro e w' ⟨rfl, rfl⟩)
                | fail)
              all_goals
                go_wp2
              · have e : (putB q == l.take k) = true := by assumption
                have hz := HZ.out
                unfold nextP at hz
                rw [HY.out e] at hz
                cases hz
                go_ret2
                exact ⟨rfl, by have := HM2.out; (repeat' (first | exact Mod.refl _ _ | assumption | refine Mod.alloc ?_ _ | refine Mod.drew ?_ | refine Mod.drewN ?_ _ | refine Mod.setCell ?_ (by first | exact Or.inl rfl | (right; simp; done) | (right; simp; omega) | (left; simp; done)) _))⟩
              · have e : (putB q == l.take k) = false := by assumption
                exact ⟨⟨k + 1, by omega, by omega, by go_num, HNo.out e, by have := HM2.out; (repeat' (first | exact Mod.refl _ _ | assumption | refine Mod.alloc ?_ _ | refine Mod.drew ?_ | refine Mod.drewN ?_ _ | refine Mod.setCell ?_ (by first | exact Or.inl rfl | (right; simp; done) | (right; simp; omega) | (left; simp; done)) _))⟩, by simp only [intOf]; omega⟩
      · have hz := HZ.out
        unfold nextP at hz
        rw [← HT.out, tryR_short (by simp [natB]; omega)] at hz
        cases hz
        go_wp2
        go_ret2
        exact ⟨rfl, HM.out⟩
    · obtain rfl : n = 5 := by omega
      have hz := HZ.out
      unfold nextP at hz
      rw [← HT.out] at hz
      cases hz
      go_wp2
      go_ret2
      exact ⟨rfl, HM.out⟩
end Go.Proofs.YtmalclclopnlnaaGreat
/-
  The document's layer 1: a text's runes.
-/
namespace Go.Proofs.YtmalclclopnlnaaGreat
open Go.RowKit Go.Shelf
attribute [local go_sem] Oper.semAt_some

theorem i32s_tu : SliceT Tryz.prog 165 21 1 4 := SliceT.mk' (z := .int .i32 0) Tryz.underlying165 (by kernel_rfl) rfl (by decide)
set_option maxRecDepth 100000 in
set_option maxHeartbeats 4000000 in
theorem rdecode_any (l : Bs) (w : World) (hl : l.length ≤ 4294967000) : Calls Tryz.prog 111 #[.string ⟨l.toArray⟩] w fun e w' => ∃ v, e = .returned (.tuple #[v, .int .i64 (endU l)]) ∧ OwnS w.heap.size 21 1 csI w' v (natI (runesU l)) ∧ Mod (fun _ => False) w w' := by
  obtain ⟨z, hz⟩ : ∃ z, z = endU l := ⟨_, rfl⟩
  obtain ⟨rs, hrs⟩ : ∃ rs, rs = runesU l := ⟨_, rfl⟩
  rw [← hz, ← hrs]
  have HZ := Lib.hid hz
  have HRS := Lib.hid hrs
  clear hz hrs
  go_enter Tryz.func111, Tryz.ntmps111
  go_wp2
  go_loopw [4, 5] (fun v a wr => ∃ (o : Nat) (ns : List Nat), o ≤ l.length ∧ ns.length ≤ o ∧ a = .int .i64 o ∧ rs = ns ++ runesU (l.drop o) ∧ z = o + endU (l.drop o) ∧ OwnS w.heap.size 21 1 csI wr v (natI ns) ∧ Mod (fun _ => False) w wr) (fun _ a _ => l.length - (intOf a).toNat)
  case atStart => exact ⟨0, [], Nat.zero_le _, Nat.le_refl _, rfl, HRS.out, by rw [HZ.out]; simp, OwnS.nil _ _ _ _ _, Mod.refl _ _⟩
  case round =>
    obtain ⟨o, ns, ho, hno, rfl, hr, he, hown, hm⟩ := hrel
    have HR := Lib.hid hr
    have HE := Lib.hid he
    have HO := Lib.hid hown
    have HM := Lib.hid hm
    clear hr he hown hm
    by_cases hlt : o < l.length
    · obtain ⟨r, hr⟩ : ∃ r, r = l.drop o := ⟨_, rfl⟩
      have hrl : r.length = l.length - o := by rw [hr, List.length_drop]
      have hr2 : ∀ k, l.drop (o + k) = r.drop k := fun k => by rw [hr, List.drop_drop]
      have HNx := Lib.hid (fun X => rnext_any (r.take 4) X (by rw [List.length_take]; omega))
      have hnp : nextP (r.take 4) = nextP r := by unfold nextP; rw [nextU_take4]
      rw [hnp] at HNx
      rw [← hr] at HR HE
      have HR2 := Lib.hid hr2
      obtain ⟨s, hs⟩ : ∃ s, s = r.take 4 := ⟨_, rfl⟩
      rw [← hs] at HNx
      have hx1 : o + 4 < l.length → (⟨l.toArray⟩ : ByteArray).extract o (((o : Int) + 4).toNat) = ⟨s.toArray⟩ := fun h => by
        rw [mk_ext, hs, hr, show ((o : Int) + 4).toNat - o = 4 by omega]
      have hx2 : ¬ o + 4 < l.length → (⟨l.toArray⟩ : ByteArray).extract o l.length = ⟨s.toArray⟩ := fun h => by
        rw [mk_ext, hs, hr, List.take_of_length_le (by simp), List.take_of_length_le (by simp; omega)]
      have HX1 := Lib.hid hx1
      have HX2 := Lib.hid hx2
      obtain ⟨p, hp⟩ : ∃ p, p = nextU r := ⟨_, rfl⟩
      have HP := Lib.hid hp
      clear hnp hx1 hx2 hr hr2 hs hp
      have HPn := Lib.hid (show nextP r = p.getD (0, 0) by rw [HP.out]; rfl)
      rw [HPn.out] at HNx
      clear HPn
      rcases p with _ | ⟨x, m⟩
      · obtain ⟨h1, h2⟩ := runesU_none HP.out.symm
        rw [h1, List.append_nil] at HR
        rw [h2, Nat.add_zero] at HE
        clear h1 h2
        obtain rfl := HE.out
        obtain rfl := HR.out
        simp only [Option.getD_none] at HNx
        by_cases h4 : z + 4 < l.length
        case' pos => have hx := HX1.out h4
        case' neg => have hx := HX2.out h4
        all_goals
          go_wp2_with (first
            | (go_at_call 125; (with_reducible refine (HNx.out _).mono ?_); rintro e w' ⟨rfl, hm2⟩; have HM2 := Lib.hid (HM.out.trans' hm2); have HO2 := Lib.hid (HO.out.mod hm2 (fun _ _ => id)); clear hm2)
            | fail)
          go_ret2
          exact ⟨_, rfl, HO2.out, HM2.out⟩
      · have hp := nextU_pos HP.out.symm
        obtain ⟨h1, h2⟩ := runesU_some HP.out.symm
        rw [← HR2.out m] at h1 h2
        have HR3 := Lib.hid (show rs = (ns ++ [x]) ++ runesU (l.drop (o + m)) by rw [HR.out, h1]; simp)
        have HE3 := Lib.hid (show z = o + m + endU (l.drop (o + m)) by rw [HE.out, h2]; omega)
        have hm0 : 0 < m := hp.1
        have hm4 : m ≤ 4 := hp.2.1
        have hml : o + m ≤ l.length := by have := hp.2.2.1; omega
        have hnl := natI_len ns
        have HNI := Lib.hid (natI_snoc ns x)
        have HLN := Lib.hid hnl
        clear h1 h2 hp hnl
        simp only [Option.getD_some] at HNx
        by_cases h4 : o + 4 < l.length
        case' pos => have hx := HX1.out h4
        case' neg => have hx := HX2.out h4
        all_goals
          go_wp2_with (first
            | (go_at_call 125; (with_reducible refine (HNx.out _).mono ?_); rintro e w' ⟨rfl, hm2⟩; have HM2 := Lib.hid (HM.out.trans' hm2); have HO2 := Lib.hid (HO.out.mod hm2 (fun _ _ => id)); clear hm2)
            | (at_builtin
               refine wpList_app1 (w0 := w) (xs := natI ns) (y := (x : Int)) rfl (.tmp 26) (.tmp 28) rfl i32s_tu csI_len csI_one rfl HO2.out HM2.out rfl ?_ ?_ ?_ ?_
               · rfl
               · rw [HLN.out]; simp [maxLen]; omega
               · rw [HLN.out]; omega
               intro v' w2 hown2 hm2 _ _
               have HO3 := Lib.hid hown2
               have HM3 := Lib.hid hm2
               clear hown2 hm2)
            | fail)
          exact ⟨⟨o + m, ns ++ [x], by omega, by simp; omega, by go_num, HR3.out, HE3.out, by rw [HNI.out]; exact HO3.out, HM3.out⟩, by simp only [intOf]; omega⟩
    · obtain rfl : o = l.length := by omega
      have hd : l.drop l.length = [] := List.drop_length
      rw [hd] at HR HE
      have h1 : runesU ([] : Bs) = [] := rfl
      have h2 : endU ([] : Bs) = 0 := rfl
      rw [h1, List.append_nil] at HR
      rw [h2, Nat.add_zero] at HE
      clear hd h1 h2
      obtain rfl := HE.out
      obtain rfl := HR.out
      go_wp2
      go_ret2
      exact ⟨_, rfl, HO.out, HM.out⟩
theorem rvalid_any (l : Bs) (w : World) (hl : l.length ≤ 4294967000) : Calls Tryz.prog 83 #[.string ⟨l.toArray⟩] w fun e w' => e = .returned (.bool (validU l)) ∧ Mod (fun _ => False) w w' := by
  obtain ⟨r, hr⟩ : ∃ r, r = endU l := ⟨_, rfl⟩
  have HW := Lib.hid (rdecode_any l w hl)
  rw [← hr] at HW
  by_cases he : r = l.length
  · have hv : validU l = true := by unfold validU; rw [← hr, he]; simp
    rw [hv]
    subst he
    clear hv hr
    go_enter Tryz.func83, Tryz.ntmps83
    go_wp2_with (go_at_call 111; refine HW.out.mono ?_; rintro e w1 ⟨v, rfl, hown, hm⟩)
    go_ret
    exact ⟨rfl, hm⟩
  · have hv : validU l = false := by unfold validU; rw [← hr]; simp [he]
    rw [hv]
    have hb : ((r : Int) == (l.length : Int)) = false := by rw [beq_eq_false_iff_ne]; omega
    clear hv hr he
    go_enter Tryz.func83, Tryz.ntmps83
    go_wp2_with (go_at_call 111; refine HW.out.mono ?_; rintro e w1 ⟨v, rfl, hown, hm⟩)
    go_ret
    exact ⟨rfl, hm⟩
end Go.Proofs.YtmalclclopnlnaaGreat
