/-
  Ranges told by texts.
-/
import Derived.Test.YtpcenfeaoomfhaaDoorFieldsE
namespace Go.Proofs.YtpcenfeaoomfhaaDoor
open Go.RowKit Go.Shelf
attribute [local go_sem] Oper.semAt_some

def rangeV (o : Option (Nat × Nat)) : Value := .tuple #[.int .i32 (((o.getD (0, 0)).1 : Nat) : Int), .int .i32 (((o.getD (0, 0)).2 : Nat) : Int), .bool o.isSome]
theorem cuts_any (l sep : Bs) (w : World) (hm : MaxVar w) (hl : l.length < 4294967281) :
    Calls Tryd.prog 28 #[.string ⟨l.toArray⟩, .string ⟨sep.toArray⟩] w fun e w' => e = .returned (.tuple #[.string ⟨(Lib.cut l sep).1.toArray⟩, .string ⟨(Lib.cut l sep).2.1.toArray⟩, .bool (Lib.cut l sep).2.2]) ∧ Mod (fun _ => False) w w' := by
  obtain ⟨m, hm⟩ := hm
  have hcon := Any.strings_Cut Tryd.lays145 ⟨l.toArray⟩ ⟨sep.toArray⟩ m w hl hm
  change Calls Tryd.prog 28 _ _ (fun e w' => e = .returned (.tuple #[.string ⟨(Lib.cut l sep).1.toArray⟩, .string ⟨(Lib.cut l sep).2.1.toArray⟩, .bool (Lib.cut l sep).2.2]) ∧ ∃ n, w' = w.drewN n) at hcon
  refine hcon.mono ?_
  rintro e w' ⟨rfl, n, rfl⟩
  exact ⟨rfl, (Mod.refl _ w).drewN n⟩

set_option maxRecDepth 100000 in
set_option maxHeartbeats 2000000 in
theorem frange_any (l : Bs) (w : World) (hmx : MaxVar w) (hl : l.length < 4294967281) : Calls Tryd.prog 16 #[.string ⟨l.toArray⟩] w fun e w' => e = .returned (rangeV (rangeOf l)) ∧ Mod (fun _ => False) w w' := by
  have HCut := Lib.hid (cuts_any l [46, 46] w hmx hl)
  have h1 := cut_len l [46, 46]
  have h2 := cut_false (l := l) (sep := [46, 46])
  obtain ⟨R, hR⟩ : ∃ R, R = rangeOf l := ⟨_, rfl⟩
  rw [← hR]
  unfold rangeOf at hR
  generalize hp : (Lib.cut l [46, 46]).1 = p at *
  generalize hq : (Lib.cut l [46, 46]).2.1 = q at *
  generalize ht : (Lib.cut l [46, 46]).2.2 = two at *
  have HA := Lib.hid (fun X => fcode_any p X (by omega))
  have HB := Lib.hid (fun X => fcode_any q X (by omega))
  unfold codeV at HA HB
  cases two
  · have hpl := h2 rfl
    have HR := Lib.hid (show R = rng (codeOf p) (codeOf p) by rw [hR, hpl]; rfl)
    clear hR hp hq ht hmx h1 h2 hpl HB
    generalize codeOf p = oa at *
    cases oa with
    | none =>
      simp only [Option.getD_none, Option.isSome_none] at HA
      go_enter Tryd.func16, Tryd.ntmps16
      go_wp2_with (first
        | (go_at_call 28; refine HCut.out.mono ?_; rintro e w1 ⟨rfl, hm1⟩)
        | (go_at_call 10; refine (HA.out _).mono ?_; rintro e w2 ⟨rfl, hm2⟩)
        | fail)
      go_ret3
      exact ⟨by rw [HR.out]; rfl, hm1.trans' hm2⟩
    | some a =>
      have HR' := Lib.hid (show R = some (a, a) by rw [HR.out]; simp [rng])
      clear HR
      simp only [Option.getD_some, Option.isSome_some] at HA
      go_enter Tryd.func16, Tryd.ntmps16
      go_wp2_with (first
        | (go_at_call 28; refine HCut.out.mono ?_; rintro e w1 ⟨rfl, hm1⟩)
        | (go_at_call 10; refine (HA.out _).mono ?_; rintro e w2 ⟨rfl, hm2⟩)
        | fail)
      go_ret3
      exact ⟨by rw [HR'.out]; rfl, hm1.trans' hm2⟩
  · have HR := Lib.hid (show R = rng (codeOf p) (codeOf q) by rw [hR]; rfl)
    clear hR hp hq ht hmx h1 h2
    generalize codeOf p = oa at *
    generalize codeOf q = ob at *
    rcases oa with _ | a
    · have HR' := Lib.hid (show R = none by rw [HR.out]; rfl)
      clear HR
      simp only [Option.getD_none, Option.isSome_none] at HA
      go_enter Tryd.func16, Tryd.ntmps16
      go_wp2_with (first
        | (go_at_call 28; refine HCut.out.mono ?_; rintro e w1 ⟨rfl, hm1⟩)
        | (go_at_call 10; (with_reducible refine (HA.out _).mono ?_); rintro e w2 ⟨rfl, hm2⟩)
        | (go_at_call 10; (with_reducible refine (HB.out _).mono ?_); rintro e w3 ⟨rfl, hm3⟩)
        | fail)
      go_ret3
      exact ⟨by rw [HR'.out]; rfl, (hm1.trans' hm2).trans' hm3⟩
    rcases ob with _ | b
    · have HR' := Lib.hid (show R = none by rw [HR.out]; rfl)
      clear HR
      simp only [Option.getD_none, Option.isSome_none, Option.getD_some, Option.isSome_some] at HA HB
      go_enter Tryd.func16, Tryd.ntmps16
      go_wp2_with (first
        | (go_at_call 28; refine HCut.out.mono ?_; rintro e w1 ⟨rfl, hm1⟩)
        | (go_at_call 10; (with_reducible refine (HA.out _).mono ?_); rintro e w2 ⟨rfl, hm2⟩)
        | (go_at_call 10; (with_reducible refine (HB.out _).mono ?_); rintro e w3 ⟨rfl, hm3⟩)
        | fail)
      go_ret3
      exact ⟨by rw [HR'.out]; rfl, (hm1.trans' hm2).trans' hm3⟩
    by_cases hab : a ≤ b
    · have HR' := Lib.hid (show R = some (a, b) by rw [HR.out]; exact if_pos hab)
      have g1 : decide ((b : Int) < (a : Int)) = false := by simp; omega
      have g2 : decide (b < a) = false := by simp; omega
      clear HR
      simp only [Option.getD_some, Option.isSome_some] at HA HB
      go_enter Tryd.func16, Tryd.ntmps16
      go_wp2_with (first
        | (go_at_call 28; refine HCut.out.mono ?_; rintro e w1 ⟨rfl, hm1⟩)
        | (go_at_call 10; (with_reducible refine (HA.out _).mono ?_); rintro e w2 ⟨rfl, hm2⟩)
        | (go_at_call 10; (with_reducible refine (HB.out _).mono ?_); rintro e w3 ⟨rfl, hm3⟩)
        | fail)
      go_ret3
      exact ⟨by rw [HR'.out]; rfl, (hm1.trans' hm2).trans' hm3⟩
    · have HR' := Lib.hid (show R = none by rw [HR.out]; exact if_neg hab)
      have g1 : decide ((b : Int) < (a : Int)) = true := by simp; omega
      have g2 : decide (b < a) = true := by simp; omega
      clear HR
      simp only [Option.getD_some, Option.isSome_some] at HA HB
      go_enter Tryd.func16, Tryd.ntmps16
      go_wp2_with (first
        | (go_at_call 28; refine HCut.out.mono ?_; rintro e w1 ⟨rfl, hm1⟩)
        | (go_at_call 10; (with_reducible refine (HA.out _).mono ?_); rintro e w2 ⟨rfl, hm2⟩)
        | (go_at_call 10; (with_reducible refine (HB.out _).mono ?_); rintro e w3 ⟨rfl, hm3⟩)
        | fail)
      go_ret3
      exact ⟨by rw [HR'.out]; rfl, (hm1.trans' hm2).trans' hm3⟩

set_option maxRecDepth 100000 in
set_option maxHeartbeats 4000000 in
theorem rrange_any (l : Bs) (w : World) (hl : l.length ≤ 1099511627776) : Calls Tryd.prog 17 #[.string ⟨l.toArray⟩] w fun e w' => e = .returned (rangeV (rangeOf l)) ∧ w = w' := by
  obtain ⟨R, hR⟩ : ∃ R, R = rangeOf l := ⟨_, rfl⟩
  rw [← hR]
  have HR := Lib.hid hR
  clear hR
  go_enter Tryd.func17, Tryd.ntmps17
  go_wp2
  go_loop [5] (fun i => ∃ k : Nat, k ≤ l.length ∧ i = .int .i64 k ∧ Lib.NoOcc l [46, 46] k) (fun i => l.length - (intOf i).toNat)
  case atStart => exact ⟨0, Nat.zero_le _, rfl, Lib.NoOcc.zero _ _⟩
  case round =>
    obtain ⟨k, hk, rfl, hno⟩ := hrel
    have HNo := Lib.hid hno
    clear hno
    by_cases hlt : k + 1 < l.length
    · obtain ⟨b, hb⟩ : ∃ b, b = l[k] := ⟨_, rfl⟩
      obtain ⟨c, hc⟩ : ∃ c, c = l[k + 1] := ⟨_, rfl⟩
      have h7 : ∀ h, (⟨l.toArray⟩ : ByteArray)[k]'h = b := fun h => by rw [hb]; rfl
      have h8 : ∀ h, (⟨l.toArray⟩ : ByteArray)[k + 1]'h = c := fun h => by rw [hc]; rfl
      have hoc := occ_dots hlt
      rw [← hb, ← hc] at hoc
      have hk8 : ∀ x : UInt8, (x == 46) = ((x.toNat : Int) == 46) := fun x => by
        rw [Bool.eq_iff_iff, beq_iff_eq, beq_iff_eq, ← UInt8.toNat_inj]
        show x.toNat = 46 ↔ _
        omega
      rw [hk8, hk8] at hoc
      obtain ⟨x1, e1⟩ : ∃ x, ((b.toNat : Int) == 46) = x := ⟨_, rfl⟩
      obtain ⟨x2, e2⟩ : ∃ x, ((c.toNat : Int) == 46) = x := ⟨_, rfl⟩
      rw [e1, e2] at hoc
      have HOc := Lib.hid hoc
      clear hb hc hoc hk8
      by_cases hx : x1 = true ∧ x2 = true
      · obtain ⟨rfl, rfl⟩ := hx
        have hix := Lib.index_first (s := l) (sub := [46, 46]) (i := k) (by omega) HOc.out HNo.out
        have hcut := cut_at hix
        have HR2 := Lib.hid (show R = rng (codeOf (l.take k)) (codeOf (l.drop (k + 2))) by rw [HR.out]; unfold rangeOf; rw [hcut]; rfl)
        have x3 : (⟨l.toArray⟩ : ByteArray).extract 0 k = ⟨(l.take k).toArray⟩ := by rw [mk_ext]; simp
        have x4 : (⟨l.toArray⟩ : ByteArray).extract (k + 2) l.length = ⟨(l.drop (k + 2)).toArray⟩ := by
          rw [mk_ext, List.take_of_length_le (by simp)]
        have HA := Lib.hid (fun X => rcode_any (l.take k) X (by simp; omega))
        have HB := Lib.hid (fun X => rcode_any (l.drop (k + 2)) X (by simp; omega))
        unfold codeV at HA HB
        rw [← x3] at HA
        rw [← x4] at HB
        clear hix hcut x3 x4 HR
        generalize codeOf (l.take k) = oa at *
        generalize codeOf (l.drop (k + 2)) = ob at *
        rcases oa with _ | a
        · have HR' := Lib.hid (show R = none by rw [HR2.out]; rfl)
          clear HR2
          simp only [Option.getD_none, Option.isSome_none] at HA
          go_wp2_with (first
            | (go_at_call 15; (with_reducible refine (HA.out _).mono ?_); rintro e w2 ⟨rfl, rfl⟩)
            | (go_at_call 15; (with_reducible refine (HB.out _).mono ?_); rintro e w3 ⟨rfl, rfl⟩)
            | fail)
          go_ret3
          exact ⟨by rw [HR'.out]; rfl, rfl⟩
        rcases ob with _ | b
        · have HR' := Lib.hid (show R = none by rw [HR2.out]; rfl)
          clear HR2
          simp only [Option.getD_none, Option.isSome_none, Option.getD_some, Option.isSome_some] at HA HB
          go_wp2_with (first
            | (go_at_call 15; (with_reducible refine (HA.out _).mono ?_); rintro e w2 ⟨rfl, rfl⟩)
            | (go_at_call 15; (with_reducible refine (HB.out _).mono ?_); rintro e w3 ⟨rfl, rfl⟩)
            | fail)
          go_ret3
          exact ⟨by rw [HR'.out]; rfl, rfl⟩
        by_cases hab : a ≤ b
        · have HR' := Lib.hid (show R = some (a, b) by rw [HR2.out]; exact if_pos hab)
          have g1 : decide ((b : Int) < (a : Int)) = false := by simp; omega
          have g2 : decide (b < a) = false := by simp; omega
          clear HR2
          simp only [Option.getD_some, Option.isSome_some] at HA HB
          go_wp2_with (first
            | (go_at_call 15; (with_reducible refine (HA.out _).mono ?_); rintro e w2 ⟨rfl, rfl⟩)
            | (go_at_call 15; (with_reducible refine (HB.out _).mono ?_); rintro e w3 ⟨rfl, rfl⟩)
            | fail)
          go_ret3
          exact ⟨by rw [HR'.out]; rfl, rfl⟩
        · have HR' := Lib.hid (show R = none by rw [HR2.out]; exact if_neg hab)
          have g1 : decide ((b : Int) < (a : Int)) = true := by simp; omega
          have g2 : decide (b < a) = true := by simp; omega
          clear HR2
          simp only [Option.getD_some, Option.isSome_some] at HA HB
          go_wp2_with (first
            | (go_at_call 15; (with_reducible refine (HA.out _).mono ?_); rintro e w2 ⟨rfl, rfl⟩)
            | (go_at_call 15; (with_reducible refine (HB.out _).mono ?_); rintro e w3 ⟨rfl, rfl⟩)
            | fail)
          go_ret3
          exact ⟨by rw [HR'.out]; rfl, rfl⟩
      · have hno2 := Lib.hid (HNo.out.succ (by rw [HOc.out]; cases x1 <;> cases x2 <;> simp_all))
        cases x1
        · go_wp2
          exact ⟨⟨k + 1, by omega, by go_num, hno2.out⟩, by simp only [intOf]; omega⟩
        · cases x2
          · go_wp2
            exact ⟨⟨k + 1, by omega, by go_num, hno2.out⟩, by simp only [intOf]; omega⟩
          · exact absurd ⟨rfl, rfl⟩ hx
    · have hix : Lib.index l [46, 46] = -1 := Lib.index_none fun j hj => by
        by_cases hjk : j < k
        · exact HNo.out j hjk
        · cases ho : Lib.occAt l [46, 46] j with
          | false => rfl
          | true =>
            have := Lib.occAt_room ho
            simp at this
            omega
      have hcut := cut_not hix
      have HR2 := Lib.hid (show R = rng (codeOf l) (codeOf l) by rw [HR.out]; unfold rangeOf; rw [hcut]; rfl)
      have HA := Lib.hid (fun X => rcode_any l X (by omega))
      unfold codeV at HA
      clear hix hcut HR
      generalize codeOf l = oa at *
      cases oa with
      | none =>
        have HR' := Lib.hid (show R = none by rw [HR2.out]; rfl)
        clear HR2
        simp only [Option.getD_none, Option.isSome_none] at HA
        go_wp2_with (go_at_call 15; refine (HA.out _).mono ?_; rintro e w2 ⟨rfl, rfl⟩)
        go_ret3
        exact ⟨by rw [HR'.out]; rfl, rfl⟩
      | some a =>
        have HR' := Lib.hid (show R = some (a, a) by rw [HR2.out]; simp [rng])
        clear HR2
        simp only [Option.getD_some, Option.isSome_some] at HA
        go_wp2_with (go_at_call 15; refine (HA.out _).mono ?_; rintro e w2 ⟨rfl, rfl⟩)
        go_ret3
        exact ⟨by rw [HR'.out]; rfl, rfl⟩
end Go.Proofs.YtpcenfeaoomfhaaDoor
