/-
  The law EntryChanges: its walk.
-/
import Derived.Test.YtccnkcaagigceaaEntryR
namespace Go.Proofs.Ytccnkcaagigceaa
open Go.RowKit Go.Shelf
attribute [local go_sem] Oper.semAt_some

set_option maxRecDepth 100000 in
set_option maxHeartbeats 16000000 in
theorem entryChanges_any (A By : Option Addr) (c cy : Nat) (xs ys : List At) (a : At) (w : World) (hA : Rd (fun b => b < w.heap.size) w 2 At.cs A xs) (hB : Rd (fun b => b < w.heap.size) w 2 At.cs By ys) (hlx : xs.length ≤ maxLen) (hly : ys.length ≤ maxLen) (hfa : FitA a) :
    Calls Try.prog 5 #[.slice A xs.length c, .slice By ys.length cy, a.val] w fun e w' => e = .returned (.bool true) ∧ Mod (fun _ => False) w w' := by
  have HK := Lib.hid (fun X => known_any X)
  have HA := Lib.hid (fun X (hX : Mod (fun _ => False) w X) => (hA.mod hX (fun b hb => ⟨hb, id⟩)).mono (D' := fun b => b < X.heap.size) fun b hb => Nat.lt_of_lt_of_le hb hX.size)
  have HB := Lib.hid (fun X (hX : Mod (fun _ => False) w X) => (hB.mod hX (fun b hb => ⟨hb, id⟩)).mono (D' := fun b => b < X.heap.size) fun b hb => Nat.lt_of_lt_of_le hb hX.size)
  have HMx := Lib.hid (fun X (hX : Mod (fun _ => False) w X) => rmuch_any A c xs X (HA.out X hX) hlx)
  have HMy := Lib.hid (fun X (hX : Mod (fun _ => False) w X) => rmuch_any By cy ys X (HB.out X hX) hly)
  have hFx := Lib.hid (kat1 xs)
  have hFy := Lib.hid (kat1 ys)
  obtain ⟨W0, hW0⟩ : ∃ W0, W0 = w.alloc a.box := ⟨_, rfl⟩
  have hM0 : Mod (fun _ => False) w W0 := by subst hW0; exact (Mod.refl _ w).alloc _
  have hb0 : W0.heap[w.heap.size]? = some a.box := by subst hW0; exact hp_new w _
  have HM0 := Lib.hid hM0
  have HB0 := Lib.hid hb0
  have HW0 := Lib.hid hW0
  clear hM0 hb0 hW0
  obtain ⟨n, hn⟩ : ∃ n, n = xs.length := ⟨_, rfl⟩
  obtain ⟨m, hm⟩ : ∃ m, m = ys.length := ⟨_, rfl⟩
  obtain ⟨z1, hz1⟩ : ∃ z, z = muchB xs := ⟨_, rfl⟩
  obtain ⟨z2, hz2⟩ : ∃ z, z = muchB ys := ⟨_, rfl⟩
  rw [← hn] at HMx ⊢
  rw [← hm] at HMy ⊢
  rw [← hz1] at HMx hFx
  rw [← hz2] at HMy hFy
  have HN := Lib.hid hn
  have HM' := Lib.hid hm
  obtain ⟨aT, aV⟩ := a
  unfold At.box at HB0 HW0
  unfold At.val
  simp only at HB0 HW0 ⊢
  have hbox : ∀ X, Mod (fun _ => False) W0 X → X.cell? ⟨w.heap.size, 0, none⟩ = some (.string ⟨aT.toArray⟩) ∧ X.cell? ⟨w.heap.size, 1, none⟩ = some (.string ⟨aV.toArray⟩) := fun X hX =>
    ⟨hp_cell (hp_mod HB0.out hX id) 0, hp_cell (hp_mod HB0.out hX id) 1⟩
  have HBox := Lib.hid hbox
  clear hn hm hz1 hz2 hA hB hlx hly hbox
  cases z1
  case' true =>
    go_enter Try.func5, Try.ntmps5
    go_wp2_with (first
      | (go_at_call 14; rw [← HW0.out]; (with_reducible refine (HMx.out _ HM0.out).mono ?_); rintro e w1 ⟨rfl, hm1⟩; have b0 := HBox.out _ hm1)
      | (go_at_call 13; refine (HK.out _).mono ?_; rintro e w' ⟨rfl, hm⟩)
      | fail)
    go_ret
    exact ⟨rfl, (HM0.out.trans' hm1).trans' hm⟩
  have hfx := hFx.out rfl
  have hn120 : n ≤ 120 := by have := HN.out; have := hfx.1; omega
  cases z2
  case' true =>
    clear hfx
    go_enter Try.func5, Try.ntmps5
    go_wp2_with (first
      | (go_at_call 14; rw [← HW0.out]; (with_reducible refine (HMx.out _ HM0.out).mono ?_); rintro e w1 ⟨rfl, hm1⟩; have HM1 := Lib.hid (HM0.out.trans' hm1); clear hm1)
      | (go_at_call 14; (with_reducible refine (HMy.out _ HM1.out).mono ?_); rintro e w2 ⟨rfl, hm2⟩)
      | (go_at_call 13; refine (HK.out _).mono ?_; rintro e w' ⟨rfl, hm⟩)
      | fail)
    go_ret
    exact ⟨rfl, (HM1.out.trans' hm2).trans' hm⟩
  have hfy := hFy.out rfl
  have hm120 : m ≤ 120 := by have := HM'.out; have := hfy.1; omega
  by_cases h40 : 40 < n
  · clear hfx hfy
    go_enter Try.func5, Try.ntmps5
    go_wp2_with (first
      | (go_at_call 14; rw [← HW0.out]; (with_reducible refine (HMx.out _ HM0.out).mono ?_); rintro e w1 ⟨rfl, hm1⟩; have HM1 := Lib.hid (HM0.out.trans' hm1); clear hm1)
      | (go_at_call 14; (with_reducible refine (HMy.out _ HM1.out).mono ?_); rintro e w2 ⟨rfl, hm2⟩)
      | (go_at_call 13; refine (HK.out _).mono ?_; rintro e w' ⟨rfl, hm⟩)
      | fail)
    go_ret
    exact ⟨rfl, (HM1.out.trans' hm2).trans' hm⟩
  have hd40 : decide (40 < (n : Int)) = false := by rw [decide_eq_false_iff_not]; omega
  have hxl : xs.length ≤ 1099511627776 := by have := hfx.1; omega
  have hyl : ys.length ≤ 1099511627776 := by have := hfy.1; omega
  have HMa := Lib.hid (fun X (hX : Mod (fun _ => False) w X) => rmays_any A c xs X (HA.out X hX) hxl hfx.fitA)
  obtain ⟨z3, hz3⟩ : ∃ z, z = mayAs xs := ⟨_, rfl⟩
  rw [← HN.out, ← hz3] at HMa
  have HZ3 := Lib.hid hz3
  clear hz3
  cases z3
  case' false =>
    clear hfx hfy hxl hyl
    go_enter Try.func5, Try.ntmps5
    go_wp2_with (first
      | (go_at_call 14; rw [← HW0.out]; (with_reducible refine (HMx.out _ HM0.out).mono ?_); rintro e w1 ⟨rfl, hm1⟩; have HM1 := Lib.hid (HM0.out.trans' hm1); clear hm1)
      | (go_at_call 14; (with_reducible refine (HMy.out _ HM1.out).mono ?_); rintro e w2 ⟨rfl, hm2⟩; have HM2 := Lib.hid (HM1.out.trans' hm2); clear hm2)
      | (go_at_call 17; (with_reducible refine (HMa.out _ HM2.out).mono ?_); rintro e w3 ⟨rfl, hm3⟩)
      | (go_at_call 13; refine (HK.out _).mono ?_; rintro e w' ⟨rfl, hm⟩)
      | fail)
    go_ret
    exact ⟨rfl, (HM2.out.trans' hm3).trans' hm⟩
  have hmay : mayAs xs = true := HZ3.out.symm
  by_cases h9 : 9000 < aV.length ∨ 100 < aT.length
  · clear hfx hfy hxl hyl hmay
    rcases (show 9000 < aV.length ∨ (¬ 9000 < aV.length ∧ 100 < aT.length) by omega) with h9 | ⟨h9, h8⟩
    all_goals
      go_enter Try.func5, Try.ntmps5
      go_wp2_with (first
        | (go_at_call 14; rw [← HW0.out]; (with_reducible refine (HMx.out _ HM0.out).mono ?_); rintro e w1 ⟨rfl, hm1⟩; have HM1 := Lib.hid (HM0.out.trans' hm1); have HR1 := Lib.hid hm1; clear hm1)
        | (go_at_call 14; (with_reducible refine (HMy.out _ HM1.out).mono ?_); rintro e w2 ⟨rfl, hm2⟩; have HM2 := Lib.hid (HM1.out.trans' hm2); have HR2 := Lib.hid (HR1.out.trans' hm2); clear hm2)
        | (go_at_call 17; (with_reducible refine (HMa.out _ HM2.out).mono ?_); rintro e w3 ⟨rfl, hm3⟩; obtain ⟨b0, b1⟩ := HBox.out _ (HR2.out.trans' hm3))
        | (go_at_call 13; refine (HK.out _).mono ?_; rintro e w' ⟨rfl, hm⟩)
        | fail)
      go_ret
      exact ⟨rfl, (HM2.out.trans' hm3).trans' hm⟩
  -- the main case
  have h91 : decide (9000 < (aV.length : Int)) = false := by rw [decide_eq_false_iff_not]; omega
  have h92 : decide (100 < (aT.length : Int)) = false := by rw [decide_eq_false_iff_not]; omega
  have hx40 : xs.length ≤ 40 := by have := HN.out; omega
  have HCh := Lib.hid (fun B2 c2 zs X (hX : Mod (fun _ => False) w X) (hr : Rd (fun b => b < X.heap.size) X 2 At.cs B2 zs) (hz : zs.length ≤ 1099511627776) (hfz : ∀ a ∈ zs, FitA a) => achange_any A B2 c c2 xs zs X (HA.out X hX) hr hxl hz hfx.fitA hfz)
  unfold ChgEnds at HCh
  rw [← HN.out] at HCh
  obtain ⟨hn1, hn2⟩ := chg_none hmay
  have hC1 := fun X hX => HCh.out none 0 [] X hX (Rd.nil _ _ _ _ _) (by simp) (fun a h => by cases h)
  rw [hn1, hn2, ← HN.out] at hC1
  simp only [List.length_nil] at hC1
  have HC1 := Lib.hid hC1
  have HSm := Lib.hid (fun D1 A1 c1 X (hX : Mod (fun _ => False) w X) (h1 : Rd D1 X 2 At.cs A1 xs) (hd : ∀ b, D1 b → b < X.heap.size) => sameAttrs_any D1 _ A1 A c1 c xs xs X h1 (HA.out X hX) (by unfold maxLen; omega) (by unfold maxLen; omega) hd (fun b hb => hb))
  rw [decide_eq_true rfl, ← HN.out] at HSm
  have HAt := Lib.hid (fun X => rattr_any ⟨aT, aV⟩ X hfa.1 hfa.2)
  obtain ⟨E, hE⟩ : ∃ E, E = chgE xs ys := ⟨_, rfl⟩
  obtain ⟨R, hR⟩ : ∃ R, R = chgR xs ys := ⟨_, rfl⟩
  have hC4 := fun X hX => HCh.out By cy ys X hX (HB.out X hX) hyl hfy.fitA
  have hC5 := fun B2 c2 X hX hr => HCh.out B2 c2 ys.reverse X hX hr (by rw [List.length_reverse]; exact hyl) (fun a h => hfy.fitA a (List.mem_reverse.1 h))
  rw [← hE, ← hR, ← HM'.out] at hC4
  rw [(chg_rev xs ys).1, (chg_rev xs ys).2, ← hE, ← hR, List.length_reverse, ← HM'.out] at hC5
  have hRl : R.length ≤ 1000 := by
    rw [hR]
    have h1 := chgA_len xs ys
    have h2 := hfy.1
    unfold chgR
    split
    · omega
    · simp
  have HC4 := Lib.hid hC4
  have HC5 := Lib.hid hC5
  have hEE : ((E : Int) == (E : Int)) = true := by simp
  obtain ⟨r, hr⟩ : ∃ r, r = R.length := ⟨_, rfl⟩
  rw [← hr] at HC4 HC5 hRl
  have HRl := Lib.hid hr
  have HCa := Lib.hid (fun (h : mayA ⟨aT, aV⟩ = true) => And.intro (chg_one hmay hx40 h) (chg_one hmay hx40 (mayA_nil h)))
  have HFa := Lib.hid hfa
  obtain ⟨ma, hma⟩ : ∃ ma, ma = mayA ⟨aT, aV⟩ := ⟨_, rfl⟩
  rw [← hma] at HAt HCa
  unfold At.val at HAt
  simp only at HAt
  have HHas := Lib.hid (fun y X (hX : Mod (fun _ => False) w X) => has_any _ A c xs y X (HA.out X hX) (by unfold maxLen; omega) (fun b hb => hb))
  rw [← HN.out] at HHas
  clear hC1 hC4 hC5 hn1 hn2 hmay hfx hfy hxl hyl hx40 hE hR hr hma hfa h9 h40 hFx hFy HZ3
  cases ma
  case' false =>
    go_enter Try.func5, Try.ntmps5
    go_wp2_with (first
    | (go_at_call 14; rw [← HW0.out]; (with_reducible refine (HMx.out _ HM0.out).mono ?_); rintro e w1 ⟨rfl, hm1⟩; have HM1 := Lib.hid (HM0.out.trans' hm1); have HR1 := Lib.hid hm1; clear hm1)
    | (go_at_call 14; (with_reducible refine (HMy.out _ HM1.out).mono ?_); rintro e w2 ⟨rfl, hm2⟩; have HM2 := Lib.hid (HM1.out.trans' hm2); have HR2 := Lib.hid (HR1.out.trans' hm2); clear hm2)
    | (go_at_call 17
       (with_reducible refine (HMa.out _ HM2.out).mono ?_)
       rintro e w3 ⟨rfl, hm3⟩
       obtain ⟨b0, b1⟩ := HBox.out _ (HR2.out.trans' hm3)
       have HM3 := Lib.hid (HM2.out.trans' hm3)
       have HR3 := Lib.hid (HR2.out.trans' hm3)
       clear hm3)
    | (go_at_call 8
       (with_reducible refine (HC1.out _ HM3.out).mono ?_)
       rintro e w4 ⟨A4, c4, rfl, hown, hm4⟩
       have HM4 := Lib.hid (HM3.out.trans' hm4)
       have HR4 := Lib.hid (HR3.out.trans' hm4)
       obtain ⟨A4', c4', hv4, hr4, hf4, -⟩ := hown.rd At.cs_len
       injection hv4 with hv1 hv2 hv3
       have HRd4 := Lib.hid hr4
       have HFr4 := Lib.hid (fun b hb => (hf4 b hb).2)
       rw [← hv1] at HRd4
       clear hm4 hown hr4 hf4 hv1 hv2 hv3 b0 b1 HC1)
    | (go_at_call 12; refine (num_any _ _).mono ?_; rintro e w' ⟨rfl, rfl⟩)
    | (go_at_call 20
       (with_reducible refine (HSm.out _ A4 c4 _ HM4.out HRd4.out HFr4.out).mono ?_)
       rintro e w5 ⟨rfl, hm5⟩
       obtain ⟨b0, b1⟩ := HBox.out _ (HR4.out.trans' hm5)
       have HM5 := Lib.hid (HM4.out.trans' hm5)
       have HR5 := Lib.hid (HR4.out.trans' hm5)
       clear hm5)
    | (go_at_call 15
       (with_reducible refine (HAt.out _).mono ?_)
       rintro e w6 ⟨rfl, hm6⟩
       have HM6 := Lib.hid (HM5.out.trans' hm6)
       have HR6 := Lib.hid (HR5.out.trans' hm6)
       obtain ⟨b0, b1⟩ := HBox.out _ HR6.out
       have hbl := World.block_lt_of_cell? _ _ b0
       clear hm6)
    | fail)
    have HMs := Lib.hid HM6.out
    clear b0 b1
    go_loopw [14, 15] (fun o i wr => ∃ k : Nat, k ≤ m ∧ i = .int .i64 ((k : Int) - 1) ∧ OwnS w.heap.size 25 2 At.cs wr o (ys.drop k).reverse ∧ Mod (fun _ => False) w wr) (fun _ i _ => (intOf i + 1).toNat)
    case atStart => exact ⟨m, Nat.le_refl _, by first | rfl | go_num, by rw [HM'.out, List.drop_length]; exact OwnS.nil _ _ _ _ _, HMs.out⟩
    case round =>
      obtain ⟨k, hk, rfl, hown, hm⟩ := hrel
      have HO := Lib.hid hown
      have HM := Lib.hid hm
      clear hown hm
      rcases k with _ | j
      · rw [List.drop_zero] at HO
        obtain ⟨A8, c8, hv8, hr8, hf8, -⟩ := HO.out.rd At.cs_len
        rw [List.length_reverse, ← HM'.out] at hv8
        subst hv8
        have HRd8 := Lib.hid (hr8.mono (D' := fun b => b < wr.heap.size) fun b hb => (hf8 b hb).2)
        clear hr8 hf8 HO
        go_wp2_with (first
          | (go_at_call 8
             (with_reducible refine (HC4.out _ HM.out).mono ?_)
             rintro e w9 ⟨A9, c9, rfl, hown, hm9⟩
             have HM9 := Lib.hid (HM.out.trans' hm9)
             obtain ⟨A9', c9', hv9, hr9, hf9, -⟩ := hown.rd At.cs_len
             injection hv9 with hv1 hv2 hv3
             rw [← hv1] at hr9
             have HRd9 := Lib.hid hr9
             have HFr9 := Lib.hid (fun b hb => (hf9 b hb).2)
             have HRd8' := Lib.hid ((HRd8.out.mod hm9 (fun b hb => ⟨hb, id⟩)).mono (D' := fun b => b < w9.heap.size) fun b hb => Nat.lt_of_lt_of_le hb hm9.size)
             clear hm9 hown hr9 hf9 hv1 hv2 hv3 HC4)
          | (go_at_call 8
             (with_reducible refine (HC5.out A8 c8 _ HM9.out HRd8'.out).mono ?_)
             rintro e w10 ⟨A10, c10, rfl, hown, hm10⟩
             have HM10 := Lib.hid (HM9.out.trans' hm10)
             obtain ⟨A10', c10', hv10, hr10, hf10, -⟩ := hown.rd At.cs_len
             injection hv10 with hv1 hv2 hv3
             rw [← hv1] at hr10
             have hsa := sameAttrs_any _ _ A9 A10 c9 c10 R R w10 (HRd9.out.mod hm10 (fun b hb => ⟨HFr9.out b hb, id⟩)) hr10 (by rw [← HRl.out]; unfold maxLen; omega) (by rw [← HRl.out]; unfold maxLen; omega) (fun b hb => Nat.lt_of_lt_of_le (HFr9.out b hb) hm10.size) (fun b hb => (hf10 b hb).2)
             rw [decide_eq_true rfl, ← HRl.out] at hsa
             have HSa := Lib.hid hsa
             clear hm10 hown hr10 hf10 hv1 hv2 hv3 hsa)
          | (go_at_call 12; refine (num_any _ _).mono ?_; rintro e w' ⟨rfl, rfl⟩)
          | (go_at_call 20
             (with_reducible refine HSa.out.mono ?_)
             rintro e w11 ⟨rfl, hm11⟩
             have HM11 := Lib.hid (HM10.out.trans' hm11)
             clear hm11)
          | (go_at_call 13; refine (HK.out _).mono ?_; rintro e w12 ⟨rfl, hm12⟩)
          | fail)
        go_ret
        exact ⟨rfl, HM11.out.trans' hm12⟩
      · have hjy : j < ys.length := by rw [← HM'.out]; omega
        obtain ⟨b1, o1, rfl, -, p0, p1⟩ := rd2 (HB.out _ HM.out) hjy
        obtain ⟨x, hx⟩ : ∃ x, x = ys[j] := ⟨_, rfl⟩
        rw [← hx] at p0 p1
        have HX := Lib.hid (show (ys.drop j).reverse = (ys.drop (j + 1)).reverse ++ [x] by rw [List.drop_eq_getElem_cons hjy, List.reverse_cons, ← hx])
        have HLn := Lib.hid (show (ys.drop (j + 1)).reverse.length ≤ 120 by rw [List.length_reverse, List.length_drop, ← HM'.out]; omega)
        clear hx
        obtain ⟨xT, xV⟩ := x
        simp only at p0 p1
        go_wp2_with (first
          | (at_builtin
             refine wpList_app1 (w0 := w) (xs := (ys.drop (j + 1)).reverse) (y := ⟨xT, xV⟩) rfl (.tmp 126) (.tmp 131) rfl ats_t At.cs_len At.cs_one rfl HO.out HM.out rfl ?_ ?_ ?_ ?_
             · rfl
             · have := HLn.out; unfold maxLen; omega
             · have := HLn.out; omega
             intro v' w6 hown2 hm2 _ _
             have HO2 := Lib.hid hown2
             have HM2 := Lib.hid hm2
             clear hown2 hm2)
          | fail)
        exact ⟨⟨j, by omega, by first | rfl | go_num, by rw [HX.out]; exact HO2.out, HM2.out⟩, by simp only [intOf]; omega⟩
  case' true =>
    obtain ⟨he1, he2⟩ : chgE xs [⟨aT, aV⟩] = 0 ∧ chgE xs [⟨aT, []⟩] = 0 := HCa.out rfl
    obtain ⟨R1, hR1⟩ : ∃ R1, R1 = chgR xs [⟨aT, aV⟩] := ⟨_, rfl⟩
    obtain ⟨R2, hR2⟩ : ∃ R2, R2 = chgR xs [⟨aT, []⟩] := ⟨_, rfl⟩
    have hC2 := fun g X hX (h : X.heap[g]? = some (.cells #[.string ⟨aT.toArray⟩, .string ⟨aV.toArray⟩] 25 (0, 0))) => HCh.out (some ⟨g, 0, none⟩) 1 [⟨aT, aV⟩] X hX ((Rd.one (cs := At.cs) (x := (⟨aT, aV⟩ : At)) h rfl).mono fun b hb => by subst hb; exact hp_lt h) (by simp) (fun a ha => by rw [List.mem_singleton] at ha; rw [ha]; exact HFa.out)
    have hC3 := fun g X hX (h : X.heap[g]? = some (.cells #[.string ⟨aT.toArray⟩, .string ⟨#[]⟩] 25 (0, 0))) => HCh.out (some ⟨g, 0, none⟩) 1 [⟨aT, []⟩] X hX ((Rd.one (cs := At.cs) (x := (⟨aT, []⟩ : At)) h rfl).mono fun b hb => by subst hb; exact hp_lt h) (by simp) (fun a ha => by rw [List.mem_singleton] at ha; rw [ha]; exact ⟨HFa.out.1, by simp⟩)
    have hin1 := chg_one_mem he1
    have hin2 := chg_gone he2
    rw [he1, ← hR1] at hC2
    rw [he2, ← hR2] at hC3
    rw [← hR1] at hin1
    rw [← hR2] at hin2
    have hl1 : R1.length ≤ 200 := by
      rw [hR1, chgR_ok he1]
      have h5 := chgA_len xs [⟨aT, aV⟩]
      have h6 := HN.out
      simp at h5; omega
    have hl2 : R2.length ≤ 200 := by
      rw [hR2, chgR_ok he2]
      have h5 := chgA_len xs [⟨aT, []⟩]
      have h6 := HN.out
      simp at h5; omega
    obtain ⟨q1, hq1⟩ : ∃ q1, q1 = R1.length := ⟨_, rfl⟩
    obtain ⟨q2, hq2⟩ : ∃ q2, q2 = R2.length := ⟨_, rfl⟩
    rw [← hq1] at hC2
    rw [← hq2] at hC3
    simp only [List.length_cons, List.length_nil, Nat.zero_add] at hC2 hC3
    have HC2 := Lib.hid hC2
    have HC3 := Lib.hid hC3
    have HIn1 := Lib.hid hin1
    have HIn2 := Lib.hid hin2
    have HQ1 := Lib.hid (And.intro hq1 hl1)
    have HQ2 := Lib.hid (And.intro hq2 hl2)
    have hq2b : q2 ≤ 200 := by omega
    clear hC2 hC3 hin1 hin2 he1 he2 hR1 hR2 hl1 hl2 hq1 hq2
    obtain ⟨vb, hvb⟩ : ∃ vb, vb = decide (aV = []) := ⟨_, rfl⟩
    have hv1 : (aV != ([] : Bs)) = !vb := by rw [hvb, Bool.eq_iff_iff]; simp
    have hv2 : (aV == ([] : Bs)) = vb := by rw [hvb, Bool.eq_iff_iff]; simp
    have hv3 : aV.isEmpty = vb := by rw [hvb, Bool.eq_iff_iff]; simp
    rw [← hvb] at HIn1
    clear hvb
    have tok1 : True := trivial
    go_enter Try.func5, Try.ntmps5
    go_wp2_with (first
    | (go_at_call 14; rw [← HW0.out]; (with_reducible refine (HMx.out _ HM0.out).mono ?_); rintro e w1 ⟨rfl, hm1⟩; have HM1 := Lib.hid (HM0.out.trans' hm1); have HR1 := Lib.hid hm1; clear hm1)
    | (go_at_call 14; (with_reducible refine (HMy.out _ HM1.out).mono ?_); rintro e w2 ⟨rfl, hm2⟩; have HM2 := Lib.hid (HM1.out.trans' hm2); have HR2 := Lib.hid (HR1.out.trans' hm2); clear hm2)
    | (go_at_call 17
       (with_reducible refine (HMa.out _ HM2.out).mono ?_)
       rintro e w3 ⟨rfl, hm3⟩
       obtain ⟨b0, b1⟩ := HBox.out _ (HR2.out.trans' hm3)
       have HM3 := Lib.hid (HM2.out.trans' hm3)
       have HR3 := Lib.hid (HR2.out.trans' hm3)
       clear hm3)
    | (go_at_call 8
       (with_reducible refine (HC1.out _ HM3.out).mono ?_)
       rintro e w4 ⟨A4, c4, rfl, hown, hm4⟩
       have HM4 := Lib.hid (HM3.out.trans' hm4)
       have HR4 := Lib.hid (HR3.out.trans' hm4)
       obtain ⟨A4', c4', hv4, hr4, hf4, -⟩ := hown.rd At.cs_len
       injection hv4 with hv1 hv2 hv3
       have HRd4 := Lib.hid hr4
       have HFr4 := Lib.hid (fun b hb => (hf4 b hb).2)
       rw [← hv1] at HRd4
       clear hm4 hown hr4 hf4 hv1 hv2 hv3 b0 b1 HC1)
    | (go_at_call 12; refine (num_any _ _).mono ?_; rintro e w' ⟨rfl, rfl⟩)
    | (go_at_call 20
       (with_reducible refine (HSm.out _ A4 c4 _ HM4.out HRd4.out HFr4.out).mono ?_)
       rintro e w5 ⟨rfl, hm5⟩
       obtain ⟨b0, b1⟩ := HBox.out _ (HR4.out.trans' hm5)
       have HM5 := Lib.hid (HM4.out.trans' hm5)
       have HR5 := Lib.hid (HR4.out.trans' hm5)
       clear hm5)
    | (go_at_call 15
       (with_reducible refine (HAt.out _).mono ?_)
       rintro e w6 ⟨rfl, hm6⟩
       have HM6 := Lib.hid (HM5.out.trans' hm6)
       have HR6 := Lib.hid (HR5.out.trans' hm6)
       obtain ⟨b0, b1⟩ := HBox.out _ HR6.out
       have hbl := World.block_lt_of_cell? _ _ b0
       clear hm6)
    | (go_at_call 8
       have _t := tok1
       (with_reducible refine (HC2.out w6.heap.size _ (HM6.out.alloc _) (by exact hp_new _ _)).mono ?_)
       rintro e w7 ⟨A7, c7, rfl, hown, hm7⟩
       have HM7 := Lib.hid ((HM6.out.alloc _).trans' hm7)
       have HR7 := Lib.hid ((HR6.out.alloc _).trans' hm7)
       obtain ⟨A7', c7', hv7, hr7, hf7, -⟩ := hown.rd At.cs_len
       injection hv7 with hx1 hx2 hx3
       rw [← hx1] at hr7
       have HRd7 := Lib.hid hr7
       have HFr7 := Lib.hid (fun b hb => (hf7 b hb).2)
       obtain ⟨b0, b1⟩ := HBox.out _ HR7.out
       clear hm7 hown hr7 hf7 hx1 hx2 hx3 tok1)
    | (go_at_call 8
       (with_reducible refine (HC3.out w7.heap.size _ (HM7.out.alloc _) (by exact hp_new _ _)).mono ?_)
       rintro e w8 ⟨A8, c8, rfl, hown, hm8⟩
       have HM8 := Lib.hid ((HM7.out.alloc _).trans' hm8)
       have HR8 := Lib.hid ((HR7.out.alloc _).trans' hm8)
       obtain ⟨A8', c8', hv8, hr8, hf8, -⟩ := hown.rd At.cs_len
       injection hv8 with hx1 hx2 hx3
       rw [← hx1] at hr8
       have HRd8 := Lib.hid hr8
       have HFr8 := Lib.hid (fun b hb => (hf8 b hb).2)
       have HHs := Lib.hid (fun X (hX : Mod (fun _ => False) w8 X) => ehas_any _ A7 c7 R1 ⟨aT, aV⟩ X (HRd7.out.mod (C := fun _ => False) ((((Mod.refl _ w7).alloc _).trans' hm8).trans' hX) (fun b hb => ⟨HFr7.out b hb, id⟩)) (fun b hb => Nat.lt_of_lt_of_le (HFr7.out b hb) ((((Mod.refl (fun _ => False) w7).alloc _).trans' hm8).trans' hX).size) (by have := HQ1.out.2; unfold maxLen; omega))
       rw [HIn1.out, ← HQ1.out.1] at HHs
       clear hm8 hown hr8 hf8 hx1 hx2 hx3)
    | fail)
    unfold At.val at HHs
    simp only at HHs
    obtain ⟨b0', b1'⟩ := HBox.out _ HR8.out
    have b0r := cell_regrown b0'
    have b1r := cell_regrown b1'
    clear b0 b1 b0' b1'
    cases vb
    all_goals
      simp only [Bool.not_true, Bool.not_false] at HHs
      refine wp_region_quiet_below (by kernel_rfl) (by kernel_rfl) ?_
      repeat (go_big_quiet_step ((first
        | (go_at_call 12; exact regE fun X _ => num_any _ X)
        | (go_at_call 21; exact regM fun X hX => HHs.out X hX)
        | fail)))
      refine wpQuiet_nil ?_
      intro W9 hW9
      have HM9 := Lib.hid (HM8.out.trans' (mod_of_regrown hW9))
      have HR9 := Lib.hid (HR8.out.trans' (mod_of_regrown hW9))
      have HRd9 := Lib.hid (HRd8.out.mod (mod_of_regrown hW9) (fun b hb => ⟨HFr8.out b hb, id⟩))
      have HFr9 := Lib.hid (fun b hb => Nat.lt_of_lt_of_le (HFr8.out b hb) (mod_of_regrown hW9).size)
      clear hW9 b0r b1r
      go_wp2
      go_loopw [13] (fun i wr => ∃ k : Nat, k ≤ q2 ∧ i = .int .i64 k ∧ Mod (fun _ => False) W9 wr) (fun i _ => q2 - (intOf i).toNat)
      case atStart => exact ⟨0, by omega, rfl, Mod.refl _ _⟩
      case round =>
        obtain ⟨k, hk, rfl, hm⟩ := hrel
        have HMr := Lib.hid hm
        clear hm
        by_cases hlt : k < q2
        · have hkx : k < R2.length := by rw [← HQ2.out.1]; exact hlt
          obtain ⟨b1, o1, rfl, -, p0, p1⟩ := rd2 (HRd9.out.mod HMr.out (fun b hb => ⟨HFr9.out b hb, id⟩)) hkx
          obtain ⟨x, hx⟩ : ∃ x, x = R2[k] := ⟨_, rfl⟩
          rw [← hx] at p0 p1
          have hin := HIn2.out x (by rw [hx]; exact List.getElem_mem hkx)
          have hne : (x.T == aT) = false := by rw [beq_eq_false_iff_ne]; exact hin.1
          have HH := Lib.hid (fun X hX => HHas.out x X hX)
          rw [decide_eq_true hin.2] at HH
          clear hx hin
          obtain ⟨xT, xV⟩ := x
          unfold At.val at HH
          simp only at p0 p1 hne HH
          have q0 := cell_regrown p0
          have q1 := cell_regrown p1
          obtain ⟨b0', b1'⟩ := HBox.out _ (HR9.out.trans' HMr.out)
          have b0r := cell_regrown b0'
          have b1r := cell_regrown b1'
          clear p0 p1 b0' b1'
          go_wp2
          refine wp_region_quiet_below (by kernel_rfl) (by kernel_rfl) ?_
          repeat (go_big_quiet_step ((first
            | (go_at_call 22; exact regM fun X hX => HH.out X ((HM9.out.trans' HMr.out).trans' hX))
            | fail)))
          refine wpQuiet_nil ?_
          intro W10 hW10
          have HM10 := Lib.hid (HMr.out.trans' (mod_of_regrown hW10))
          clear hW10 b0r b1r q0 q1
          go_wp2
          exact ⟨⟨k + 1, by omega, by go_num, HM10.out⟩, by simp only [intOf]; omega⟩
        · obtain rfl : k = q2 := by omega
          have HMs := Lib.hid (HM9.out.trans' HMr.out)
          have hkk : decide ((k : Int) < (k : Int)) = false := by simp
          go_wp2
          go_loopw [14, 15] (fun o i wr => ∃ k : Nat, k ≤ m ∧ i = .int .i64 ((k : Int) - 1) ∧ OwnS w.heap.size 25 2 At.cs wr o (ys.drop k).reverse ∧ Mod (fun _ => False) w wr) (fun _ i _ => (intOf i + 1).toNat)
          case atStart => exact ⟨m, Nat.le_refl _, by first | rfl | go_num, by rw [HM'.out, List.drop_length]; exact OwnS.nil _ _ _ _ _, HMs.out⟩
          case round =>
            obtain ⟨k, hk, rfl, hown, hm⟩ := hrel
            have HO := Lib.hid hown
            have HM := Lib.hid hm
            clear hown hm
            rcases k with _ | j
            · rw [List.drop_zero] at HO
              obtain ⟨A8, c8, hv8, hr8, hf8, -⟩ := HO.out.rd At.cs_len
              rw [List.length_reverse, ← HM'.out] at hv8
              subst hv8
              have HRd8 := Lib.hid (hr8.mono (D' := fun b => b < wr.heap.size) fun b hb => (hf8 b hb).2)
              clear hr8 hf8 HO
              go_wp2_with (first
                | (go_at_call 8
                   (with_reducible refine (HC4.out _ HM.out).mono ?_)
                   rintro e w9 ⟨A9, c9, rfl, hown, hm9⟩
                   have HM9 := Lib.hid (HM.out.trans' hm9)
                   obtain ⟨A9', c9', hv9, hr9, hf9, -⟩ := hown.rd At.cs_len
                   injection hv9 with hv1 hv2 hv3
                   rw [← hv1] at hr9
                   have HRd9 := Lib.hid hr9
                   have HFr9 := Lib.hid (fun b hb => (hf9 b hb).2)
                   have HRd8' := Lib.hid ((HRd8.out.mod hm9 (fun b hb => ⟨hb, id⟩)).mono (D' := fun b => b < w9.heap.size) fun b hb => Nat.lt_of_lt_of_le hb hm9.size)
                   clear hm9 hown hr9 hf9 hv1 hv2 hv3 HC4)
                | (go_at_call 8
                   (with_reducible refine (HC5.out A8 c8 _ HM9.out HRd8'.out).mono ?_)
                   rintro e w10 ⟨A10, c10, rfl, hown, hm10⟩
                   have HM10 := Lib.hid (HM9.out.trans' hm10)
                   obtain ⟨A10', c10', hv10, hr10, hf10, -⟩ := hown.rd At.cs_len
                   injection hv10 with hv1 hv2 hv3
                   rw [← hv1] at hr10
                   have hsa := sameAttrs_any _ _ A9 A10 c9 c10 R R w10 (HRd9.out.mod hm10 (fun b hb => ⟨HFr9.out b hb, id⟩)) hr10 (by rw [← HRl.out]; unfold maxLen; omega) (by rw [← HRl.out]; unfold maxLen; omega) (fun b hb => Nat.lt_of_lt_of_le (HFr9.out b hb) hm10.size) (fun b hb => (hf10 b hb).2)
                   rw [decide_eq_true rfl, ← HRl.out] at hsa
                   have HSa := Lib.hid hsa
                   clear hm10 hown hr10 hf10 hv1 hv2 hv3 hsa)
                | (go_at_call 12; refine (num_any _ _).mono ?_; rintro e w' ⟨rfl, rfl⟩)
                | (go_at_call 20
                   (with_reducible refine HSa.out.mono ?_)
                   rintro e w11 ⟨rfl, hm11⟩
                   have HM11 := Lib.hid (HM10.out.trans' hm11)
                   clear hm11)
                | (go_at_call 13; refine (HK.out _).mono ?_; rintro e w12 ⟨rfl, hm12⟩)
                | fail)
              go_ret
              exact ⟨rfl, HM11.out.trans' hm12⟩
            · have hjy : j < ys.length := by rw [← HM'.out]; omega
              obtain ⟨b1, o1, rfl, -, p0, p1⟩ := rd2 (HB.out _ HM.out) hjy
              obtain ⟨x, hx⟩ : ∃ x, x = ys[j] := ⟨_, rfl⟩
              rw [← hx] at p0 p1
              have HX := Lib.hid (show (ys.drop j).reverse = (ys.drop (j + 1)).reverse ++ [x] by rw [List.drop_eq_getElem_cons hjy, List.reverse_cons, ← hx])
              have HLn := Lib.hid (show (ys.drop (j + 1)).reverse.length ≤ 120 by rw [List.length_reverse, List.length_drop, ← HM'.out]; omega)
              clear hx
              obtain ⟨xT, xV⟩ := x
              simp only at p0 p1
              go_wp2_with (first
                | (at_builtin
                   refine wpList_app1 (w0 := w) (xs := (ys.drop (j + 1)).reverse) (y := ⟨xT, xV⟩) rfl (.tmp 126) (.tmp 131) rfl ats_t At.cs_len At.cs_one rfl HO.out HM.out rfl ?_ ?_ ?_ ?_
                   · rfl
                   · have := HLn.out; unfold maxLen; omega
                   · have := HLn.out; omega
                   intro v' w6 hown2 hm2 _ _
                   have HO2 := Lib.hid hown2
                   have HM2 := Lib.hid hm2
                   clear hown2 hm2)
                | fail)
              exact ⟨⟨j, by omega, by first | rfl | go_num, by rw [HX.out]; exact HO2.out, HM2.out⟩, by simp only [intOf]; omega⟩
end Go.Proofs.Ytccnkcaagigceaa
