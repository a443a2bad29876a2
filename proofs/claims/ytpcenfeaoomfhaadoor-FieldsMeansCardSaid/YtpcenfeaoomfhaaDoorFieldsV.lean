/-
  The law FieldsMeans: its walk.
-/
import Derived.Test.YtpcenfeaoomfhaaDoorFieldsT
import Derived.Test.YtpcenfeaoomfhaaDoorFieldsU
namespace Go.Proofs.YtpcenfeaoomfhaaDoor
open Go.RowKit Go.Shelf
attribute [local go_sem] Oper.semAt_some

def inR (x : Int) : Bool := decide (0 ≤ x) && decide (x ≤ 1114111)
def gK (xs : List Int) (k : Nat) : Bool := decide (0 < xs.length) && (xs.take k).all inR
theorem gK_succ (xs : List Int) (k : Nat) (h : k < xs.length) : gK xs (k + 1) = (gK xs k && inR xs[k]) := by
  unfold gK
  rw [List.take_succ_eq_append_getElem h, List.all_append]
  simp [Bool.and_assoc]

def Ln.sh (N : Nat) (x : Ln) : Ln := ⟨x.N + N, x.A, x.c, x.F⟩
def mixS (N : Nat) (ws : List Ln) (k : Nat) : List Ln := (ws.take k).map (Ln.sh N) ++ ws.drop k
theorem mixS_zero (N : Nat) (ws : List Ln) : mixS N ws 0 = ws := by simp [mixS]
theorem mixS_full (N : Nat) (ws : List Ln) : mixS N ws ws.length = ws.map (Ln.sh N) := by simp [mixS]
theorem mixS_len (N : Nat) (ws : List Ln) (k : Nat) : (mixS N ws k).length = ws.length := by simp [mixS]; omega
theorem mixS_get (N : Nat) (ws : List Ln) (k : Nat) (h : k < ws.length) : (mixS N ws k)[k]? = some ws[k] := by
  unfold mixS
  rw [List.getElem?_append_right (by simp; omega)]
  simp only [List.length_map, List.length_take, Nat.min_eq_left (Nat.le_of_lt h), Nat.sub_self, List.getElem?_drop, Nat.add_zero]
  exact List.getElem?_eq_getElem h
theorem mixS_set (N : Nat) (ws : List Ln) (k : Nat) (h : k < ws.length) : (mixS N ws k).set k (Ln.sh N ws[k]) = mixS N ws (k + 1) := by
  unfold mixS
  rw [List.set_append_right _ _ (by simp; omega), List.take_succ_eq_append_getElem h]
  simp only [List.length_map, List.length_take, Nat.min_eq_left (Nat.le_of_lt h), Nat.sub_self, List.map_append, List.map_cons, List.map_nil, List.append_assoc, List.cons_append, List.nil_append]
  rw [List.drop_eq_getElem_cons h]; rfl
theorem gK_true {xs : List Int} (h : gK xs xs.length = true) : ∃ ns : List Nat, xs = natI ns ∧ ns ≠ [] ∧ ∀ n ∈ ns, n ≤ 1114111 := by
  unfold gK at h
  rw [Bool.and_eq_true, List.take_length, decide_eq_true_eq, List.all_eq_true] at h
  obtain ⟨h0, h1⟩ := h
  refine ⟨xs.map Int.toNat, ?_, ?_, ?_⟩
  · unfold natI
    rw [List.map_map]
    have : xs.map ((fun n : Nat => (n : Int)) ∘ Int.toNat) = xs.map id := List.map_congr_left fun x hx => by
      have := h1 x hx
      unfold inR at this
      simp at this
      simp; omega
    rw [this, List.map_id]
  · intro e
    have := congrArg List.length e
    simp at this
    rw [this] at h0
    simp at h0
  · intro n hn
    obtain ⟨x, hx, rfl⟩ := List.mem_map.1 hn
    have := h1 x hx
    unfold inR at this
    simp at this
    omega

set_option maxRecDepth 100000 in
set_option maxHeartbeats 16000000 in
theorem fieldsMeans_any (A : Option Addr) (c : Nat) (xs : List Int) (a b cm : Bs) (w : World) (hmx : MaxVar w) (hA : Rd (fun b => b < w.heap.size) w 1 csI A xs) : Calls Tryd.prog 4 #[.slice A xs.length c, .string ⟨a.toArray⟩, .string ⟨b.toArray⟩, .string ⟨cm.toArray⟩] w fun e w' => e = .returned (.bool true) ∧ Mod (fun _ => False) w w' := by
  have HMX := Lib.hid (fun X (hX : Mod (fun _ => False) w X) => hmx.mod hX id)
  have HA := Lib.hid (fun X (hX : Mod (fun _ => False) w X) => (hA.mod hX (fun b hb => ⟨hb, id⟩)).mono (D' := fun b => b < X.heap.size) fun b hb => Nat.lt_of_lt_of_le hb hX.size)
  have HK := Lib.hid (known_any w hmx)
  obtain ⟨n, hn⟩ : ∃ n, n = xs.length := ⟨_, rfl⟩
  rw [← hn]
  have HN := Lib.hid hn
  clear hmx hA hn
  by_cases hx : 300 < n
  · go_enter Tryd.func4, Tryd.ntmps4
    go_wp2_with (go_at_call 6; refine HK.out.mono ?_; rintro e w1 ⟨rfl, hm⟩)
    go_ret
    exact ⟨rfl, hm⟩
  by_cases ha : 3000 < a.length
  · go_enter Tryd.func4, Tryd.ntmps4
    go_wp2_with (go_at_call 6; refine HK.out.mono ?_; rintro e w1 ⟨rfl, hm⟩)
    go_ret
    exact ⟨rfl, hm⟩
  by_cases hb : 3000 < b.length
  · go_enter Tryd.func4, Tryd.ntmps4
    go_wp2_with (go_at_call 6; refine HK.out.mono ?_; rintro e w1 ⟨rfl, hm⟩)
    go_ret
    exact ⟨rfl, hm⟩
  by_cases hcm : 300 < cm.length
  · go_enter Tryd.func4, Tryd.ntmps4
    go_wp2_with (go_at_call 6; refine HK.out.mono ?_; rintro e w1 ⟨rfl, hm⟩)
    go_ret
    exact ⟨rfl, hm⟩
  have HG0 := Lib.hid (show gK xs 0 = decide (0 < (n : Int)) by unfold gK; rw [← HN.out]; simp)
  go_enter Tryd.func4, Tryd.ntmps4
  go_wp2_with (go_at_call 6; refine HK.out.mono ?_; rintro e w1 ⟨rfl, hm1⟩)
  have HM1 := Lib.hid hm1
  clear hm1
  go_loopw [9, 10] (fun g i wr => ∃ k : Nat, k ≤ n ∧ i = .int .i64 k ∧ g = .bool (gK xs k) ∧ Mod (fun _ => False) w wr) (fun _ i _ => n - (intOf i).toNat)
  case atStart => exact ⟨0, Nat.zero_le _, rfl, by rw [HG0.out]; simp, HM1.out⟩
  case round =>
    obtain ⟨k, hk, rfl, rfl, hm⟩ := hrel
    have HM := Lib.hid hm
    clear hm HG0
    by_cases hlt : k < n
    · have hkx : k < xs.length := by rw [← HN.out]; exact hlt
      obtain ⟨b1, o1, rfl, -, q1⟩ := rdI (HA.out _ HM.out) hkx
      obtain ⟨x, hx'⟩ : ∃ x, x = xs[k] := ⟨_, rfl⟩
      rw [← hx'] at q1
      have HG := Lib.hid (show gK xs (k + 1) = (gK xs k && inR x) by rw [hx']; exact gK_succ xs k hkx)
      clear hx'
      obtain ⟨t, ht⟩ : ∃ t, t = ctext x := ⟨_, rfl⟩
      have htl : t.length ≤ 6 := by rw [ht]; exact ctext_len x
      have HC1 := Lib.hid (fun X => fctext_any x X)
      rw [← ht] at HC1
      have HC2 := Lib.hid (fun X => fcode_any t X (by omega))
      unfold codeV at HC2
      obtain ⟨a1, e1⟩ : ∃ z, decide (0 ≤ x) = z := ⟨_, rfl⟩
      obtain ⟨a2, e2⟩ : ∃ z, decide (x ≤ 1114111) = z := ⟨_, rfl⟩
      have hin : inR x = (a1 && a2) := by unfold inR; rw [e1, e2]
      rw [hin] at HG
      have HCode := Lib.hid (show (a1 && a2) = true → codeOf t = some x.toNat ∧ ((x.toNat : Nat) : Int) = x from fun h => by
        rw [Bool.and_eq_true] at h
        have h1 : 0 ≤ x := by rw [h.1] at e1; simpa using e1
        have h2 : x ≤ 1114111 := by rw [h.2] at e2; simpa using e2
        obtain ⟨m, rfl⟩ := Int.eq_ofNat_of_zero_le h1
        rw [ht]
        exact ⟨codeOf_ctext m (by omega), rfl⟩)
      have HCode2 := Lib.hid (show (a1 && a2) = false → codeOf t = none from fun h => by
        rw [ht]
        refine codeOf_ctext_bad x ?_
        cases a1
        · left; simpa using e1
        · cases a2
          · right; simpa using e2
          · cases h)
      generalize gK xs k = g at *
      clear ht hin
      cases a1
      · have hno := HCode2.out rfl
        rw [hno] at HC2
        simp only [Option.getD_none, Option.isSome_none] at HC2
        clear hno
        cases g
        all_goals
          go_wp2_with (first
            | (go_at_call 11
               refine (HC1.out _).mono ?_
               rintro e w2 ⟨rfl, hm2⟩
               have HM2 := Lib.hid (HM.out.trans' hm2)
               clear hm2)
            | (go_at_call 10
               refine (HC2.out _).mono ?_
               rintro e w3 ⟨rfl, hm3⟩
               have HM3 := Lib.hid (HM2.out.trans' hm3)
               clear hm3)
            | fail)
          exact ⟨⟨k + 1, by omega, by go_num, by rw [HG.out]; rfl, HM3.out⟩, by simp only [intOf]; omega⟩
      cases a2
      · have hno := HCode2.out rfl
        rw [hno] at HC2
        simp only [Option.getD_none, Option.isSome_none] at HC2
        clear hno
        cases g
        all_goals
          go_wp2_with (first
            | (go_at_call 11
               refine (HC1.out _).mono ?_
               rintro e w2 ⟨rfl, hm2⟩
               have HM2 := Lib.hid (HM.out.trans' hm2)
               clear hm2)
            | (go_at_call 10
               refine (HC2.out _).mono ?_
               rintro e w3 ⟨rfl, hm3⟩
               have HM3 := Lib.hid (HM2.out.trans' hm3)
               clear hm3)
            | fail)
          exact ⟨⟨k + 1, by omega, by go_num, by rw [HG.out]; rfl, HM3.out⟩, by simp only [intOf]; omega⟩
      · have hyes := HCode.out rfl
        rw [hyes.1] at HC2
        simp only [Option.getD_some, Option.isSome_some, hyes.2] at HC2
        have hself : (x != x) = false := by simp
        have HQ := Lib.hid (fun X (hX : Mod (fun _ => False) wr X) => (hX.cell (p := ⟨b1, o1 + k, none⟩) (World.block_lt_of_cell? wr _ q1) id).trans q1)
        clear hyes
        cases g
        all_goals
          go_wp2_with (first
            | (go_at_call 11
               refine (HC1.out _).mono ?_
               rintro e w2 ⟨rfl, hm2⟩
               have HM2 := Lib.hid hm2
               clear hm2)
            | (go_at_call 10
               refine (HC2.out _).mono ?_
               rintro e w3 ⟨rfl, hm3⟩
               have HM3 := Lib.hid (HM2.out.trans' hm3)
               have q3 := HQ.out _ HM3.out
               clear hm3)
            | fail)
          exact ⟨⟨k + 1, by omega, by go_num, by rw [HG.out]; rfl, HM.out.trans' HM3.out⟩, by simp only [intOf]; omega⟩
    · obtain rfl : k = n := by omega
      obtain ⟨g, hg⟩ : ∃ g, g = gK xs k := ⟨_, rfl⟩
      rw [← hg]
      have HG := Lib.hid hg
      clear hg
      cases g
      case' false =>
        have HM5 := Lib.hid HM.out
        go_wp2
      case' true =>
        obtain ⟨ns, hns, hne, hall⟩ := gK_true (xs := xs) (by rw [← HN.out]; exact HG.out.symm)
        obtain ⟨T, hT⟩ : ∃ T, T = rtext xs := ⟨_, rfl⟩
        have hTl : T.length ≤ 1000000 := by rw [hT]; have := rtext_len xs; have := HN.out; omega
        have hrow : rowOf T = some ns := by rw [hT, hns]; exact rowOf_rtext ns hne hall
        have HRT := Lib.hid (fun X (hX : Mod (fun _ => False) w X) => frtext_any _ A c xs X (HA.out X hX) (by rw [← HN.out]; omega) (fun b hb => hb))
        rw [← hT, ← HN.out] at HRT
        have HRow := Lib.hid (fun X => rowC (frow_any T X hTl))
        rw [hrow] at HRow
        have hrl : rowL (some ns) = xs := hns.symm
        rw [hrl, ← HN.out] at HRow
        simp only [Option.isSome_some] at HRow
        clear hT hrow hrl hns hne hall
        go_wp2_with (first
          | (go_at_call 13
             refine (HRT.out _ HM.out).mono ?_
             rintro e w2 ⟨rfl, hm2⟩
             have HM2 := Lib.hid (HM.out.trans' hm2)
             clear hm2)
          | (go_at_call 12
             refine (HRow.out _).mono ?_
             rintro e w3 ⟨A3, c3, rfl, hr3, hml, hm3⟩
             have HM3 := Lib.hid (HM2.out.trans' hm3)
             have hS := same_any _ _ A3 A c3 c xs xs w3 hr3 (HA.out _ HM3.out) (by rw [← HN.out]; exact hml) (by rw [← HN.out]; exact hml) (fun b hb => hb.2) (fun b hb => hb)
             rw [← HN.out] at hS
             simp only [decide_true] at hS
             have HS := Lib.hid hS
             clear hm3 hr3 hS hml)
          | (go_at_call 14
             refine HS.out.mono ?_
             rintro e w4 ⟨rfl, hm4⟩
             have HM5 := Lib.hid (HM3.out.trans' hm4)
             clear hm4)
          | fail)
        clear HS HM2 HM3 HRow HRT hTl
      all_goals
        clear HG
        go_loop [16] (fun i => ∃ k : Nat, k ≤ cm.length ∧ i = .int .i64 k ∧ (10 : UInt8) ∉ cm.take k) (fun i => cm.length - (intOf i).toNat)
        case atStart => exact ⟨0, Nat.zero_le _, rfl, by simp⟩
        case round =>
          obtain ⟨q, hq, rfl, hno⟩ := hrel
          have HNo := Lib.hid hno
          clear hno
          by_cases hlt : q < cm.length
          · obtain ⟨d, hd⟩ : ∃ d, d = cm[q] := ⟨_, rfl⟩
            have h7 : ∀ h, (⟨cm.toArray⟩ : ByteArray)[q]'h = d := fun h => by rw [hd]; rfl
            have HTk := Lib.hid (show cm.take (q + 1) = cm.take q ++ [d] by rw [hd]; exact List.take_succ_eq_append_getElem hlt)
            clear hd
            by_cases hdd : d = 10
            · have hd1 : ((d.toNat : Int) == 10) = true := by rw [hdd]; rfl
              clear hdd
              go_wp2
              go_ret
              exact ⟨rfl, HM5.out⟩
            · have hd1 : ((d.toNat : Int) == 10) = false := by
                rw [beq_eq_false_iff_ne]; intro e; exact hdd (UInt8.toNat_inj.1 (by show d.toNat = 10; omega))
              have HNo2 := Lib.hid (show (10 : UInt8) ∉ cm.take (q + 1) by
                rw [HTk.out]
                simp only [List.mem_append, List.mem_singleton, not_or]
                exact ⟨HNo.out, fun e => hdd e.symm⟩)
              clear hdd
              go_wp2
              exact ⟨⟨q + 1, by omega, by go_num, HNo2.out⟩, by simp only [intOf]; omega⟩
          · obtain rfl : q = cm.length := by omega
            have HCm := Lib.hid (show (10 : UInt8) ∉ cm from by have := HNo.out; rwa [List.take_length] at this)
            clear HNo
            go_wp2_with (first
              | (go_at_call 7
                 (with_reducible refine (rlines_any a _ (by omega)).mono ?_)
                 rintro e w5 ⟨A1, c1, ws1, rfl, hws1, hat1, hm5⟩
                 have hL1 : (linesT a).length = ws1.length := by rw [← hws1, List.length_map]
                 rw [hL1]
                 have HL1 := Lib.hid hL1
                 have HWs1 := Lib.hid hws1
                 have HAt1 := Lib.hid (hat1.mono (D' := fun b => b < w5.heap.size) fun b hb => hb.2)
                 have HM6 := Lib.hid (HM5.out.trans' hm5)
                 clear hws1 hat1 hm5 hL1)
              | (go_at_call 7
                 (with_reducible refine (rlinesO_any b _ (by omega)).mono ?_)
                 rintro e w6 ⟨v2, ws2, rfl, hws2, hown2, hf2, hm6⟩
                 obtain ⟨A2, c2, hv2, -, -, hml2⟩ := hown2.rd Ln.cs_len
                 subst hv2
                 have HWs2 := Lib.hid hws2
                 have HOwn2 := Lib.hid hown2
                 have HF2 := Lib.hid hf2
                 have HM7 := Lib.hid hm6
                 clear hws2 hown2 hf2 hm6)
              | fail)
            obtain ⟨L2, hL2⟩ : ∃ L2, L2 = ws2.length := ⟨_, rfl⟩
            obtain ⟨L1, hL1⟩ : ∃ L1, L1 = ws1.length := ⟨_, rfl⟩
            rw [← hL2] at hml2 HOwn2 HF2 ⊢
            rw [← hL1]
            have HL2 := Lib.hid hL2
            have HL1' := Lib.hid hL1
            have hL2b : L2 ≤ 3001 := by
              rw [hL2]
              have h := congrArg List.length HWs2.out
              rw [List.length_map] at h
              rw [h]
              unfold linesT
              have := linesL_len 0 (splitC 10 b)
              have := splitC_len 10 b
              omega
            have hL1b : L1 ≤ 3001 := by
              rw [hL1, ← HL1.out]
              unfold linesT
              have := linesL_len 0 (splitC 10 a)
              have := splitC_len 10 a
              omega
            clear hL2 hL1
            go_loop [19, 20] (fun m i => ∃ k M : Nat, k ≤ a.length ∧ i = .int .i64 k ∧ m = .int .i64 M ∧ M = (a.take k).count 10 + 2) (fun _ i => a.length - (intOf i).toNat)
            case atStart => exact ⟨0, 2, Nat.zero_le _, rfl, rfl, by simp⟩
            case round =>
              obtain ⟨q, NN, hq, rfl, rfl, hM⟩ := hrel
              have hNNl : NN ≤ 3002 := by
                have : (a.take q).count 10 ≤ (a.take q).length := List.count_le_length
                rw [List.length_take] at this
                omega
              have HMc := Lib.hid hM
              clear hM
              by_cases hlt : q < a.length
              · obtain ⟨d, hd⟩ : ∃ d, d = a[q] := ⟨_, rfl⟩
                have h7 : ∀ h, (⟨a.toArray⟩ : ByteArray)[q]'h = d := fun h => by rw [hd]; rfl
                have HTk := Lib.hid (show a.take (q + 1) = a.take q ++ [d] by rw [hd]; exact List.take_succ_eq_append_getElem hlt)
                clear hd
                by_cases hdd : d = 10
                · have hd1 : ((d.toNat : Int) == 10) = true := by rw [hdd]; rfl
                  have HNx := Lib.hid (show NN + 1 = (a.take (q + 1)).count 10 + 2 by rw [HTk.out, List.count_append, HMc.out, hdd]; simp)
                  clear hdd
                  go_wp2
                  exact ⟨⟨q + 1, NN + 1, by omega, by go_num, by go_num, HNx.out⟩, by simp only [intOf]; omega⟩
                · have hd1 : ((d.toNat : Int) == 10) = false := by
                    rw [beq_eq_false_iff_ne]; intro e; exact hdd (UInt8.toNat_inj.1 (by show d.toNat = 10; omega))
                  have HNx := Lib.hid (show NN = (a.take (q + 1)).count 10 + 2 by rw [HTk.out, List.count_append, HMc.out]; simp [hdd])
                  clear hdd
                  go_wp2
                  exact ⟨⟨q + 1, NN, by omega, by go_num, rfl, HNx.out⟩, by simp only [intOf]; omega⟩
              · obtain rfl : q = a.length := by omega
                have HNN := Lib.hid (show NN = a.count 10 + 2 by rw [HMc.out, List.take_length])
                clear HMc
                go_wp2
                go_loopw [21] (fun i X => ∃ k : Nat, k ≤ L2 ∧ i = .int .i64 k ∧ OwnS w5.heap.size 38 2 Ln.cs X (.slice A2 L2 c2) (mixS NN ws2 k) ∧ Mod (fun b => (Value.slice A2 L2 c2).ownBlock = some b) w6 X) (fun i _ => L2 - (intOf i).toNat)
                case atStart => exact ⟨0, Nat.zero_le _, rfl, by rw [mixS_zero]; exact HOwn2.out, Mod.refl _ _⟩
                case round =>
                  obtain ⟨q, hq, rfl, hox, hmx⟩ := hrel
                  have HOX := Lib.hid hox
                  have HMX' := Lib.hid hmx
                  by_cases hlt : q < L2
                  · have hqw : q < ws2.length := by rw [← HL2.out]; exact hlt
                    obtain ⟨y, hy⟩ : ∃ y, y = ws2[q] := ⟨_, rfl⟩
                    obtain ⟨g, c', hv, -, hgl, hfz⟩ := hox.at_ (by rw [mixS_len]; omega)
                    injection hv with e1 e2 e3
                    subst e1
                    have hqm : q < (mixS NN ws2 q).length := by rw [mixS_len]; exact hqw
                    have hmg : (mixS NN ws2 q)[q] = y := by
                      have := mixS_get NN ws2 q hqw
                      rw [List.getElem?_eq_getElem hqm] at this
                      rw [Option.some.inj this, hy]
                    have cN := hox.cell Ln.cs_len (by rw [mixS_len, ← HL2.out]) hqm (j := 0) (u := .int .i64 (y.N : Int)) (by rw [hmg]; rfl)
                    rw [Nat.add_zero] at cN
                    have fN := hfz (q * 2)
                    have hyN : y.N ≤ 3001 := by
                      have h1 : y.pr ∈ linesT b := by rw [← HWs2.out, hy]; exact List.mem_map.2 ⟨_, List.getElem_mem hqw, rfl⟩
                      have := linesT_num b _ h1
                      have h2 : y.pr.1 = y.N := rfl
                      omega
                    have HSet := Lib.hid (hox.set1 Ln.cs_len (by rw [mixS_len, ← HL2.out]) hlt (j := 0) (by decide) (u := .int .i64 ((y.N : Int) + (NN : Int))) (y := Ln.sh NN y) (by rw [hmg]; simp [Ln.cs, Ln.sh]))
                    rw [hy, mixS_set NN ws2 q hqw, Nat.add_zero] at HSet
                    rw [← hy] at HSet
                    clear hox hmx hqm hmg hy hfz
                    go_wp2
                    exact ⟨⟨q + 1, by omega, by go_num, HSet.out, HMX'.out.setCell (p := ⟨g, q * 2, none⟩) (.inl rfl) _⟩, by simp only [intOf]; omega⟩
                  · have hqL : q = L2 := by omega
                    have hown : OwnS w5.heap.size 38 2 Ln.cs wr (.slice A2 L2 c2) (ws2.map (Ln.sh NN)) := by
                      have e : mixS NN ws2 q = ws2.map (Ln.sh NN) := by rw [hqL, HL2.out, mixS_full]
                      have h := HOX.out
                      rw [e] at h
                      exact h
                    have hs67 := HM7.out.size
                    have hs78 := HMX'.out.size
                    have hag : Agree (fun b => b < w5.heap.size) w5 wr := (HM7.out.agree fun b hb => ⟨hb, id⟩).trans (HMX'.out.agree fun b hb => ⟨by omega, fun h => by have := (HOwn2.out.fresh b h).1; omega⟩)
                    have hat1 := (HAt1.out.keep hag).mono (D' := fun b => b < wr.heap.size) fun b hb => by omega
                    obtain ⟨A2', c2', hv2, hr2, hfr2, -⟩ := hown.rd Ln.cs_len
                    injection hv2 with e1 e2 e3
                    subst e1
                    clear e2 e3
                    have hr2' := hr2.mono (D' := fun b => b < wr.heap.size) fun b hb => (hfr2 b hb).2
                    have hf2' : ∀ x ∈ ws2.map (Ln.sh NN), Rd (fun b => b < wr.heap.size) wr 1 csB x.A x.F := fun x hx => by
                      obtain ⟨y, hy, rfl⟩ := List.mem_map.1 hx
                      exact ((HF2.out y hy).mod HMX'.out (fun b hb => ⟨hb.2.1, hb.2.2⟩)).mono fun b hb => by omega
                    have HAt := Lib.hid hat1
                    have HR2 := Lib.hid hr2'
                    have HF2' := Lib.hid hf2'
                    have HN0 := Lib.hid (OwnS.nil wr.heap.size 38 2 Ln.cs wr)
                    have hl2m : (ws2.map (Ln.sh NN)).length = L2 := by rw [List.length_map, ← HL2.out]
                    have HL2m := Lib.hid hl2m
                    have HMw := Lib.hid (show Mod (fun _ => False) w wr from (HM6.out.trans' HM7.out).trans HMX'.out (fun b hb => .inr (by have := (HOwn2.out.fresh b hb).1; have := HM6.out.size; omega)))
                    obtain ⟨TT, hTT⟩ : ∃ TT : Bs, TT = a ++ [32, 10, 35, 32] ++ cm ++ [10] ++ b := ⟨_, rfl⟩
                    have hTx : (⟨a.toArray⟩ : ByteArray) ++ ⟨#[32, 10, 35, 32]⟩ ++ ⟨cm.toArray⟩ ++ ⟨#[10]⟩ ++ ⟨b.toArray⟩ = ⟨TT.toArray⟩ := by
                      rw [show (⟨#[32, 10, 35, 32]⟩ : ByteArray) = ⟨([32, 10, 35, 32] : Bs).toArray⟩ from rfl, show (⟨#[10]⟩ : ByteArray) = ⟨([10] : Bs).toArray⟩ from rfl, mk_app, mk_app, mk_app, mk_app, hTT]
                    have HTx := Lib.hid hTx
                    have HTT := Lib.hid hTT
                    have hTl : TT.length ≤ 1000000 := by rw [hTT]; simp; omega
                    obtain ⟨ws12, hws12⟩ : ∃ z, z = ws1 ++ ws2.map (Ln.sh NN) := ⟨_, rfl⟩
                    obtain ⟨n12, hn12⟩ : ∃ z, z = ws12.length := ⟨_, rfl⟩
                    have HW12 := Lib.hid hws12
                    have HN12 := Lib.hid hn12
                    have HOnce := Lib.hid (fun (X : World) (A10 : Option Addr) (c10 : Nat) (hX : Mod (fun _ => False) wr X) (hr : Rd (fun b => b < X.heap.size) X 2 Ln.cs A10 ws12) =>
                      once_any TT A10 c10 ws12 0 (fun b => b < X.heap.size) X hTl (HMX.out _ (HMw.out.trans' hX))
                        ⟨hr, fun x hx => by
                          have hk : Rd (fun b => b < wr.heap.size) wr 1 csB x.A x.F := by
                            rw [HW12.out] at hx
                            rcases List.mem_append.1 hx with hx | hx
                            · exact HAt.out.2 x hx
                            · exact HF2'.out x hx
                          exact (hk.mod hX (fun b hb => ⟨hb, id⟩)).mono fun b hb => Nat.lt_of_lt_of_le hb hX.size⟩ (fun b hb => hb) (by
                          rw [HTT.out, lines_two a b cm HCm.out, HW12.out, List.map_append, HWs1.out, ← HNN.out, ← HWs2.out]
                          congr 1
                          unfold shiftL
                          rw [List.map_map, List.map_map]; rfl))
                    rw [← HTx.out, ← HN12.out] at HOnce
                    clear hown hag hat1 hr2 hfr2 hr2' hf2' hl2m hTT hTx hws12 hn12
                    go_wp2_with (first
                      | (at_builtin
                         refine wpList_app (base := wr.heap.size) (xs := []) (ys := ws1) (D := fun b => b < wr.heap.size) (v := .slice none 0 0) rfl (.const (.slice none 0 0)) (.tmp 155) rfl lns_t Ln.cs_len Ln.cs_one rfl HN0.out c1 rfl HL1'.out HAt.out.1 ?_ ?_ (Nat.le_refl _) ?_
                         · rw [← HL1'.out]; simp [maxLen]; omega
                         · rw [← HL1'.out]; simp; omega
                         intro v9 w9 hown9 hm9 hat9
                         rw [List.nil_append] at hown9
                         have HO9 := Lib.hid hown9
                         have HM9 := Lib.hid (show Mod (fun _ => False) wr w9 from hm9.mono fun b _ h => by cases h)
                         clear hown9 hm9 hat9)
                      | (at_builtin
                         refine wpList_app (base := wr.heap.size) (xs := ws1) (ys := ws2.map (Ln.sh NN)) (D := fun b => b < wr.heap.size) rfl (.tmp 156) (.tmp 157) rfl lns_t Ln.cs_len Ln.cs_one rfl HO9.out c2 rfl HL2m.out.symm (HR2.out.keep (HM9.out.agree fun b hb => ⟨hb, id⟩)) ?_ ?_ HM9.out.size ?_
                         · rw [← HL1'.out, HL2m.out]; simp [maxLen]; omega
                         · rw [← HL1'.out, HL2m.out]; omega
                         intro v10 w10 hown10 hm10 hat10
                         have HM10 := Lib.hid (show Mod (fun _ => False) wr w10 from HM9.out.trans hm10 (fun b hb => .inr (HO9.out.fresh b hb).1))
                         rw [← HW12.out] at hown10
                         obtain ⟨A10, c10, hv10, hr10, hfr10, -⟩ := hown10.rd Ln.cs_len
                         rw [← HN12.out] at hv10
                         subst hv10
                         have HR10 := Lib.hid (hr10.mono (D' := fun b => b < w10.heap.size) fun b hb => (hfr10 b hb).2)
                         clear hown10 hm10 hat10 hr10 hfr10)
                      | (go_at_call 8
                         (with_reducible refine (HOnce.out _ _ c10 HM10.out HR10.out).mono ?_)
                         rintro e w11 ⟨rfl, hm11⟩
                         have HM11 := Lib.hid hm11
                         clear hm11)
                      | fail)
                    go_ret
                    exact ⟨rfl, (HMw.out.trans' HM10.out).trans' HM11.out⟩
end Go.Proofs.YtpcenfeaoomfhaaDoor
