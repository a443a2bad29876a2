/-
  The reference's lines; how many say something.
-/
import Derived.Test.YtidbgfmknhlmnaaGreatDoorFieldsB
namespace Go.Proofs.YtidbgfmknhlmnaaGreatDoor
open Go.RowKit Go.Shelf
attribute [local go_sem] Oper.semAt_some

structure Ln where
  N : Nat
  A : Option Addr
  c : Nat
  F : List Bs
def Ln.cs (x : Ln) : List Value := [.int .i64 (x.N : Int), .slice x.A x.F.length x.c]
def Ln.pr (x : Ln) : Nat × List Bs := (x.N, x.F)
theorem Ln.cs_len (x : Ln) : x.cs.length = 2 := rfl
theorem Ln.cs_one (x : Ln) : ∀ u ∈ x.cs, u.oneCell' = true := by simp [Ln.cs, Value.oneCell']
theorem lns_t : SliceT Tryz.prog 71 75 2 32 := SliceT.mk' (z := .agg #[.int .i64 0, .slice none 0 0]) Tryz.underlying71 (by kernel_rfl) rfl (by decide)

/-- The slice at A has the lines L. -/
def LnsAt (D : Nat → Prop) (w : World) (A : Option Addr) (ws : List Ln) : Prop := Rd D w 2 Ln.cs A ws ∧ ∀ x ∈ ws, Rd D w 1 csB x.A x.F
theorem LnsAt.keep {D : Nat → Prop} {w w' : World} {A : Option Addr} {ws : List Ln} (h : LnsAt D w A ws) (hA : Agree D w w') : LnsAt D w' A ws := ⟨h.1.keep hA, fun x hx => (h.2 x hx).keep hA⟩
theorem LnsAt.mono {D D' : Nat → Prop} {w : World} {A : Option Addr} {ws : List Ln} (h : LnsAt D w A ws) (hd : ∀ b, D b → D' b) : LnsAt D' w A ws := ⟨h.1.mono hd, fun x hx => (h.2 x hx).mono hd⟩

set_option maxRecDepth 100000 in
set_option maxHeartbeats 2000000 in
theorem rlinesO_any (l : Bs) (w : World) (hl : l.length ≤ 1000000) : Calls Tryz.prog 31 #[.string ⟨l.toArray⟩] w fun e w' =>
    ∃ v ws, e = .returned v ∧ ws.map Ln.pr = linesT l ∧ OwnS w.heap.size 75 2 Ln.cs w' v ws ∧ (∀ x ∈ ws, Rd (fun b => w.heap.size ≤ b ∧ b < w'.heap.size ∧ v.ownBlock ≠ some b) w' 1 csB x.A x.F) ∧ Mod (fun _ => False) w w' := by
  have HSp := Lib.hid (rsplit_any l 10 10 rfl w (by omega))
  have HLT := Lib.hid (show linesT l = linesL 0 (splitC 10 l) from rfl)
  obtain ⟨sp, hsp⟩ : ∃ sp, sp = splitC 10 l := ⟨_, rfl⟩
  rw [← hsp] at HSp HLT
  obtain ⟨m, hm⟩ : ∃ m, m = sp.length := ⟨_, rfl⟩
  have hml : m ≤ l.length + 1 := by rw [hm, hsp]; exact splitC_len 10 l
  have HXL := Lib.hid (show ∀ x ∈ sp, x.length ≤ l.length by rw [hsp]; exact splitC_mem 10 l)
  have HMl := Lib.hid hm
  clear hsp hm
  go_enter Tryz.func31, Tryz.ntmps31
  go_wp2_with (first
    | (go_at_call 52
       refine HSp.out.mono ?_
       rintro e w1 ⟨v1, rfl, hown1, hm1⟩
       obtain ⟨A1, c1, rfl, hrd1, hfr1, -⟩ := OwnS.rd hown1 csB_len
       have HR1 := Lib.hid (hrd1.mono (D' := fun b => w.heap.size ≤ b ∧ b < w1.heap.size) hfr1)
       have HM1 := Lib.hid hm1
       clear hown1 hrd1 hfr1 hm1)
    | fail)
  rw [← HMl.out]
  have H0 := Lib.hid (OwnS.nil w1.heap.size 75 2 Ln.cs w1)
  go_loopw [3, 5] (fun v i wr => ∃ (k : Nat) (ws : List Ln), k ≤ m ∧ i = .int .i64 k ∧ OwnS w1.heap.size 75 2 Ln.cs wr v ws ∧ ws.map Ln.pr = linesL 0 (sp.take k) ∧
      (∀ x ∈ ws, Rd (fun b => w.heap.size ≤ b ∧ b < wr.heap.size ∧ v.ownBlock ≠ some b) wr 1 csB x.A x.F) ∧ Mod (fun _ => False) w1 wr) (fun _ i _ => m - (intOf i).toNat)
  case atStart => exact ⟨0, [], Nat.zero_le _, rfl, H0.out, by simp [linesL], fun x hx => by simp at hx, Mod.refl _ _⟩
  case round =>
    obtain ⟨wo, rfl⟩ : ∃ wo : World, wo = wr := ⟨_, rfl⟩
    obtain ⟨k, ws, hk, rfl, hown, hpr, hfs, hmr⟩ := hrel
    have HO := Lib.hid hown
    have HP := Lib.hid hpr
    have HF := Lib.hid hfs
    have HMR := Lib.hid hmr
    have hsz := hmr.size
    clear hown hpr hfs hmr H0
    by_cases hkm : k < m
    · have hks : k < sp.length := by rw [← HMl.out]; exact hkm
      obtain ⟨b1, o1, rfl, -, hc1⟩ := HR1.out.mod HMR.out (fun b hb => ⟨hb.2, id⟩) (by omega)
      obtain ⟨x, hx⟩ : ∃ x, x = sp[k] := ⟨_, rfl⟩
      have cx : wo.cell? ⟨b1, o1 + k, none⟩ = some (.string ⟨x.toArray⟩) := by have := hc1 k hks 0 _ rfl; rw [hx]; simpa using this
      have hxl : x.length ≤ l.length := by rw [hx]; exact HXL.out _ (List.getElem_mem hks)
      have HT := Lib.hid (show linesL 0 (sp.take (k + 1)) = linesL 0 (sp.take k) ++ linesL k [x] by rw [hx]; exact linesL_take sp k hks)
      clear hc1 hx
      obtain ⟨u, hu⟩ : ∃ u, u = upC 35 x := ⟨_, rfl⟩
      have hul : u.length ≤ l.length := by rw [hu]; exact Nat.le_trans (upC_len _ _) hxl
      obtain ⟨s, hs⟩ : ∃ s, s = trimB u := ⟨_, rfl⟩
      have hsl : s.length ≤ l.length := by rw [hs]; exact Nat.le_trans (trimB_le _) hul
      have HS1 := Lib.hid (rsplit_any x 35 35 rfl wo (by omega))
      obtain ⟨q1, hq1⟩ : ∃ q, q = splitC 35 x := ⟨_, rfl⟩
      have hq0 : q1[0]? = some u := by rw [hq1, hu]; exact splitC_head 35 x
      have HQ0 := Lib.hid hq0
      have hqp : 0 < q1.length := (List.getElem?_eq_some_iff.1 hq0).1
      rw [← hq1] at HS1
      have HTr := Lib.hid (fun X => rtrim_any u X (by omega))
      rw [← hs] at HTr
      have HU := Lib.hid hu
      have HS := Lib.hid hs
      clear hu hs hq0 hq1
      by_cases hse : s = []
      · have HE := Lib.hid (linesL_one_none (x := x) k (by rw [← HU.out, ← HS.out]; exact hse))
        subst hse
        go_wp2_with (first
          | (go_at_call 52
             (with_reducible refine HS1.out.mono ?_)
             rintro e w2 ⟨v2, rfl, hown2, hm2⟩
             obtain ⟨g2, c2, rfl, -, hgl2, hfz2⟩ := hown2.at_ hqp
             have cu := hown2.cell csB_len rfl hqp (j := 0) (u := .string ⟨u.toArray⟩) (by
               have := HQ0.out
               rw [List.getElem?_eq_getElem hqp] at this
               rw [Option.some.inj this]; rfl)
             simp only [Nat.zero_mul, Nat.zero_add] at cu
             have HM2 := Lib.hid hm2
             clear hown2 hm2 hfz2)
          | (go_at_call 53; refine (HTr.out _).mono ?_; rintro e w3 ⟨rfl, rfl⟩)
          | fail)
        exact ⟨⟨k + 1, ws, by omega, by go_num, HO.out.mod HM2.out (fun _ _ => id), by rw [HP.out, HT.out, HE.out, List.append_nil], fun x hx => ((HF.out x hx).mod HM2.out (fun b hb => ⟨hb.2.1, id⟩)).mono (fun b hb => ⟨hb.1, Nat.lt_of_lt_of_le hb.2.1 HM2.out.size, hb.2.2⟩), HMR.out.trans' HM2.out⟩, by simp only [intOf]; omega⟩
      · have h1 := linesL_one_some (x := x) k (by rw [← HU.out, ← HS.out]; exact hse)
        rw [← HU.out, ← HS.out] at h1
        have HE := Lib.hid h1
        clear h1
        have hse' : s.toArray.toList.isEmpty = false := by simp [hse]
        have hse2 : s.toArray.toList = [] → False := by simp [hse]
        have HS2 := Lib.hid (fun X => rsplit_any s 59 59 rfl X (by omega))
        obtain ⟨ps, hps⟩ : ∃ ps, ps = splitC 59 s := ⟨_, rfl⟩
        rw [← hps] at HS2 HE
        obtain ⟨n3, hn3⟩ : ∃ n, n = ps.length := ⟨_, rfl⟩
        have hn3p : 0 < n3 := by rw [hn3, hps]; exact List.length_pos_iff.2 (splitC_ne 59 s)
        have hn3l : n3 ≤ l.length + 1 := by rw [hn3, hps]; have := splitC_len 59 s; omega
        have HPM := Lib.hid (show ∀ z ∈ ps, z.length ≤ 9223372036854775807 from fun z hz => by rw [hps] at hz; have := splitC_mem 59 s z hz; omega)
        have HN3 := Lib.hid hn3
        clear hps hn3
        go_wp2_with (first
          | (go_at_call 52
             (with_reducible refine HS1.out.mono ?_)
             rintro e w2 ⟨v2, rfl, hown2, hm2⟩
             obtain ⟨g2, c2, rfl, -, hgl2, hfz2⟩ := hown2.at_ hqp
             have cu := hown2.cell csB_len rfl hqp (j := 0) (u := .string ⟨u.toArray⟩) (by
               have := HQ0.out
               rw [List.getElem?_eq_getElem hqp] at this
               rw [Option.some.inj this]; rfl)
             simp only [Nat.zero_mul, Nat.zero_add] at cu
             have HM2 := Lib.hid hm2
             clear hown2 hm2 hfz2)
          | (go_at_call 52
             (with_reducible refine (HS2.out _).mono ?_)
             rintro e w4 ⟨v3, rfl, hown3, hm4⟩
             obtain ⟨g3, c3, hv3, hg3, hgl3, hfz3⟩ := hown3.at_ (by rw [← HN3.out]; exact hn3p)
             rw [← HN3.out] at hv3
             subst hv3
             have HO3 := Lib.hid hown3
             have HM4 := Lib.hid hm4
             have HFz := Lib.hid hfz3
             clear hown3 hm4 hfz3)
          | (go_at_call 53; refine (HTr.out _).mono ?_; rintro e w3 ⟨rfl, rfl⟩)
          | fail)
        have hs2 := HM2.out.size
        have hs4 := HM4.out.size
        go_loopw [8] (fun i X0 => ∃ j : Nat, j ≤ n3 ∧ i = .int .i64 j ∧ OwnS w2.heap.size 9 1 csB X0 (.slice (some ⟨g3, 0, none⟩) n3 c3) (mixT ps j) ∧ Mod (fun b => b = g3) w4 X0) (fun i _ => n3 - (intOf i).toNat)
        case atStart => exact ⟨0, Nat.zero_le _, rfl, by rw [mixT_zero]; exact HO3.out, Mod.refl _ _⟩
        case round =>
          obtain ⟨j, hj, rfl, hox, hmx⟩ := hrel
          have HOX := Lib.hid hox
          have HMX := Lib.hid hmx
          have hsx := hmx.size
          by_cases hjm : j < n3
          · have hjp : j < ps.length := by rw [← HN3.out]; exact hjm
            obtain ⟨q, hq⟩ : ∃ q, q = ps[j] := ⟨_, rfl⟩
            have hjx : j < (mixT ps j).length := by rw [mixT_len]; exact hjp
            have cj := hox.cell csB_len (by rw [mixT_len, ← HN3.out]) hjx (j := 0) (u := .string ⟨q.toArray⟩) (by
              have := mixT_get ps j hjp
              rw [List.getElem?_eq_getElem hjx] at this
              rw [Option.some.inj this, hq]; rfl)
            simp only [Nat.mul_one, Nat.add_zero] at cj
            have fj : wr.frozen? ⟨g3, j, none⟩ = false := by
              obtain ⟨g', c', hv', -, -, hf'⟩ := hox.at_ (by omega)
              injection hv' with e1 _ _
              injection e1 with e1
              injection e1 with e1
              rw [e1]; exact hf' j
            have HTq := Lib.hid (fun Y => rtrim_any q Y (by rw [hq]; exact HPM.out _ (List.getElem_mem _)))
            have HSet := Lib.hid (show OwnS w2.heap.size 9 1 csB (wr.setCell ⟨g3, j, none⟩ (.string ⟨(trimB q).toArray⟩)) (.slice (some ⟨g3, 0, none⟩) n3 c3) (mixT ps (j + 1)) from by
              have h := hox.set1 csB_len (by rw [mixT_len, ← HN3.out]) hjm (j := 0) (by decide) (u := .string ⟨(trimB q).toArray⟩) (y := trimB q) rfl
              rw [hq] at h
              rw [mixT_set ps j hjp] at h
              simp only [Nat.mul_one, Nat.add_zero] at h
              rw [hq]; exact h)
            obtain ⟨tq, htq⟩ : ∃ tq, tq = trimB q := ⟨_, rfl⟩
            rw [← htq] at HTq HSet
            clear hq htq hox hmx hjx
            go_wp2_with (first
              | (go_at_call 53; refine (HTq.out _).mono ?_; rintro e w5 ⟨rfl, rfl⟩)
              | fail)
            go_roundw
            case rel => exact ⟨j + 1, by omega, by go_num, HSet.out, HMX.out.setCell (.inl rfl) _⟩
            case measure => simp only [intOf]; omega
          · obtain rfl : j = n3 := by omega
            have HMF := Lib.hid (show mixT ps j = ps.map trimB by rw [HN3.out, mixT_full])
            clear hox hmx
            have MRX : Mod (fun _ => False) wo wr := (HM2.out.trans' HM4.out).trans HMX.out (fun b hb => by subst hb; right; omega)
            have HMRX := Lib.hid MRX
            have HO' := Lib.hid (HO.out.mod MRX (fun _ _ => id))
            have HM' := Lib.hid (HMR.out.trans' MRX)
            have HLen := Lib.hid (show ws.length ≤ k by
              have h2 := congrArg List.length HP.out
              rw [List.length_map] at h2
              rw [h2]
              exact Nat.le_trans (linesL_len _ _) (by simp; omega))
            have HRX := Lib.hid (show Rd (fun b => b = g3) wr 1 csB (some ⟨g3, 0, none⟩) (ps.map trimB) by
              have h2 := HOX.out
              rw [HMF.out] at h2
              obtain ⟨A5, c5, hv5, hr5, -⟩ := h2.rd csB_len
              injection hv5 with e1 e2 e3
              rw [← e1] at hr5
              exact hr5.mono fun b hb => by simp [Value.ownBlock] at hb; omega)
            clear MRX
            go_wp2_with (at_builtin
                         refine wpList_app1 (w0 := w1) (xs := ws) (y := (⟨k + 1, some ⟨g3, 0, none⟩, c3, ps.map trimB⟩ : Ln)) rfl (.tmp 43) (.tmp 48) rfl lns_t Ln.cs_len Ln.cs_one rfl HO'.out HM'.out rfl ?_ ?_ ?_ ?_
                         · simp [Ln.cs, ← HN3.out]
                         · have := HLen.out; simp [maxLen]; omega
                         · have := HLen.out; omega
                         intro v' w5 hown5 hm5 hm5' hat5
                         have HO5 := Lib.hid hown5
                         have HM5 := Lib.hid hm5
                         have HM5' := Lib.hid hm5'
                         have HA5 := Lib.hid hat5
                         clear hown5 hm5 hm5' hat5)
            have hwx := HMRX.out.size
            have hx5 := HM5'.out.size
            have hgx : w2.heap.size ≤ g3 ∧ g3 < wr.heap.size := by
              refine ⟨hg3, ?_⟩
              have := HMX.out.size
              omega
            have hou : ∀ b, u3.ownBlock = some b → b < wo.heap.size := fun b hb => (HO.out.fresh b hb).2
            have hm1s := HM1.out.size
            have hfr : ∀ b, w.heap.size ≤ b → b < wr.heap.size → u3.ownBlock ≠ some b → w.heap.size ≤ b ∧ b < w5.heap.size ∧ v'.ownBlock ≠ some b := fun b h1 h2 h3 => by
              refine ⟨h1, by omega, fun h => ?_⟩
              rcases HA5.out with h4 | h4
              · exact h3 (h4 ▸ h)
              · rw [h4] at h
                injection h with h
                omega
            refine ⟨⟨k + 1, ws ++ [⟨k + 1, some ⟨g3, 0, none⟩, c3, ps.map trimB⟩], by omega, by go_num, HO5.out, ?_, ?_, HM5.out⟩, by simp only [intOf]; omega⟩
            · rw [List.map_append, HP.out, HT.out, HE.out]; rfl
            · intro x hx
              rcases List.mem_append.1 hx with hx | hx
              · exact (((HF.out x hx).mod HMRX.out (fun b hb => ⟨hb.2.1, id⟩)).mod HM5'.out (fun b hb => ⟨by omega, hb.2.2⟩)).mono fun b hb => hfr b hb.1 (by omega) hb.2.2
              · rw [List.mem_singleton] at hx
                subst hx
                have hng : u3.ownBlock ≠ some g3 := fun h => by have := hou _ h; omega
                exact (HRX.out.mod HM5'.out (fun b hb => by subst hb; exact ⟨hgx.2, hng⟩)).mono fun b hb => by subst hb; exact hfr _ (by omega) hgx.2 hng
    · obtain rfl : k = m := by omega
      go_wp2
      go_ret
      have hs1 := HM1.out.size
      exact ⟨_, ws, rfl, by rw [HP.out, HLT.out, HMl.out, List.take_length], HO.out.less hs1, HF.out, HM1.out.trans' HMR.out⟩
theorem rlines_any (l : Bs) (w : World) (hl : l.length ≤ 1000000) : Calls Tryz.prog 31 #[.string ⟨l.toArray⟩] w fun e w' =>
    ∃ A c ws, e = .returned (.slice A (linesT l).length c) ∧ ws.map Ln.pr = linesT l ∧ LnsAt (fun b => w.heap.size ≤ b ∧ b < w'.heap.size) w' A ws ∧ Mod (fun _ => False) w w' := by
  refine (rlinesO_any l w hl).mono ?_
  rintro e w' ⟨v, ws, rfl, hws, hown, hf, hm⟩
  obtain ⟨A, c, rfl, hr, hfr, -⟩ := hown.rd Ln.cs_len
  have hl2 : ws.length = (linesT l).length := by rw [← hws, List.length_map]
  exact ⟨A, c, ws, ret_sl hl2, hws, ⟨hr.mono hfr, fun x hx => (hf x hx).mono fun b hb => ⟨hb.1, hb.2.1⟩⟩, hm⟩
end Go.Proofs.YtidbgfmknhlmnaaGreatDoor
