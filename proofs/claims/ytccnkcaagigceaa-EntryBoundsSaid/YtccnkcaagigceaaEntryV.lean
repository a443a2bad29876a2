/-
  The law EntryBounds: its walk.
-/
import Derived.Test.YtccnkcaagigceaaEntryN
import Derived.Laws.OwnMore
namespace Go.Proofs.Ytccnkcaagigceaa
open Go.RowKit Go.Shelf
attribute [local go_sem] Oper.semAt_some

def digB (k : Nat) : Bs := [UInt8.ofNat (48 + k / 10), UInt8.ofNat (48 + k % 10)]
def lstA : List At := (List.range 51).map fun i => ⟨[97], digB i⟩
def bxA : At := ⟨[98], [120]⟩
theorem fE1 : chgE (lstA.take 50) [bxA] = 10 := by decide +kernel
theorem fE2 : chgE (lstA.take 49) [bxA] = 0 := by decide +kernel
theorem fE3 : chgE [] lstA = 2 := by decide +kernel
theorem fM1 : mayAs (lstA.take 50) = true := by decide +kernel
theorem fM2 : mayAs lstA = false := by decide +kernel
theorem fN1 : mayNm (List.replicate 1000 97) = true := by decide +kernel
theorem fN2 : mayNm (List.replicate 1001 97) = false := by decide +kernel
theorem fA1 : mayA ⟨List.replicate 32 97, []⟩ = true := by decide +kernel
theorem fA2 : mayA ⟨List.replicate 33 97, []⟩ = false := by decide +kernel
theorem fA3 : mayA ⟨[], []⟩ = false := by decide +kernel
theorem fA4 : mayA ⟨[49, 97], []⟩ = false := by decide +kernel
theorem lst_fit : ∀ a ∈ lstA, FitA a := fun a h => by
  unfold lstA at h
  obtain ⟨i, _, rfl⟩ := List.mem_map.1 h
  exact ⟨by simp, by simp [digB]⟩
theorem lst_len : lstA.length = 51 := by unfold lstA; simp
theorem lst_take (k : Nat) (h : k < 51) : lstA.take (k + 1) = lstA.take k ++ [⟨[97], digB k⟩] := by
  have hl : k < lstA.length := by rw [lst_len]; exact h
  have h2 : lstA[k]? = some ⟨[97], digB k⟩ := by
    unfold lstA
    rw [List.getElem?_map, List.getElem?_range h]; rfl
  rw [List.getElem?_eq_getElem hl] at h2
  rw [List.take_succ_eq_append_getElem hl, Option.some.inj h2]
theorem made_u8 (n : Nat) : (madeCells (Value.int .u8 0).cells n).toList = (List.replicate n (0 : UInt8)).flatMap csU := by
  have h1 : (List.replicate n (0 : UInt8)).flatMap csU = List.replicate n (Value.int .u8 0) := by
    induction n with
    | zero => rfl
    | succ n ih => rw [List.replicate_succ, List.flatMap_cons, ih, List.replicate_succ]; rfl
  rw [h1, List.eq_replicate_iff]
  refine ⟨by simp [madeCells], fun b hb => ?_⟩
  simp only [madeCells, Array.toList_map, List.mem_map] at hb
  obtain ⟨i, _, rfl⟩ := hb
  simp [Value.cells, Nat.mod_one]
def lngS (k : Nat) : Bs := List.replicate k 97 ++ List.replicate (1001 - k) 0
theorem lng_len (k : Nat) (h : k ≤ 1001) : (lngS k).length = 1001 := by unfold lngS; simp; omega
theorem lng_set (k : Nat) (h : k < 1001) : (lngS k).set k 97 = lngS (k + 1) := by
  unfold lngS
  rw [List.set_append_right _ _ (by simp), List.length_replicate, Nat.sub_self]
  obtain ⟨d, hd⟩ : ∃ d, 1001 - k = d + 1 := ⟨1001 - k - 1, by omega⟩
  rw [hd, show 1001 - (k + 1) = d by omega, List.replicate_succ, List.set_cons_zero, List.replicate_succ']
  simp
theorem lng_full : lngS 1001 = List.replicate 1001 97 := by unfold lngS; rw [Nat.sub_self, List.replicate_zero, List.append_nil]
set_option maxRecDepth 100000 in
set_option maxHeartbeats 16000000 in
theorem entryBounds_any (w : World) : Calls Try.prog 3 #[] w fun e w' => e = .returned (.bool true) ∧ Mod (fun _ => False) w w' := by
  have HK := Lib.hid (fun X => known_any X)
  have hmk : ∀ X : World, (Instr.makeSlice 22 (.int .i64 1001) (.int .i64 1001)).run Try.prog X = .ok (.slice (some ⟨X.heap.size, 0, none⟩) 1001 1001) (X.alloc (.cells (madeCells (Value.int .u8 0).cells 1001) 5)) := fun X =>
    run_makeSlice (P := Try.prog) (w := X) 22 5 _ (.int .u8 0) Try.underlying22 rfl rfl .i64 .i64 1001 1001 (by decide) (by decide) (by decide) (by decide) (by decide)
  obtain ⟨cz, hcz⟩ : ∃ cz, cz = madeCells (Value.int .u8 0).cells 1001 := ⟨_, rfl⟩
  rw [← hcz] at hmk
  have hown0 := World.ownsRow_lit (base := w.heap.size) (e := 5) (size := 1) w cz 1001 (Nat.le_refl _) (by unfold maxLen; omega) (by rw [hcz]; exact size_madeCells _ _)
  have HO0 := Lib.hid (show OwnS w.heap.size 5 1 csU (w.alloc (.cells cz 5)) (.slice (some ⟨w.heap.size, 0, none⟩) 1001 1001) (lngS 0) by
    have e : cz.toList = (lngS 0).flatMap csU := by rw [hcz, made_u8]; rfl
    unfold OwnS
    rw [lng_len 0 (by omega), ← e]; exact hown0)
  clear hcz hown0
  go_enter Try.func3, Try.ntmps3
  go_wp2
  go_loopw [2] (fun i wr => ∃ k : Nat, k ≤ 1001 ∧ i = .int .i64 k ∧ OwnS w.heap.size 5 1 csU wr (.slice (some ⟨w.heap.size, 0, none⟩) 1001 1001) (lngS k) ∧ Mod (fun _ => False) w wr) (fun i _ => 1001 - (intOf i).toNat)
  case atStart => exact ⟨0, by omega, rfl, HO0.out, by (repeat' (first | exact Mod.refl _ _ | assumption | refine Mod.alloc ?_ _ | refine Mod.drew ?_ | refine Mod.drewN ?_ _ | refine Mod.setCell ?_ (by first | exact Or.inl rfl | (right; simp; done) | (right; simp; omega) | (left; simp; done)) _))⟩
  case round =>
    obtain ⟨k, hk, rfl, hown, hm⟩ := hrel
    have HO := Lib.hid hown
    have HM := Lib.hid hm
    by_cases hlt : k < 1001
    · have hl := lng_len k hk
      have hkl : k < (lngS k).length := by omega
      obtain ⟨z, hz⟩ : ∃ z, z = (lngS k)[k] := ⟨_, rfl⟩
      have r0 := hown.cell csU_len (by rw [hl]) (k := k) hkl (j := 0) (u := .int .u8 (z.toNat : Int)) (by rw [hz]; rfl)
      rw [Nat.mul_one, Nat.add_zero] at r0
      obtain ⟨_, _, hv, _, hgl, hfz⟩ := hown.at_ (by omega)
      injection hv with hv1 hv2 hv3
      clear hv2 hv3
      injection hv1 with hv1
      injection hv1 with hv1
      subst hv1
      have f0 := hfz k
      clear hown hm hl hz hfz
      go_wp2
      have ho := HO.out.set1 csU_len (k := k) (j := 0) (lng_len k hk).symm hlt (by decide) (u := .int .u8 97) (y := 97) (by rfl)
      rw [Nat.mul_one, Nat.add_zero, lng_set k hlt] at ho
      exact ⟨⟨k + 1, by omega, by go_num, ho, by have := HM.out; (repeat' (first | exact Mod.refl _ _ | assumption | refine Mod.alloc ?_ _ | refine Mod.drew ?_ | refine Mod.drewN ?_ _ | refine Mod.setCell ?_ (by first | exact Or.inl rfl | (right; simp; done) | (right; simp; omega) | (left; simp; done)) _))⟩, by simp only [intOf]; omega⟩
    · have hk1 : k = 1001 := by omega
      have hk2 : ¬ k < 1001 := hlt
      rw [hk1, lng_full] at HO
      clear hlt hk hk1
      obtain ⟨S, hS⟩ : ∃ S, S = List.replicate 1001 (97 : UInt8) := ⟨_, rfl⟩
      rw [← hS] at HO
      have hSl : S.length = 1001 := by rw [hS]; simp
      have HRd := Lib.hid (show Rd (fun b => b < wr.heap.size) wr 1 csU (some ⟨w.heap.size, 0, none⟩) S from (by
        obtain ⟨A', c', he, hr, hf, _⟩ := HO.out.rd csU_len
        injection he with e1 e2 e3
        subst e1
        exact hr.mono fun b hb => (hf b hb).2))
      obtain ⟨W1, rfl⟩ : ∃ W1 : World, W1 = wr := ⟨_, rfl⟩
      have HM1 := Lib.hid HM.out
      have HSt := Lib.hid (fun X (hX : Mod (fun _ => False) W1 X) (o n c : Nat) (h : o + n ≤ 1001) => show (convert 22 9 (.slice (some ⟨w.heap.size, o, none⟩) n c)).run Try.prog X = .ok (.string ⟨((S.drop o).take n).toArray⟩) X from by
        have hr := rd_take (rd_drop (HRd.out.mod hX (fun b hb => ⟨hb, id⟩)) (j := o) (by rw [hSl]; omega)) n
        rw [Nat.mul_one, Nat.zero_add] at hr
        have hl : ((S.drop o).take n).length = n := by rw [List.length_take, List.length_drop, hSl]; omega
        have := run_str_of hr c
        rw [hl] at this
        exact this)
      clear HO0 hown hm HO HM
      go_wp2
      go_loopw [3, 4] (fun v i wr => ∃ k : Nat, k ≤ 51 ∧ i = .int .i64 k ∧ OwnS W1.heap.size 25 2 At.cs wr v (lstA.take k) ∧ Mod (fun _ => False) W1 wr) (fun _ i _ => 51 - (intOf i).toNat)
      case atStart => exact ⟨0, by omega, rfl, OwnS.nil _ _ _ _ _, Mod.refl _ _⟩
      case round =>
        obtain ⟨k, hk, rfl, hown, hm⟩ := hrel
        have HO := Lib.hid hown
        have HM := Lib.hid hm
        clear hown hm
        by_cases hlt : k < 51
        · have HT := Lib.hid (lst_take k hlt)
          have HLn := Lib.hid (show (lstA.take k).length = k by rw [List.length_take, lst_len]; omega)
          have hcv : (convert 22 9 (.slice (some ⟨wr.heap.size, 0, none⟩) 2 2)).run Try.prog (wr.alloc (.cells #[.int .u8 (48 + (k : Int) / 10), .int .u8 (48 + (k : Int) % 10)] 5)) = .ok (.string ⟨(digB k).toArray⟩) (wr.alloc (.cells #[.int .u8 (48 + (k : Int) / 10), .int .u8 (48 + (k : Int) % 10)] 5)) := by
            refine run_str_of (D := fun b => b = wr.heap.size) (xs := digB k) ?_ 2
            refine Rd.blk csU_len (hp_new wr _) ?_
            have e1 : (UInt8.ofNat (48 + k / 10)).toNat = 48 + k / 10 := by rw [UInt8.toNat_ofNat']; omega
            have e2 : (UInt8.ofNat (48 + k % 10)).toNat = 48 + k % 10 := by rw [UInt8.toNat_ofNat']; omega
            simp only [digB, List.flatMap_cons, List.flatMap_nil, csU, e1, e2, List.append_nil, List.cons_append, List.nil_append]
            congr 2
          have HOx := Lib.hid (HO.out.mod ((Mod.refl (fun _ => False) wr).alloc (.cells #[.int .u8 (48 + (k : Int) / 10), .int .u8 (48 + (k : Int) % 10)] 5)) (fun b _ => id))
          have HMx := Lib.hid (HM.out.alloc (.cells #[.int .u8 (48 + (k : Int) / 10), .int .u8 (48 + (k : Int) % 10)] 5))
          go_wp2_with (first
            | (at_builtin
               refine wpList_app1 (w0 := W1) (xs := lstA.take k) (y := ⟨[97], digB k⟩) rfl (.tmp 26) (.tmp 38) rfl ats_t At.cs_len At.cs_one rfl HOx.out HMx.out (by rw [World.size_alloc]; rfl) ?_ ?_ ?_ ?_
               · rfl
               · rw [HLn.out]; unfold maxLen; omega
               · rw [HLn.out]; omega
               intro v' w6 hown2 hm2 _ _
               have HO2 := Lib.hid hown2
               have HM2 := Lib.hid hm2
               clear hown2 hm2)
            | fail)
          exact ⟨⟨k + 1, by omega, by go_num, by rw [HT.out]; exact HO2.out, HM2.out⟩, by simp only [intOf]; omega⟩
        · obtain rfl : k = 51 := by omega
          obtain ⟨W2, rfl⟩ : ∃ W2 : World, W2 = wr := ⟨_, rfl⟩
          have hl51 := lst_len
          rw [List.take_of_length_le (by rw [hl51]; omega)] at HO
          obtain ⟨g, c3, hv, -, hgl, -⟩ := HO.out.at_ (by rw [hl51]; omega)
          rw [hl51] at hv
          subst hv
          have hc3 := (HO.out.cap rfl).1
          have HRl := Lib.hid (show Rd (fun b => b < W2.heap.size) W2 2 At.cs (some ⟨g, 0, none⟩) lstA from by
            obtain ⟨A', c', he, hr, hf, _⟩ := HO.out.rd At.cs_len
            injection he with e1 e2 e3
            subst e1
            exact hr.mono fun b hb => (hf b hb).2)
          have HRX := Lib.hid (fun X (hX : Mod (fun _ => False) W2 X) => (HRl.out.mod hX (fun b hb => ⟨hb, id⟩)).mono (D' := fun b => b < X.heap.size) fun b hb => Nat.lt_of_lt_of_le hb hX.size)
          have HF := Lib.hid lst_fit
          have hX1 := fun X (hX : Mod (fun _ => False) W2 X) q (h : X.heap[q]? = some (.cells #[.string ⟨#[98]⟩, .string ⟨#[120]⟩] 25 (0, 0))) => achange_any (some ⟨g, 0, none⟩) (some ⟨q, 0, none⟩) c3 1 (lstA.take 50) [bxA] X (rd_take (HRX.out X hX) 50)
            ((Rd.one (cs := At.cs) (x := bxA) h rfl).mono fun b hb => by subst hb; exact hp_lt h) (by rw [List.length_take, hl51]; decide) (by decide) (fun a ha => HF.out a (List.mem_of_mem_take ha)) (fun a ha => by rw [List.mem_singleton] at ha; rw [ha]; exact ⟨by decide, by decide⟩)
          have hX2 := fun X (hX : Mod (fun _ => False) W2 X) q (h : X.heap[q]? = some (.cells #[.string ⟨#[98]⟩, .string ⟨#[120]⟩] 25 (0, 0))) => achange_any (some ⟨g, 0, none⟩) (some ⟨q, 0, none⟩) c3 1 (lstA.take 49) [bxA] X (rd_take (HRX.out X hX) 49)
            ((Rd.one (cs := At.cs) (x := bxA) h rfl).mono fun b hb => by subst hb; exact hp_lt h) (by rw [List.length_take, hl51]; decide) (by decide) (fun a ha => HF.out a (List.mem_of_mem_take ha)) (fun a ha => by rw [List.mem_singleton] at ha; rw [ha]; exact ⟨by decide, by decide⟩)
          have hX3 := fun X (hX : Mod (fun _ => False) W2 X) => achange_any none (some ⟨g, 0, none⟩) 0 c3 [] lstA X (Rd.nil _ _ _ _ _) (HRX.out X hX) (by decide) (by rw [hl51]; decide) (fun a ha => by cases ha) HF.out
          unfold ChgEnds at hX1 hX2 hX3
          have e50 : (lstA.take 50).length = 50 := by rw [List.length_take, hl51]; rfl
          have e49 : (lstA.take 49).length = 49 := by rw [List.length_take, hl51]; rfl
          have hY1 := fun X (hX : Mod (fun _ => False) W2 X) => emays_any (some ⟨g, 0, none⟩) c3 (lstA.take 50) X (rd_take (HRX.out X hX) 50) (by rw [e50]; decide) (fun a ha => HF.out a (List.mem_of_mem_take ha))
          have hY2 := fun X (hX : Mod (fun _ => False) W2 X) => emays_any (some ⟨g, 0, none⟩) c3 lstA X (HRX.out X hX) (by rw [hl51]; decide) HF.out
          rw [fE1, e50] at hX1
          rw [fE2, e49] at hX2
          rw [fE3, hl51] at hX3
          rw [fM1, e50] at hY1
          rw [fM2, hl51] at hY2
          simp only [List.length_cons, List.length_nil, Nat.zero_add] at hX1 hX2 hX3
          obtain ⟨R1, hR1⟩ : ∃ R1, R1 = chgR (lstA.take 50) [bxA] := ⟨_, rfl⟩
          obtain ⟨R2, hR2⟩ : ∃ R2, R2 = chgR (lstA.take 49) [bxA] := ⟨_, rfl⟩
          obtain ⟨R3, hR3⟩ : ∃ R3, R3 = chgR [] lstA := ⟨_, rfl⟩
          rw [← hR1] at hX1
          rw [← hR2] at hX2
          rw [← hR3] at hX3
          have HX1 := Lib.hid hX1
          have HX2 := Lib.hid hX2
          have HX3 := Lib.hid hX3
          have HY1 := Lib.hid hY1
          have HY2 := Lib.hid hY2
          have cut : ∀ o n, o + n ≤ 1001 → (S.drop o).take n = List.replicate n 97 := fun o n h => by
            rw [hS, List.drop_replicate, List.take_replicate]; congr 1; omega
          obtain ⟨s0, h0⟩ : ∃ s, s = List.replicate 32 (97 : UInt8) := ⟨_, rfl⟩
          obtain ⟨s1, h1⟩ : ∃ s, s = List.replicate 1000 (97 : UInt8) := ⟨_, rfl⟩
          obtain ⟨s2, h2⟩ : ∃ s, s = List.replicate 1001 (97 : UInt8) := ⟨_, rfl⟩
          obtain ⟨s3, h3⟩ : ∃ s, s = List.replicate 33 (97 : UInt8) := ⟨_, rfl⟩
          have hT0 := fun X hX => HSt.out X hX 0 32 1001 (by decide)
          have hT1 := fun X hX => HSt.out X hX 1 1000 1000 (by decide)
          have hT2 := fun X hX => HSt.out X hX 0 1001 1001 (by decide)
          have hT3 := fun X hX => HSt.out X hX 0 33 1001 (by decide)
          rw [cut 0 32 (by decide), ← h0] at hT0
          rw [cut 1 1000 (by decide), ← h1] at hT1
          rw [cut 0 1001 (by decide), ← h2] at hT2
          rw [cut 0 33 (by decide), ← h3] at hT3
          have cv0 := hT0 _ HM.out
          have HT1 := Lib.hid hT1
          have HT2 := Lib.hid hT2
          have HT3 := Lib.hid hT3
          have hN1 := fun X => ename_any s1 X (by rw [h1, List.length_replicate]; decide)
          have hN2 := fun X => ename_any s2 X (by rw [h2, List.length_replicate]; decide)
          have hA1 := fun X => eattr_any ⟨s0, []⟩ X (by rw [h0]; simp) (by simp)
          have hA2 := fun X => eattr_any ⟨s3, []⟩ X (by rw [h3]; simp) (by simp)
          have hA3 := fun X => eattr_any ⟨[], []⟩ X (by simp) (by simp)
          have hA4 := fun X => eattr_any ⟨[49, 97], []⟩ X (by simp) (by simp)
          rw [h1, fN1, ← h1] at hN1
          rw [h2, fN2, ← h2] at hN2
          rw [h0, fA1, ← h0] at hA1
          rw [h3, fA2, ← h3] at hA2
          rw [fA3] at hA3
          rw [fA4] at hA4
          unfold At.val at hA1 hA2 hA3 hA4
          have HN1 := Lib.hid hN1
          have HN2 := Lib.hid hN2
          have HA1 := Lib.hid hA1
          have HA2 := Lib.hid hA2
          have HA3 := Lib.hid hA3
          have HA4 := Lib.hid hA4
          have HMw := Lib.hid (HM1.out.trans' HM.out)
          have HMo := Lib.hid HM.out
          have h51 : ¬ (51 : Int) ≤ 50 := by decide
          clear hX1 hX2 hX3 hY1 hY2 hR1 hR2 hR3 cut h0 h1 h2 h3 hT0 hT1 hT2 hT3 hN1 hN2 hA1 hA2 hA3 hA4 hS hSl e50 e49 hl51 hlt HSt HRd HO hmk
          go_wp2_with (first
            | (go_at_call 8
               (with_reducible refine (HX1.out _ ?_ _ (by (repeat' (first | exact hp_new _ _ | exact hp_at _ _ (by simp; done) | refine hp_alloc ?_ _ | refine hp_drew ?_ | refine hp_drewN ?_ _ | apply hp_set | refine hp_far ?_ (by first | (simp; omega) | (simp; done)) _)))).mono ?_)
               · (repeat' (first | exact Mod.refl _ _ | assumption | refine Mod.alloc ?_ _ | refine Mod.drew ?_ | refine Mod.drewN ?_ _ | refine Mod.setCell ?_ (by first | exact Or.inl rfl | (right; simp; done) | (right; simp; omega) | (left; simp; done)) _))
               rintro e w3 ⟨A3, c5, rfl, hown, hm3⟩
               have HR3 := Lib.hid ((((Mod.refl (fun _ => False) W2).alloc _).alloc _).trans' hm3)
               have HBx : Hid (w3.heap[W2.heap.size]? = some (.cells #[.string ⟨s0.toArray⟩, .string ⟨#[]⟩] 25 (0, 0))) := Lib.hid (hp_mod (by (repeat' (first | exact hp_new _ _ | exact hp_at _ _ (by simp; done) | refine hp_alloc ?_ _ | refine hp_drew ?_ | refine hp_drewN ?_ _ | apply hp_set | refine hp_far ?_ (by first | (simp; omega) | (simp; done)) _))) hm3 id)
               clear hown hm3 cv0)
            | (go_at_call 8
               (with_reducible refine (HX2.out _ ?_ _ (by (repeat' (first | exact hp_new _ _ | exact hp_at _ _ (by simp; done) | refine hp_alloc ?_ _ | refine hp_drew ?_ | refine hp_drewN ?_ _ | apply hp_set | refine hp_far ?_ (by first | (simp; omega) | (simp; done)) _)))).mono ?_)
               · have := HR3.out; (repeat' (first | exact Mod.refl _ _ | assumption | refine Mod.alloc ?_ _ | refine Mod.drew ?_ | refine Mod.drewN ?_ _ | refine Mod.setCell ?_ (by first | exact Or.inl rfl | (right; simp; done) | (right; simp; omega) | (left; simp; done)) _))
               rintro e w4 ⟨A4, c6, rfl, hown, hm4⟩
               have HR4 := Lib.hid ((HR3.out.alloc _).trans' hm4)
               have HBx4 := Lib.hid (hp_mod (hp_alloc HBx.out _) hm4 id)
               clear hown hm4)
            | (go_at_call 8
               (with_reducible refine (HX3.out _ HR4.out).mono ?_)
               rintro e w5 ⟨A5, c7, rfl, hown, hm5⟩
               have HR5 := Lib.hid (HR4.out.trans' hm5)
               have HBx5 := Lib.hid (hp_mod HBx4.out hm5 id)
               have cv1 := HT1.out _ (HMo.out.trans' HR5.out)
               clear hown hm5)
            | (go_at_call 9
               (with_reducible refine (HN1.out _).mono ?_)
               rintro e w6 ⟨rfl, hm6⟩
               have HR6 := Lib.hid (HR5.out.trans' hm6)
               have HBx6 := Lib.hid (hp_mod HBx5.out hm6 id)
               have cv2 := HT2.out _ (HMo.out.trans' HR6.out)
               clear hm6 cv1)
            | (go_at_call 9
               (with_reducible refine (HN2.out _).mono ?_)
               rintro e w7 ⟨rfl, hm7⟩
               have HR7 := Lib.hid (HR6.out.trans' hm7)
               have hbx7 := hp_mod HBx6.out hm7 id
               have x0 := hp_cell hbx7 0
               have x1 := hp_cell hbx7 1
               simp only [List.getElem?_toArray, List.getElem?_cons_succ, List.getElem?_cons_zero] at x0 x1
               clear hm7 cv2 hbx7)
            | (go_at_call 10
               (with_reducible refine (HA1.out _).mono ?_)
               rintro e w8 ⟨rfl, hm8⟩
               have HR8 := Lib.hid (HR7.out.trans' hm8)
               have cv3 := HT3.out _ (HMo.out.trans' HR8.out)
               clear hm8 x0 x1)
            | (go_at_call 10
               (with_reducible refine (HA2.out _).mono ?_)
               rintro e w9 ⟨rfl, hm9⟩
               have HR9 := Lib.hid (HR8.out.trans' hm9)
               clear hm9 cv3)
            | (go_at_call 10
               (with_reducible refine (HA3.out _).mono ?_)
               rintro e w10 ⟨rfl, hm10⟩
               have HR10 := Lib.hid (HR9.out.trans' hm10)
               clear hm10)
            | (go_at_call 10
               (with_reducible refine (HA4.out _).mono ?_)
               rintro e w11 ⟨rfl, hm11⟩
               have HR11 := Lib.hid (HR10.out.trans' hm11)
               clear hm11)
            | (go_at_call 11
               (with_reducible refine (HY1.out _ HR11.out).mono ?_)
               rintro e w12 ⟨rfl, hm12⟩
               have HR12 := Lib.hid (HR11.out.trans' hm12)
               clear hm12)
            | (go_at_call 11
               (with_reducible refine (HY2.out _ HR12.out).mono ?_)
               rintro e w13 ⟨rfl, hm13⟩
               have HR13 := Lib.hid (HR12.out.trans' hm13)
               clear hm13)
            | (go_at_call 12; refine (num_any _ _).mono ?_; rintro e w' ⟨rfl, rfl⟩)
            | (go_at_call 13; refine (HK.out _).mono ?_; rintro e w14 ⟨rfl, hm14⟩)
            | fail)
          go_ret
          exact ⟨rfl, HMw.out.trans' (HR13.out.trans' hm14)⟩
end Go.Proofs.Ytccnkcaagigceaa
