/-
  The reference of the package tlv: all values; a list.
-/
import Derived.Test.YtccnkcaagigceaaGreatRefC
import Derived.Test.YtccnkcaagigceaaGreatTlvI
namespace Go.Proofs.YtccnkcaagigceaaGreat
open Go.RowKit Go.Shelf
attribute [local go_sem] Oper.semAt_some

structure FIt where
  t : UInt8
  A : Option Addr
  c : Nat
  b : Bs
def FIt.cs (x : FIt) : List Value := [.int .u8 (x.t.toNat : Int), .slice x.A x.b.length x.c]
def FIt.pr (x : FIt) : UInt8 × Bs := (x.t, x.b)
theorem FIt.cs_len (x : FIt) : x.cs.length = 2 := rfl
theorem FIt.cs_one (x : FIt) : ∀ u ∈ x.cs, u.oneCell' = true := by simp [FIt.cs, Value.oneCell']
theorem items_t : SliceT Tryz.prog 89 93 2 32 := SliceT.mk' (z := .agg #[.int .u8 0, .slice none 0 0]) Tryz.underlying89 (by kernel_rfl) rfl (by decide)
set_option maxRecDepth 100000 in
set_option maxHeartbeats 4000000 in
theorem fall_any (D : Nat → Prop) (A : Option Addr) (c : Nat) (s : Bs) (w : World) (hA : Rd D w 1 csU A s) (hD : ∀ b, D b → b < w.heap.size) (hl : s.length ≤ 1099511627776) (hc : s.length ≤ c) (h0 : SlA A c) :
    Calls Tryz.prog 65 #[.slice A s.length c] w fun e w' => ∃ v its, e = .returned (.tuple #[v, .int .i64 (endV s : Nat)]) ∧ its.map FIt.pr = itemsV s ∧ OwnS w.heap.size 93 2 FIt.cs w' v its ∧ (∀ x ∈ its, x.b.length ≤ x.c ∧ Rd D w' 1 csU x.A x.b ∧ SlA x.A x.c) ∧ Mod (fun _ => False) w w' := by
  obtain ⟨n, hn⟩ : ∃ n, n = s.length := ⟨_, rfl⟩
  have H0 := Lib.hid (OwnS.nil w.heap.size 93 2 FIt.cs w)
  have HA := Lib.hid hA
  have HN := Lib.hid hn
  have HD := Lib.hid hD
  rw [← hn] at hl hc ⊢
  clear hA hn hD
  go_enter Tryz.func65, Tryz.ntmps65
  go_wp2
  go_loopw [4, 5] (fun v i wr => ∃ (its : List FIt) (k : Nat), k ≤ n ∧ i = .int .i64 k ∧ its.length ≤ k ∧ OwnS w.heap.size 93 2 FIt.cs wr v its ∧ its.map FIt.pr ++ itemsV (s.drop k) = itemsV s ∧ k + endV (s.drop k) = endV s ∧ (∀ x ∈ its, x.b.length ≤ x.c ∧ Rd D wr 1 csU x.A x.b ∧ SlA x.A x.c) ∧ Mod (fun _ => False) w wr) (fun _ i _ => n - (intOf i).toNat)
  case atStart => exact ⟨[], 0, Nat.zero_le _, rfl, Nat.le_refl _, H0.out, by simp, by simp, fun x hx => (by cases hx), Mod.refl _ _⟩
  case round =>
    obtain ⟨its, k, hk, rfl, hik, hown, hit, hen, hrd, hm⟩ := hrel
    have HO := Lib.hid hown
    have HI := Lib.hid hit
    have HE := Lib.hid hen
    have HR := Lib.hid hrd
    have HM := Lib.hid hm
    have hA2 := HA.out.keep (hm.agree fun b hb => ⟨HD.out b hb, id⟩)
    have hkc : c = k ∨ (∃ b o, A = some ⟨b, o, none⟩ ∧ ¬ c = k) := by
      by_cases h : c = k
      · exact .inl h
      · rcases h0 with ⟨_, h1⟩ | ⟨b, o, h1⟩
        · omega
        · exact .inr ⟨b, o, h1, h⟩
    have hdl : (s.drop k).length = n - k := by rw [List.length_drop, HN.out]
    have HDl := Lib.hid hdl
    clear hown hit hen hrd hm hdl H0
    rcases hkc with hck | ⟨b, o, rfl, hck⟩
    · have hkn : k = n := by omega
      subst hkn
      subst hck
      have HNo := Lib.hid (show firstV (s.drop c) = none by rw [List.drop_eq_nil_of_le (by rw [← HN.out]; exact Nat.le_refl _)]; rfl)
      have hz : c - c = 0 := by omega
      have hf := ffirst_any D A 0 (s.drop c) wr (by rw [List.drop_eq_nil_of_le (by rw [← HN.out]; exact Nat.le_refl _)]; exact Rd.nil _ _ _ _ _) (by rw [HDl.out]; omega) (by rw [HDl.out]; omega)
      rw [HDl.out, hz] at hf
      have HF := Lib.hid hf
      clear hf hA2 hz
      go_wp2_with (first
        | (go_at_call 64
           refine HF.out.mono ?_
           rintro r w1 ⟨hr1, q, rfl⟩
           rw [HNo.out] at hr1
           simp only at hr1
           subst hr1)
        | fail)
      obtain ⟨i1, i2⟩ := itemsV_none HNo.out
      refine bodyPost_ret (v := .tuple #[u4, .int .i64 (c : Int)]) (by simp [results, Tryz.results65, go_sem]) rfl ⟨u4, its, ?_, ?_, HO.out.mod (C := fun _ => False) ((Mod.refl _ wr).drewN q) (fun _ _ => id), fun x hx => ⟨(HR.out x hx).1, (HR.out x hx).2.1.keep (((Mod.refl (fun _ => False) wr).drewN q).agree fun b hb => ⟨Nat.lt_of_lt_of_le (HD.out b hb) HM.out.size, id⟩), (HR.out x hx).2.2⟩, HM.out.drewN q⟩
      · have := HE.out
        rw [i2, Nat.add_zero] at this
        rw [← this]
      · have := HI.out
        rw [i1, List.append_nil] at this
        exact this
    · have hrd2 : Rd D wr 1 csU (some ⟨b, o + k, none⟩) (s.drop k) := by
        have h := rd_drop hA2 (j := k) (by rw [← HN.out]; exact hk)
        rw [Nat.mul_one] at h
        exact h
      have hf := ffirst_any D (some ⟨b, o + k, none⟩) (c - k) (s.drop k) wr hrd2 (by rw [HDl.out]; omega) (by rw [HDl.out]; omega)
      rw [HDl.out] at hf
      have HF := Lib.hid hf
      clear hf hA2 hrd2
      have hkc2 : ¬ k = c := fun e => hck e.symm
      cases hv : firstV (s.drop k) with
      | none =>
        have HNo := Lib.hid hv
        clear hv
        go_wp2_with (first
          | (go_at_call 64
             refine HF.out.mono ?_
             rintro r w1 ⟨hr1, q, rfl⟩
             rw [HNo.out] at hr1
             simp only at hr1
             subst hr1)
          | fail)
        obtain ⟨i1, i2⟩ := itemsV_none HNo.out
        refine bodyPost_ret (v := .tuple #[u4, .int .i64 (k : Int)]) (by simp [results, Tryz.results65, go_sem]) rfl ⟨u4, its, ?_, ?_, HO.out.mod (C := fun _ => False) ((Mod.refl _ wr).drewN q) (fun _ _ => id), fun x hx => ⟨(HR.out x hx).1, (HR.out x hx).2.1.keep (((Mod.refl (fun _ => False) wr).drewN q).agree fun b hb => ⟨Nat.lt_of_lt_of_le (HD.out b hb) HM.out.size, id⟩), (HR.out x hx).2.2⟩, HM.out.drewN q⟩
        · have := HE.out
          rw [i2, Nat.add_zero] at this
          rw [← this]
        · have := HI.out
          rw [i1, List.append_nil] at this
          exact this
      | some v =>
        obtain ⟨t, x, m⟩ := v
        obtain ⟨-, hm5, hm4, hmn, -⟩ := firstV_some hv
        rw [HDl.out] at hmn
        obtain ⟨hi1, hi2⟩ := itemsV_some hv
        rw [List.drop_drop] at hi1 hi2
        have HNo := Lib.hid hv
        have HI1 := Lib.hid hi1
        have HI2 := Lib.hid hi2
        have kk : ((m : Int) == 0) = false := by rw [beq_eq_false_iff_ne]; omega
        have HM5 := Lib.hid hm5
        have HM4 := Lib.hid hm4
        clear hv hi1 hi2 hm5 hm4
        go_wp2_with (first
          | (go_at_call 64
             refine HF.out.mono ?_
             rintro r w1 ⟨hr1, q, rfl⟩
             rw [HNo.out] at hr1
             simp only at hr1
             obtain ⟨g1, j1, c1, hr1, hc1, hrd1⟩ := hr1
             subst hr1
             have HRd1 := Lib.hid hrd1
             have HC1 := Lib.hid hc1
             have HOx := Lib.hid (HO.out.mod (C := fun _ => False) ((Mod.refl _ wr).drewN q) (fun _ _ => id))
             have HMx := Lib.hid (HM.out.drewN q)
             clear hrd1 hc1)
          | (at_builtin
             refine wpList_app1 (w0 := w) (xs := its) (y := ⟨t, some ⟨g1, j1, none⟩, c1, x⟩) rfl (.tmp 21) (.tmp 25) rfl items_t FIt.cs_len FIt.cs_one rfl HOx.out HMx.out rfl ?_ ?_ ?_ ?_
             · rfl
             · simp [maxLen]; omega
             · first | omega | (simp; omega)
             intro v' w2 hown2 hm2 hm3 _
             have HO2 := Lib.hid hown2
             have HM2 := Lib.hid hm2
             have HM3 := Lib.hid hm3
             clear hown2 hm2 hm3)
          | fail)
        have hag : Agree D (wr.drewN q) w2 := HM3.out.agree fun z hz => ⟨Nat.lt_of_lt_of_le (HD.out z hz) HM.out.size, fun e => by
          have h1 := (HOx.out.fresh z e).1
          have h2 := HD.out z hz
          omega⟩
        have hag0 : Agree D wr (wr.drewN q) := ((Mod.refl (fun _ => False) wr).drewN q).agree fun z hz => ⟨Nat.lt_of_lt_of_le (HD.out z hz) HM.out.size, id⟩
        have h5 := HM5.out
        refine ⟨⟨its ++ [⟨t, some ⟨g1, j1, none⟩, c1, x⟩], k + m, by omega, by go_num, by simp; omega, HO2.out, ?_, ?_, fun z hz => ?_, HM2.out⟩, by simp only [intOf]; omega⟩
        · rw [List.map_append, ← HI.out, HI1.out, List.append_assoc]
          rfl
        · have h1 := HE.out
          have h2 := HI2.out
          omega
        · rcases List.mem_append.1 hz with hz | hz
          · exact ⟨(HR.out z hz).1, ((HR.out z hz).2.1.keep hag0).keep hag, (HR.out z hz).2.2⟩
          · rw [List.mem_singleton] at hz
            subst hz
            exact ⟨HC1.out, (HRd1.out.keep hag0).keep hag, .inr ⟨g1, j1, rfl⟩⟩
end Go.Proofs.YtccnkcaagigceaaGreat
