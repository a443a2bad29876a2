/-
  The reference of the package entry: the bytes of attributes.
-/
import Derived.Test.YtccnkcaagigceaaGreatRefF
namespace Go.Proofs.YtccnkcaagigceaaGreat
open Go.RowKit Go.Shelf
attribute [local go_sem] Oper.semAt_some

def cvG (l : Bs) (w : World) : Nat := grownCap w (ByteArray.size ⟨l.toArray⟩) 0 5
def cvW (l : Bs) (w : World) : World := w.drew.alloc (.cells (bytesRow ⟨l.toArray⟩ (cvG l w)) 5 ((bytesRow ⟨l.toArray⟩ (cvG l w)).size, (bytesRow ⟨l.toArray⟩ (cvG l w)).size + 1))
theorem cv_run (l : Bs) (w : World) : (convert 9 25 (.string ⟨l.toArray⟩)).run Tryz.prog w = .ok (.slice (some ⟨w.heap.size, 0, none⟩) l.length (cvG l w)) (cvW l w) :=
  run_bytes_of_string w 9 25 5 ⟨l.toArray⟩ Tryz.underlying9 Tryz.underlying25 Tryz.underlying5
theorem cv_mod (l : Bs) (w : World) : Mod (fun _ => False) w (cvW l w) := by unfold cvW; (repeat' (first | exact Mod.refl _ _ | assumption | refine Mod.alloc ?_ _ | refine Mod.drew ?_ | refine Mod.drewN ?_ _ | refine Mod.setCell ?_ (by first | exact Or.inl rfl | (right; simp; done) | (right; simp; omega) | (left; simp; done)) _))
theorem cv_size (l : Bs) (w : World) : (cvW l w).heap.size = w.heap.size + 1 := by unfold cvW; simp
theorem cv_rd (l : Bs) (w : World) : Rd (fun b => b = w.heap.size) (cvW l w) 1 csU (some ⟨w.heap.size, 0, none⟩) l := by
  intro _
  refine ⟨w.heap.size, 0, rfl, rfl, fun k hk j u hu => ?_⟩
  have hj : j < 1 := (List.getElem?_eq_some_iff.1 hu).1
  have hj0 : j = 0 := by omega
  subst hj0
  unfold cvW
  rw [hp_cell (b := w.heap.size) (hp_at (n := w.heap.size) w.drew _ rfl)]
  have := bytesRow_at ⟨l.toArray⟩ (cvG l w) k (by simpa using hk)
  simp [csU] at hu
  subst hu
  simpa using this
/-- How many bytes attributes take. -/
theorem attrsV_take (xs : List At) (k : Nat) (h : k < xs.length) : attrsV (xs.take (k + 1)) = attrsV (xs.take k) ++ attrV xs[k] := by
  unfold attrsV
  rw [List.take_succ_eq_append_getElem h, List.flatMap_append]
  simp
theorem attrsV_take_len (xs : List At) (k : Nat) : (attrsV (xs.take k)).length ≤ (attrsV xs).length := by
  conv => rhs; rw [← List.take_append_drop k xs]
  unfold attrsV
  rw [List.flatMap_append, List.length_append]
  omega
set_option maxRecDepth 100000 in
set_option maxHeartbeats 16000000 in
theorem gattrs_any (t : UInt8) (A : Option Addr) (c : Nat) (xs : List At) (w : World) (hA : Rd (fun b => b < w.heap.size) w 2 At.cs A xs) (hx : xs.length ≤ 1099511627776) (hl : (attrsV xs).length ≤ 4194304) :
    Calls Tryz.prog 13 #[.int .u8 (t.toNat : Int), .slice A xs.length c] w fun e w' => ∃ A' c', e = .returned (.slice A' (valV t (attrsV xs)).length c') ∧ OwnS w.heap.size 5 1 csU w' (.slice A' (valV t (attrsV xs)).length c') (valV t (attrsV xs)) ∧ Mod (fun _ => False) w w' := by
  obtain ⟨n, hn⟩ : ∃ n, n = xs.length := ⟨_, rfl⟩
  have H0 := Lib.hid (OwnS.nil w.heap.size 5 1 csU w)
  have HA := Lib.hid hA
  have HN := Lib.hid hn
  have HL := Lib.hid hl
  rw [← hn] at hx ⊢
  clear hA hn hl
  go_enter Tryz.func13, Tryz.ntmps13
  go_wp2
  go_loopw [5, 6] (fun v i wr => ∃ k : Nat, k ≤ n ∧ i = .int .i64 k ∧ OwnS w.heap.size 5 1 csU wr v (attrsV (xs.take k)) ∧ Mod (fun _ => False) w wr) (fun _ i _ => n - (intOf i).toNat)
  case atStart => exact ⟨0, Nat.zero_le _, rfl, H0.out, Mod.refl _ _⟩
  case round =>
    obtain ⟨k, hk, rfl, hown, hm⟩ := hrel
    have HO := Lib.hid hown
    have HM := Lib.hid hm
    by_cases hkn : k < n
    · have hki : k < xs.length := by rw [← HN.out]; exact hkn
      obtain ⟨g, o, rfl, hg, p0, p1⟩ := rd2 (HA.out.keep (hm.agree fun b hb => ⟨hb, id⟩)) hki
      obtain ⟨a, ha⟩ : ∃ a, a = xs[k] := ⟨_, rfl⟩
      rw [← ha] at p0 p1
      have HT := Lib.hid (show attrsV (xs.take (k + 1)) = attrsV (xs.take k) ++ attrV a by rw [ha]; exact attrsV_take xs k hki)
      have hal : (attrsV (xs.take k)).length + (15 + a.T.length + a.V.length) ≤ 4194304 := by
        have h1 := congrArg List.length HT.out
        have h2 := attrsV_take_len xs (k + 1)
        rw [List.length_append, attrV_len] at h1
        have := HL.out
        omega
      have HAl := Lib.hid hal
      have qT := fun X => cv_run a.T X
      have qV := fun X => cv_run a.V X
      have hgl : g < wr.heap.size := Nat.lt_of_lt_of_le hg hm.size
      have hK := fun X (M : Mod (fun _ => False) wr X) => (show X.cell? ⟨g, o + k * 2, none⟩ = some (.string ⟨a.T.toArray⟩) ∧ X.cell? ⟨g, o + k * 2 + 1, none⟩ = some (.string ⟨a.V.toArray⟩) ∧ True from ⟨(M.cell (p := ⟨g, o + k * 2, none⟩) hgl id).trans p0, (M.cell (p := ⟨g, o + k * 2 + 1, none⟩) hgl id).trans p1, trivial⟩)
      have HK := Lib.hid hK
      have hK5 := fun X (M : Mod (fun b => w.heap.size ≤ b) wr X) => (show X.cell? ⟨g, o + k * 2, none⟩ = some (.string ⟨a.T.toArray⟩) ∧ X.cell? ⟨g, o + k * 2 + 1, none⟩ = some (.string ⟨a.V.toArray⟩) ∧ True from ⟨(M.cell (p := ⟨g, o + k * 2, none⟩) hgl (by show ¬ w.heap.size ≤ g; omega)).trans p0, (M.cell (p := ⟨g, o + k * 2 + 1, none⟩) hgl (by show ¬ w.heap.size ≤ g; omega)).trans p1, trivial⟩)
      have HK5 := Lib.hid hK5
      obtain ⟨n1, hn1⟩ : ∃ z, z = (valV 1 a.T).length := ⟨_, rfl⟩
      obtain ⟨n2, hn2⟩ : ∃ z, z = (valV 2 a.V).length := ⟨_, rfl⟩
      obtain ⟨n3, hn3⟩ : ∃ z, z = (attrI a).length := ⟨_, rfl⟩
      obtain ⟨n4, hn4⟩ : ∃ z, z = (valV 3 (attrI a)).length := ⟨_, rfl⟩
      have l1 : n1 ≤ 4194304 := by rw [hn1, valV_len]; omega
      have l2 : n2 ≤ 4194304 := by rw [hn2, valV_len]; omega
      have l3 : n3 ≤ 4194304 := by rw [hn3, attrI_len]; omega
      have l4 : (attrsV (xs.take k)).length + n4 ≤ 4194304 := by rw [hn4, valV_len, attrI_len]; omega
      have HN1 := Lib.hid hn1
      have HN2 := Lib.hid hn2
      have HN3 := Lib.hid hn3
      have HN4 := Lib.hid hn4
      have m0 : Mod (fun _ => False) wr wr.drew := (Mod.refl _ _).drew
      have mT := m0.trans' (cv_mod a.T wr.drew)
      have mV := m0.trans' (cv_mod a.V wr.drew)
      have mTV := mT.trans' (cv_mod a.V (cvW a.T wr.drew))
      have mVT := mV.trans' (cv_mod a.T (cvW a.V wr.drew))
      have HMT := Lib.hid mT
      have HMTV := Lib.hid mTV
      have HMVT := Lib.hid mVT
      have hal1 : a.T.length ≤ 4194304 ∧ a.V.length ≤ 4194304 := by omega
      have HA2 := Lib.hid hal1.2
      have c1i := fvalue_any 1 _ (some ⟨wr.heap.size, 0, none⟩) (cvG a.T wr.drew) a.T (cvW a.V (cvW a.T wr.drew)) ((cv_rd a.T wr.drew).keep ((cv_mod a.V _).agree fun b hb => ⟨by rw [cv_size]; omega, id⟩)) hal1.1
      have c1ii := fvalue_any 1 _ (some ⟨wr.heap.size, 0, none⟩) (cvG a.T wr.drew) a.T (cvW a.T wr.drew) (cv_rd a.T wr.drew) hal1.1
      have c1iii := fvalue_any 1 _ (some ⟨(cvW a.V wr.drew).heap.size, 0, none⟩) (cvG a.T (cvW a.V wr.drew)) a.T (cvW a.T (cvW a.V wr.drew)) (cv_rd a.T (cvW a.V wr.drew)) hal1.1
      rw [show (((1 : UInt8).toNat : Nat) : Int) = 1 from rfl] at c1i c1ii c1iii
      have C1i := Lib.hid c1i
      have C1ii := Lib.hid c1ii
      have C1iii := Lib.hid c1iii
      obtain ⟨ka0, ka1, -⟩ := HK.out _ mT
      obtain ⟨kb0, kb1, -⟩ := HK.out _ mV
      obtain ⟨kc0, kc1, -⟩ := HK.out _ mTV
      obtain ⟨kd0, kd1, -⟩ := HK.out _ mVT
      clear hown hm ha hal H0 m0 mT mV mTV mVT hal1 c1i c1ii c1iii hK hK5 hn1 hn2 hn3 hn4
      go_wp2
      go_region_law (first
        | (go_simp; go_at_call 32
           (with_reducible refine C1i.out.mono ?_)
           rintro e w1 ⟨A1, c1, he, hown1, hm1⟩
           rw [← HN1.out] at he hown1
           subst he
           have M1 := HMTV.out.trans' hm1
           obtain ⟨ke0, ke1, -⟩ := HK.out _ M1
           obtain ⟨kf0, kf1, -⟩ := HK.out _ (M1.trans' (cv_mod a.V w1))
           have hc2 := fvalue_any 2 _ (some ⟨(cvW a.T wr.drew).heap.size, 0, none⟩) (cvG a.V (cvW a.T wr.drew)) a.V w1 ((cv_rd a.V (cvW a.T wr.drew)).keep (hm1.agree fun b hb => ⟨by rw [cv_size]; omega, id⟩)) HA2.out
           rw [show (((2 : UInt8).toNat : Nat) : Int) = 2 from rfl] at hc2
           have C2 := Lib.hid hc2
           have O1 := Lib.hid (hown1.less (base' := wr.heap.size) (by rw [cv_size, cv_size]; show wr.heap.size ≤ wr.heap.size + 1 + 1; omega))
           have MB := M1
           clear hc2
           clear hown1 hm1)
        | (go_simp; go_at_call 32
           (with_reducible refine C1ii.out.mono ?_)
           rintro e w1 ⟨A1, c1, he, hown1, hm1⟩
           rw [← HN1.out] at he hown1
           subst he
           have M1 := HMT.out.trans' hm1
           obtain ⟨ke0, ke1, -⟩ := HK.out _ M1
           obtain ⟨kf0, kf1, -⟩ := HK.out _ (M1.trans' (cv_mod a.V w1))
           have hc2 := fvalue_any 2 _ (some ⟨w1.heap.size, 0, none⟩) (cvG a.V w1) a.V (cvW a.V w1) (cv_rd a.V w1) HA2.out
           rw [show (((2 : UInt8).toNat : Nat) : Int) = 2 from rfl] at hc2
           have C2 := Lib.hid hc2
           have O1 := Lib.hid ((hown1.mod (cv_mod a.V w1) fun _ _ => id).less (base' := wr.heap.size) (by rw [cv_size]; show wr.heap.size ≤ wr.heap.size + 1; omega))
           have MB := M1.trans' (cv_mod a.V w1)
           clear hc2
           clear hown1 hm1)
        | (go_simp; go_at_call 32
           (with_reducible refine C1iii.out.mono ?_)
           rintro e w1 ⟨A1, c1, he, hown1, hm1⟩
           rw [← HN1.out] at he hown1
           subst he
           have M1 := HMVT.out.trans' hm1
           obtain ⟨ke0, ke1, -⟩ := HK.out _ M1
           obtain ⟨kf0, kf1, -⟩ := HK.out _ (M1.trans' (cv_mod a.V w1))
           have hc2 := fvalue_any 2 _ (some ⟨wr.heap.size, 0, none⟩) (cvG a.V wr.drew) a.V w1 (((cv_rd a.V wr.drew).keep ((cv_mod a.T (cvW a.V wr.drew)).agree fun b hb => ⟨by rw [cv_size]; omega, id⟩)).keep (hm1.agree fun b hb => ⟨by rw [cv_size, cv_size]; omega, id⟩)) HA2.out
           rw [show (((2 : UInt8).toNat : Nat) : Int) = 2 from rfl] at hc2
           have C2 := Lib.hid hc2
           have O1 := Lib.hid (hown1.less (base' := wr.heap.size) (by rw [cv_size, cv_size]; show wr.heap.size ≤ wr.heap.size + 1 + 1; omega))
           have MB := M1
           clear hc2
           clear hown1 hm1)
        | (go_simp; go_at_call 32
           (with_reducible refine C2.out.mono ?_)
           rintro e w2 ⟨A2, c2, he, hown2, hm2⟩
           rw [← HN2.out] at he hown2
           subst he
           have M2 := MB.trans' hm2
           have O2 := Lib.hid (O1.out.mod hm2 fun _ _ => id)
           have R2 := Lib.hid (rd_of5 hown2 csU_len)
           clear hown2 hm2)
        | (refine step_app (base := wr.heap.size) (xs := valV 1 a.T) (ys := valV 2 a.V) (v := .slice A1 n1 c1) rfl (.tmp 20) (.tmp 27) rfl u8s_t csU_len csU_one rfl O2.out c2 rfl HN2.out R2.out ?_ ?_ M2.size ?_
           · rw [← HN1.out, ← HN2.out]; simp [maxLen]; omega
           · rw [← HN1.out, ← HN2.out]; omega
           intro v3 w3 hown3 hm3 _
           have hown3 : OwnS wr.heap.size 5 1 csU w3 v3 (attrI a) := hown3
           obtain ⟨A3, c3, hv3, -, -, -⟩ := OwnS.rd hown3 csU_len
           rw [← HN3.out] at hv3
           subst hv3
           have M3 := M2.trans hm3 fun b hb => .inr (O2.out.fresh b hb).1
           have hc3 := fvalue_any 3 _ A3 c3 (attrI a) w3 (rd_of5 hown3 csU_len) (by rw [← HN3.out]; omega)
           rw [show (((3 : UInt8).toNat : Nat) : Int) = 3 from rfl, ← HN3.out] at hc3
           have C3 := Lib.hid hc3
           clear hown3 hm3 hc3)
        | (go_simp; go_at_call 32
           (with_reducible refine C3.out.mono ?_)
           rintro e w4 ⟨A4, c4, he, hown4, hm4⟩
           rw [← HN4.out] at he hown4
           subst he
           have M4 := M3.trans' hm4
           have R4 := Lib.hid (rd_of5 hown4 csU_len)
           have O4 := Lib.hid (HO.out.mod M4 fun _ _ => id)
           clear hown4 hm4)
        | (refine step_app (base := w.heap.size) (xs := attrsV (xs.take k)) (ys := attrV a) rfl (.tmp 13) (.tmp 29) rfl u8s_t csU_len csU_one rfl O4.out c4 rfl HN4.out R4.out ?_ ?_ (Nat.le_trans HM.out.size M4.size) ?_
           · rw [show (attrV a).length = n4 from HN4.out.symm]; simp [maxLen]; omega
           · rw [show (attrV a).length = n4 from HN4.out.symm]; omega
           intro v5 w5 hown5 hm5 _
           have O5 := Lib.hid hown5
           have M5 := (HM.out.trans' M4).trans hm5 fun b hb => .inr (O4.out.fresh b hb).1
           have M5' : Mod (fun b => w.heap.size ≤ b) wr w5 := (M4.mono fun _ _ h => h.elim).trans hm5 fun b hb => .inl (O4.out.fresh b hb).1
           clear hown5 hm5)
        | fail)
      all_goals
        go_wp2
        exact ⟨⟨k + 1, by omega, by go_num, by rw [HT.out]; exact O5.out, M5⟩, by simp only [intOf]; omega⟩
    · have hkl : xs.take k = xs := List.take_of_length_le (by rw [← HN.out]; omega)
      rw [hkl] at hown
      obtain ⟨A6, c6, hv6, -, -, -⟩ := OwnS.rd hown csU_len
      obtain ⟨n6, hn6⟩ : ∃ z, z = (attrsV xs).length := ⟨_, rfl⟩
      rw [← hn6] at hv6
      subst hv6
      have hc6 := fvalue_any t _ A6 c6 (attrsV xs) wr (rd_of5 hown csU_len) HL.out
      rw [← hn6] at hc6
      have C6 := Lib.hid hc6
      clear hc6 hown hm hkl hn6 H0
      go_wp2_with (first
        | (go_at_call 32
           (with_reducible refine C6.out.mono ?_)
           rintro e w7 ⟨A7, c7, rfl, hown7, hm7⟩
           have HO7 := Lib.hid hown7
           have HM7 := Lib.hid hm7
           clear hown7 hm7)
        | fail)
      go_ret
      exact ⟨A7, c7, rfl, HO7.out.less HM.out.size, HM.out.trans' HM7.out⟩
end Go.Proofs.YtccnkcaagigceaaGreat
