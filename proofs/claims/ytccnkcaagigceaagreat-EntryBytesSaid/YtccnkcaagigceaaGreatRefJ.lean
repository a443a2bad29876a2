/-
  The reference of the package entry: an entry's bytes.
-/
import Derived.Test.YtccnkcaagigceaaGreatRefI
namespace Go.Proofs.YtccnkcaagigceaaGreat
open Go.RowKit Go.Shelf
attribute [local go_sem] Oper.semAt_some

set_option maxRecDepth 100000 in
set_option maxHeartbeats 16000000 in
theorem gpack_any (nm : Bs) (A : Option Addr) (c : Nat) (xs : List At) (w : World) (hA : Rd (fun b => b < w.heap.size) w 2 At.cs A xs) (hx : xs.length ≤ 1099511627776) (hl : (attrsV xs).length ≤ 4000000) (hn1 : nm.length ≤ 100000) :
    Calls Tryz.prog 20 #[.agg #[.string ⟨nm.toArray⟩, .slice A xs.length c]] w fun e w' => ∃ A' c', e = .returned (.slice A' (packV nm xs).length c') ∧ OwnS w.heap.size 5 1 csU w' (.slice A' (packV nm xs).length c') (packV nm xs) ∧ Mod (fun _ => False) w w' := by
  obtain ⟨n, hn⟩ : ∃ n, n = xs.length := ⟨_, rfl⟩
  obtain ⟨W1, hW1⟩ : ∃ W1, W1 = w.alloc (.cells #[.string ⟨nm.toArray⟩, .slice A n c] 24) := ⟨_, rfl⟩
  have hm1 : Mod (fun _ => False) w W1 := by rw [hW1]; (repeat' (first | exact Mod.refl _ _ | assumption | refine Mod.alloc ?_ _ | refine Mod.drew ?_ | refine Mod.drewN ?_ _ | refine Mod.setCell ?_ (by first | exact Or.inl rfl | (right; simp; done) | (right; simp; omega) | (left; simp; done)) _))
  have hb1 : W1.heap[w.heap.size]? = some (.cells #[.string ⟨nm.toArray⟩, .slice A n c] 24 (0, 0)) := by rw [hW1]; exact hp_new _ _
  have hs1 : W1.heap.size = w.heap.size + 1 := by rw [hW1]; simp
  have hK := fun X (M : Mod (fun _ => False) W1 X) => (show X.cell? ⟨w.heap.size, 0, none⟩ = some (.string ⟨nm.toArray⟩) ∧ X.cell? ⟨w.heap.size, 1, none⟩ = some (.slice A n c) from ⟨by rw [hp_cell (hp_mod hb1 M id)]; rfl, by rw [hp_cell (hp_mod hb1 M id)]; rfl⟩)
  have HK := Lib.hid hK
  have HA := Lib.hid (fun X (hX : Mod (fun _ => False) w X) => (hA.mod hX (fun b hb => ⟨hb, id⟩)).mono (D' := fun b => b < X.heap.size) fun b hb => Nat.lt_of_lt_of_le hb hX.size)
  have HN := Lib.hid hn
  have HX := Lib.hid hx
  have HL := Lib.hid hl
  have HNm := Lib.hid hn1
  have HM1 := Lib.hid hm1
  have qN := fun X => cv_run nm X
  obtain ⟨n1, hn1'⟩ : ∃ z, z = (valV 1 nm).length := ⟨_, rfl⟩
  obtain ⟨n2, hn2'⟩ : ∃ z, z = (valV 2 (attrsV xs)).length := ⟨_, rfl⟩
  have l1 : n1 ≤ 100005 := by rw [hn1', valV_len]; omega
  have l2 : n2 ≤ 4000005 := by rw [hn2', valV_len]; omega
  have HN1 := Lib.hid hn1'
  have HN2 := Lib.hid hn2'
  have m0 : Mod (fun _ => False) W1 W1.drew := (Mod.refl _ _).drew
  have mT := m0.trans' (cv_mod nm W1.drew)
  have c1 := fvalue_any 1 _ (some ⟨W1.heap.size, 0, none⟩) (cvG nm W1.drew) nm (cvW nm W1.drew) (cv_rd nm W1.drew) (by omega)
  rw [show (((1 : UInt8).toNat : Nat) : Int) = 1 from rfl] at c1
  have C1 := Lib.hid c1
  have HMT := Lib.hid mT
  obtain ⟨ka0, ka1⟩ := HK.out _ (Mod.refl _ _)
  obtain ⟨kb0, kb1⟩ := HK.out _ m0
  obtain ⟨kc0, kc1⟩ := HK.out _ mT
  rw [← hn]
  have HW1 := Lib.hid hW1
  clear hA hx hl hn1 hn hm1 hb1 hK hn1' hn2' m0 mT c1 hs1 hW1
  go_enter Tryz.func20, Tryz.ntmps20
  go_wp2
  rw [← HW1.out]
  go_region_law (first
    | (go_simp; go_at_call 32
       (with_reducible refine C1.out.mono ?_)
       rintro e w1 ⟨A1, c1, he, hown1, hm1⟩
       rw [← HN1.out] at he hown1
       subst he
       have M1 := HMT.out.trans' hm1
       obtain ⟨ke0, ke1⟩ := HK.out _ M1
       have hc2 := gattrs_any 2 A c xs w1 (HA.out _ (HM1.out.trans' M1)) HX.out (Nat.le_trans HL.out (by omega))
       rw [show (((2 : UInt8).toNat : Nat) : Int) = 2 from rfl, ← HN.out] at hc2
       have C2 := Lib.hid hc2
       have O1 := Lib.hid (hown1.less (base' := w.heap.size) (Nat.le_trans HM1.out.size HMT.out.size))
       clear hown1 hm1 hc2)
    | (go_simp; go_at_call 13
       (with_reducible refine C2.out.mono ?_)
       rintro e w2 ⟨A2, c2, he, hown2, hm2⟩
       rw [← HN2.out] at he hown2
       subst he
       have M2 := M1.trans' hm2
       have O2 := Lib.hid (O1.out.mod hm2 fun _ _ => id)
       have R2 := Lib.hid (rd_of5 hown2 csU_len)
       clear hown2 hm2)
    | (refine step_app (base := w.heap.size) (xs := valV 1 nm) (ys := valV 2 (attrsV xs)) (v := .slice A1 n1 c1) rfl (.tmp 6) (.tmp 9) rfl u8s_t csU_len csU_one rfl O2.out c2 rfl HN2.out R2.out ?_ ?_ (Nat.le_trans HM1.out.size M2.size) ?_
       · rw [← HN1.out, ← HN2.out]; simp [maxLen]; omega
       · rw [← HN1.out, ← HN2.out]; omega
       intro v3 w3 hown3 hm3 _
       have hown3 : OwnS w.heap.size 5 1 csU w3 v3 (packV nm xs) := hown3
       have O3 := Lib.hid hown3
       have M3 := Lib.hid ((HM1.out.trans' M2).trans hm3 fun b hb => .inr (O2.out.fresh b hb).1)
       clear hown3 hm3)
    | fail)
  all_goals
    go_wp2
    go_ret
    obtain ⟨A3, c3, hv3, -, -, -⟩ := OwnS.rd O3.out csU_len
    subst hv3
    exact ⟨A3, c3, rfl, O3.out, M3.out⟩
end Go.Proofs.YtccnkcaagigceaaGreat
