/-
  The law FoldNil: what is too long.
-/
import Derived.Test.YtidbgfmknhlmnaaGreatDoorFoldQ
import Derived.Test.YtidbgfmknhlmnaaGreatDoorStr
import Derived.Laws.MakeOwn
import Derived.Laws.OwnMore
namespace Go.Proofs.YtidbgfmknhlmnaaGreatDoor
open Go.RowKit Go.Shelf Go.Sort
attribute [local go_sem] Oper.semAt_some run_makeMap

set_option maxRecDepth 100000 in
set_option maxHeartbeats 4000000 in
theorem fread_long (l : Bs) (w : World) (hl : 8388608 < l.length) : Calls Tryz.prog 28 #[.string ⟨l.toArray⟩] w fun e w' => (∃ b, e = .returned (.tuple #[.pointer none, .iface 47 (ptrV b)]) ∧ ErrAt w' b 0 3) ∧ Mod (fun _ => False) w w' := by
  have hlen : decide (8388608 < (l.length : Int)) = true := by simp; omega
  clear hl
  refine callsIn_wide.1 (callsIn_of_wp_marks (n := 0) (F := Fence.wide) Tryz.func28 rfl trivial ?_ rfl)
  simp only [Tryz.ntmps28, List.size_toArray, List.length_cons, List.length_nil, Nat.reduceAdd, Nat.reduceSub, Array.replicate_succ, Array.replicate_zero, List.push_toArray, List.append_toArray, List.nil_append, List.cons_append]
  gi_wp2
  obtain ⟨W, hW⟩ : ∃ W, W = ((w.alloc (.cells #[.pointer none] 24)).alloc (.cells #[.iface 47 (ptrV (w.heap.size + 1 + 1))] 43)).alloc (.cells #[.string ⟨nmFold.toArray⟩, .int .i64 0, .int .i64 3] 52) := ⟨_, rfl⟩
  have b0 : W.heap[w.heap.size]? = some (.cells #[.pointer none] 24 (0, 0)) := by rw [hW]; (repeat' (first | exact hp_new _ _ | exact hp_at _ _ (by simp; done) | refine hp_alloc ?_ _ | refine hp_drew ?_ | refine hp_drewN ?_ _ | apply hp_set | refine hp_far ?_ (by first | (simp; omega) | (simp; done)) _))
  have b1 : W.heap[w.heap.size + 1]? = some (.cells #[.iface 47 (ptrV (w.heap.size + 1 + 1))] 43 (0, 0)) := by rw [hW]; exact hp_alloc (hp_at _ _ (by simp)) _
  have b2 : ErrAt W (w.heap.size + 1 + 1) 0 3 := by unfold ErrAt; rw [hW]; exact hp_at _ _ (by simp)
  have M : Mod (fun _ => False) w W := by rw [hW]; (repeat' (first | exact Mod.refl _ _ | assumption | refine Mod.alloc ?_ _ | refine Mod.drew ?_ | refine Mod.drewN ?_ _ | refine Mod.setCell ?_ (by first | exact Or.inl rfl | (right; simp; done) | (right; simp; omega) | (left; simp; done)) _))
  have hc2 := hp_cell b0 0
  have hc3 := hp_cell b1 0
  change bodyPostM _ _ _ _ _ _ _ (((w.alloc (.cells #[.pointer none] 24)).alloc (.cells #[.iface 47 (ptrV (w.heap.size + 1 + 1))] 43)).alloc (.cells #[.string ⟨nmFold.toArray⟩, .int .i64 0, .int .i64 3] 52))
  rw [← hW]
  refine retM0 (v := .tuple #[.pointer none, .iface 47 (ptrV (w.heap.size + 1 + 1))]) rfl ?_ ⟨⟨_, rfl, b2⟩, M⟩
  simp [results, asAddr, go_sem] at hc2 hc3 ⊢
  simp [hc2, hc3, Result.andThen]
theorem dcheck_long (l : Bs) (w : World) (hl : 8388608 < l.length) : Calls Tryz.prog 17 #[.string ⟨l.toArray⟩] w fun e w' => (∃ b, e = .returned (.iface 47 (ptrV b)) ∧ ErrAt w' b 0 3) ∧ Mod (fun _ => False) w w' := by
  have H := Lib.hid (fread_long l w hl)
  clear hl
  go_enter Tryz.func17, Tryz.ntmps17
  go_wp2_with (first | (go_at_call 28; (with_reducible refine H.out.mono ?_); rintro e w1 ⟨⟨b, rfl, he⟩, hm⟩) | fail)
  go_ret
  exact ⟨⟨b, rfl, he⟩, hm⟩
set_option maxRecDepth 100000 in
set_option maxHeartbeats 1000000 in
theorem dof_long (l : Bs) (w : World) (hl : 8388608 < l.length) (het : ErrT w) : Calls Tryz.prog 9 #[.string ⟨l.toArray⟩] w fun e w' => e = .returned (.tuple #[.pointer none, .int .i64 3]) ∧ Mod (fun _ => False) w w' := by
  have H := Lib.hid (fread_long l w hl)
  have HET := Lib.hid het
  clear het hl
  go_enter Tryz.func9, Tryz.ntmps9
  go_wp2_with (first
    | (go_at_call 28
       (with_reducible refine H.out.mono ?_)
       rintro e w1 ⟨⟨b, rfl, he⟩, hm⟩
       have HE := Lib.hid he
       have HM := Lib.hid hm
       have hg : (w1.alloc (.cells #[.pointer none] 47)).cell? ⟨0, 0, none⟩ = some (.iface 114 (.agg #[.pointer (some ⟨4, 43, none⟩)])) := (HET.out.mod hm id).mod ((Mod.refl (fun _ => False) w1).alloc _) id
       have HA := Lib.hid (as_hit ⟨b, 0, none⟩ ⟨w1.heap.size, 0, none⟩ (.pointer none) (w1.alloc (.cells #[.pointer none] 47)) hg (hp_cell (hp_new _ _) 0) (hp_free (hp_new _ _) 0))
       clear he hm hg)
    | (go_at_call 19
       (with_reducible refine HA.out.mono ?_)
       rintro ev w2 ⟨rfl, hw2⟩
       have M2 : Mod (fun _ => False) w1 w2 := by subst hw2; (repeat' (first | exact Mod.refl _ _ | assumption | refine Mod.alloc ?_ _ | refine Mod.drew ?_ | refine Mod.drewN ?_ _ | refine Mod.setCell ?_ (by first | exact Or.inl rfl | (right; simp; done) | (right; simp; omega) | (left; simp; done)) _))
       have k2 : w2.cell? ⟨w1.heap.size, 0, none⟩ = some (ptrV b) := by
         have := hp_cell (hp_set (hp_alloc (hp_alloc (hp_alloc (hp_alloc (hp_new w1 (.cells #[.pointer none] 47 (0, 0))) (.cells #[.pointer (some ⟨w1.heap.size, 0, none⟩)] 49 (0, 0))) (.cells #[.pointer (some ⟨4, 49, none⟩), .pointer (some ⟨(w1.alloc (.cells #[.pointer none] 47)).heap.size, 0, none⟩), .int .u64 150] 83 (0, 0))) (.cells #[.pointer (some ⟨4, 49, none⟩), .pointer (some ⟨(w1.alloc (.cells #[.pointer none] 47)).heap.size, 0, none⟩), .int .u64 150] 83 (0, 0))) (.cells #[ptrV b] 47 (0, 0))) 0 (ptrV b)) 0
         rw [hw2]
         simpa using this
       have k3 := hp_cell (hp_mod HE.out M2 id) 2
       have HM2 := Lib.hid M2
       clear hw2 M2)
    | fail)
  go_quiet (fail)
  go_wp2
  refine bodyPost_ret (v := .tuple #[.pointer none, .int .i64 3]) (by simp [results, Tryz.results9, go_sem]) rfl ?_
  exact ⟨rfl, (HM.out.trans' HM2.out).drewN _⟩
theorem zeros_cells (n : Nat) : (List.replicate n (0 : UInt8)).flatMap csU = List.replicate n (.int .u8 0) := by
  induction n with
  | zero => rfl
  | succ n ih => rw [List.replicate_succ, List.replicate_succ, List.flatMap_cons, ih]; rfl
set_option maxRecDepth 100000 in
/-- A great slice of zeros, made and read as a text. -/
theorem zeros_made : ∃ (N : Nat) (cz : Array Value) (S : Bs), 8388608 < S.length ∧ S.length = N ∧ cz.toList = S.flatMap csU ∧ ∀ X : World, (Instr.makeSlice 64 (.int .i64 8388609) (.int .i64 8388609)).run Tryz.prog X = .ok (.slice (some ⟨X.heap.size, 0, none⟩) N N) (X.alloc (.cells cz 5)) := by
  obtain ⟨i, h1, h2, h3, h4⟩ := info_parts (show (Tryz.prog.info? 5).map (fun i => (i.zero, i.size, i.bytes)) = some (some (.int .u8 0), 1, 1) by kernel_rfl)
  have h := fun X : World => run_makeSlice (P := Tryz.prog) (w := X) 64 5 i (.int .u8 0) Tryz.underlying64 h1 h2 .i64 .i64 8388609 8388609 (by decide) (by decide) (by rw [h3]; decide) (by rw [h4]; decide) (by decide)
  rw [h3] at h
  refine ⟨(8388609 : Int).toNat, _, List.replicate (8388609 : Int).toNat 0, ?_, ?_, ?_, h⟩
  · rw [List.length_replicate]; decide
  · rw [List.length_replicate]
  · have e : (Value.int .u8 0).cells = #[Value.int .u8 0] := rfl
    rw [e, zeros_cells]
    refine (toList_madeCells_one _ _).trans ?_
    rw [Nat.mul_one]
def nlI (z : Nat) (k : Nat) (C : Nat → Prop) (W : World) : Prop := W.heap[z]? = some (.cells #[.int .i64 0] 3 (0, 0)) ∧ C = fun b => b = z
set_option maxRecDepth 100000 in
set_option maxHeartbeats 16000000 in
theorem foldNil_any (w : World) (hmx : MaxVar w) (het : ErrT w) : Calls Tryz.prog 7 #[] w fun e w' => e = .returned (.bool true) ∧ Mod (fun _ => False) w w' := by
  have HK := Lib.hid (fun X (hX : Mod (fun _ => False) w X) => known_any X (hmx.mod hX id) (het.mod hX id))
  obtain ⟨N, cz, S, hSl, hSn, hcz, hmk⟩ := zeros_made
  obtain ⟨B, hB⟩ : ∃ B, B = w.heap.size := ⟨_, rfl⟩
  have HConv := Lib.hid (show ∀ X : World, X.heap[B + 1]? = some (.cells cz 5 (0, 0)) → (convert 64 9 (.slice (some ⟨B + 1, 0, none⟩) N N)).run Tryz.prog X = .ok (.string ⟨S.toArray⟩) X from fun X hX => by
    have h := run_str_of (Rd.blk (cs := csU) csU_len hX hcz) N
    rwa [hSn] at h)
  have HOf := Lib.hid (fun X (hX : Mod (fun _ => False) w X) => dof_long S X hSl (het.mod hX id))
  have HCk := Lib.hid (fun X => dcheck_long S X hSl)
  have HAll := Lib.hid (fun X => dallI_any (fun _ => False) (.pointer none) [] [] rfl X (.inl ⟨rfl, rfl⟩) (fun _ h => h.elim) (by decide))
  have HFull := Lib.hid (show ∀ X, Calls Tryz.prog 15 #[.pointer none, .int .i32 65] X fun e w' => ∃ A c, e = .returned (.slice A 1 c) ∧ Rd (fun b => b < w'.heap.size) w' 1 csI A [65] ∧ Mod (fun _ => False) X w' from fun X => by
    refine (dfull_any (fun _ => False) (.pointer none) [] 65 X (.inl ⟨rfl, rfl⟩)).mono ?_
    rintro e w' ⟨u, rfl, ho, hm⟩
    obtain ⟨A, c, rfl, hr, hf, -⟩ := ho.rd csI_len
    exact ⟨A, c, rfl, hr.mono fun b hb => (hf b hb).2, hm⟩)
  have HLen := Lib.hid (show ∀ X, Calls Tryz.prog 25 #[.pointer none] X fun e w' => e = .returned (.int .i64 0) ∧ Mod (fun _ => False) X w' from fun X => dlen_any (fun _ => False) (.pointer none) [] [] rfl X (.inl ⟨rfl, rfl⟩) (fun _ h => h.elim) (by decide))
  have HStill := Lib.hid (show ∀ X, Calls Tryz.prog 21 #[.pointer none] X fun e w' => e = .returned (.bool true) ∧ Mod (fun _ => False) X w' from fun X => dstill_any (fun _ => False) (.pointer none) [] [] rfl X (.inl ⟨rfl, rfl⟩) (fun _ h => h.elim) (by decide))
  have HZ := Lib.hid (show ∀ X : World, X.cell? ⟨B, 0, none⟩ = some (.map none) → FoldIn (fun b => b = B) X (ptrV B) [] from fun X h => .inr (.inl ⟨B, rfl, rfl, h, rfl⟩))
  have HSim := Lib.hid (show ∀ X : World, X.cell? ⟨B, 0, none⟩ = some (.map none) → Calls Tryz.prog 22 #[ptrV B, .int .i32 65] X fun e w' => e = .returned (.int .i32 65) ∧ X = w' from fun X h => dsimple_any _ (ptrV B) [] 65 X (HZ.out X h))
  have HText := Lib.hid (show ∀ (X : World) (b : Nat), X.cell? ⟨B, 0, none⟩ = some (.map none) → X.heap[b]? = some (.cells #[.int .i32 65] 21 (0, 0)) → Calls Tryz.prog 16 #[ptrV B, .slice (some ⟨b, 0, none⟩) 1 1] X fun e w' => ∃ A c, e = .returned (.slice A 1 c) ∧ Rd (fun b => b < w'.heap.size) w' 1 csI A [65] ∧ Mod (fun _ => False) X w' from fun X b h hb => by
    refine (dtext_any _ (fun q => q = b) (ptrV B) [] (some ⟨b, 0, none⟩) 1 [65] X (HZ.out X h) (fun q hq => by have hq : q = B := hq; subst hq; exact cell_lt h) (Rd.one hb rfl) (fun q hq => by have hq : q = b := hq; subst hq; exact hp_lt hb) (by decide)).mono ?_
    rintro e w' ⟨u, rfl, ho, hm⟩
    obtain ⟨A, c, rfl, hr, hf, -⟩ := ho.rd csI_len
    exact ⟨A, c, rfl, hr.mono fun b hb => (hf b hb).2, hm⟩)
  have q0 := HConv.out ((w.alloc (.cells #[.map none, .map none] 63)).alloc (.cells cz 5)) (hp_at _ _ (by simp [hB]))
  have hnf := fun W' => run_eql_func_nil (P := Tryz.prog) W' Tryz.underlying66 (.func 44) #[]
  have HB := Lib.hid hB
  rw [hB] at q0
  clear hmx het hSl hSn hcz HZ hB
  refine callsIn_wide.1 (callsIn_of_wp_marks (n := 0) (F := Fence.wide) Tryz.func7 rfl trivial ?_ rfl)
  simp only [Tryz.ntmps7, List.size_toArray, List.length_cons, List.length_nil, Nat.reduceAdd, Nat.reduceSub, Array.replicate_succ, Array.replicate_zero, List.push_toArray, List.append_toArray, List.nil_append, List.cons_append]
  gi_wp2_with (first
    | ((refine ⟨trivial, rfl, ?_⟩; gi_at_call 9); (with_reducible refine ci (HOf.out _ (by (repeat' (with_reducible (first | exact Mod.refl _ _ | assumption | refine Mod.alloc ?_ _ | refine Mod.drew ?_ | refine Mod.drewN ?_ _ | refine Mod.setCell ?_ (by first | exact Or.inl rfl | (right; simp; done) | (right; simp; omega) | (left; simp; done)) _))))) ?_); rintro e w1 ⟨rfl, hm1⟩
       have Z0 : w1.heap[w.heap.size]? = some (.cells #[.map none, .map none] 63 (0, 0)) := hp_mod (by (repeat' (first | exact hp_new _ _ | exact hp_at _ _ (by simp; done) | refine hp_alloc ?_ _ | refine hp_drew ?_ | refine hp_drewN ?_ _ | apply hp_set | refine hp_far ?_ (by first | (simp; omega) | (simp; done)) _))) hm1 id
       have Z1 : w1.heap[w.heap.size + 1]? = some (.cells cz 5 (0, 0)) := hp_mod (hp_at _ _ (by simp)) hm1 id
       have M1 : Mod (fun _ => False) w w1 := Mod.trans' (by (repeat' (first | exact Mod.refl _ _ | assumption | refine Mod.alloc ?_ _ | refine Mod.drew ?_ | refine Mod.drewN ?_ _ | refine Mod.setCell ?_ (by first | exact Or.inl rfl | (right; simp; done) | (right; simp; omega) | (left; simp; done)) _))) hm1
       have HZ0 := Lib.hid Z0
       have HZ1 := Lib.hid Z1
       have hs1 := hm1.size
       clear Z0 Z1 q0 hm1)
    | ((refine ⟨trivial, rfl, ?_⟩; gi_at_call 27); (with_reducible refine ci (HAll.out _) ?_); rintro e w2 ⟨bl2, bf2, rfl, -, hm2⟩; clear HOf)
    | ((refine ⟨trivial, rfl, ?_⟩; gi_at_call 27); (with_reducible refine ci (HAll.out _) ?_); rintro e w3 ⟨bl, bf, rfl, hit, hm3⟩)
    | fail)
  obtain ⟨Z, hZ⟩ : ∃ Z, Z = w1.heap.size := ⟨_, rfl⟩
  have z0 : w3.heap[w1.heap.size]? = some (.cells #[.int .i64 0] 3 (0, 0)) := hp_mod (hp_mod (hp_new _ _) hm2 id) hm3 id
  have M13 : Mod (fun _ => False) w1 w3 := Mod.trans' (Mod.trans' (by (repeat' (first | exact Mod.refl _ _ | assumption | refine Mod.alloc ?_ _ | refine Mod.drew ?_ | refine Mod.drewN ?_ _ | refine Mod.setCell ?_ (by first | exact Or.inl rfl | (right; simp; done) | (right; simp; omega) | (left; simp; done)) _))) hm2) hm3
  have hs2 := hm2.size
  have hs3 := hm3.size
  simp only [World.size_alloc] at hs1 hs2
  rw [← hZ] at z0 hs1 hs2 ⊢
  have HZz := Lib.hid hZ
  have HM3 := Lib.hid (M1.trans' M13)
  have HB0 := Lib.hid (hp_mod HZ0.out M13 id)
  have HB1 := Lib.hid (hp_mod HZ1.out M13 id)
  clear hZ hm2 hm3 M13 M1 hmk
  refine wp_rangeG (gf := 44) (lb := #[ptrV bl, ptrV bf]) rfl (enters_of Tryz.func44 (by kernel_rfl) rfl) foldIt_ok hit
    (fun b hb => by
      rcases hb with (hb | hb) | h
      · exact hb.elim
      · exact hb.2
      · exact h.elim) rfl
    (nlI Z) noX (fun _ _ _ _ _ _ => True) (fun k C X Y ⟨h1, h2⟩ hA => ⟨hp_agree h1 hA (by rw [h2]), h2⟩) (fun c k C X Y h hA => h)
    (fun T enc a' k C X Y h hA => trivial)
    (fun b => b = Z) (fun b hb => by
      subst hb
      refine ⟨by omega, fun hd => ?_, id⟩
      rcases hd with hd | hd
      · exact hd
      · have := hd.1; omega) ⟨z0, rfl⟩ trivial (fun l k hk => absurd hk (Nat.not_lt_zero k)) (fun l k hk => absurd hk (Nat.not_lt_zero k)) ?done (fun _ _ _ _ _ _ h => h.elim)
  rintro W' C' ⟨h1, rfl⟩ _ hm' hb' hK hn'
  have MW : Mod (fun b => b = Z) w3 W' := hm'.mono fun b _ h => h.elim id False.elim
  have B0 := hp_mod HB0.out MW (by omega)
  have B1 := hp_mod HB1.out MW (by omega)
  have q1 := HConv.out W' (by rw [HB.out]; exact B1)
  have c0 := hp_cell B0 0
  have HB0w := Lib.hid B0
  have H1 := Lib.hid h1
  have HKd := Lib.hid hK
  have HMw := Lib.hid (HM3.out.trans MW fun b hb => .inr (by omega))
  rw [HB.out] at q1
  clear B0 B1 h1 hm' hb' hK hn' MW z0 hit hnf
  gi_wp2_with (first
    | ((refine ⟨trivial, rfl, ?_⟩; gi_at_call 11); refine ci (lnum_any _ _) ?_; rintro e w4 ⟨rfl, rfl⟩)
    | ((refine ⟨trivial, rfl, ?_⟩; gi_at_call 17); (with_reducible refine ci (HCk.out _) ?_); rintro e w5 ⟨⟨b, rfl, he⟩, hm5⟩
       have HIs := Lib.hid (is_table b 0 3 w5 he)
       clear he q1)
    | ((refine ⟨trivial, rfl, ?_⟩; gi_at_call 20); (with_reducible refine ci HIs.out ?_); rintro e w6 ⟨rfl, rfl⟩)
    | ((refine ⟨trivial, rfl, ?_⟩; gi_at_call 15); (with_reducible refine ci (HFull.out _) ?_); rintro e w7 ⟨A7, c7, rfl, hr7, hm7⟩
       have M7 := hm5.trans' hm7
       have HSm := Lib.hid (fun X hX b hw => same_blk A7 c7 1 [65] (c := #[.int .i32 65]) rfl ⟨by simp, rfl⟩ w7 X hr7 hX b hw)
       clear hr7 hm7 hm5 HCk)
    | ((refine ⟨trivial, rfl, ?_⟩; gi_at_call 13); (with_reducible refine ci (HSm.out _ (by (repeat' (with_reducible (first | exact Mod.refl _ _ | assumption | refine Mod.alloc ?_ _ | refine Mod.drew ?_ | refine Mod.drewN ?_ _ | refine Mod.setCell ?_ (by first | exact Or.inl rfl | (right; simp; done) | (right; simp; omega) | (left; simp; done)) _)))) _ (hp_new _ _)) ?_); rintro e w8 ⟨rfl, hm8⟩
       have M8 : Mod (fun _ => False) W' w8 := Mod.trans' (M7.alloc _) hm8
       have c08 := cell_mod c0 M8 id
       have HSim := Lib.hid (HSim.out w8 (by rw [HB.out]; exact c08))
       have HTx := Lib.hid (HText.out (w8.alloc (.cells #[.int .i32 65] 21)) w8.heap.size (by rw [HB.out]; exact cell_mod c08 ((Mod.refl (fun _ => False) w8).alloc _) id) (hp_new _ _))
       rw [HB.out] at HSim HTx
       clear hm8 HFull HText)
    | ((refine ⟨trivial, rfl, ?_⟩; gi_at_call 22); (with_reducible refine ci HSim.out ?_); rintro e w9 ⟨rfl, rfl⟩)
    | ((refine ⟨trivial, rfl, ?_⟩; gi_at_call 16); (with_reducible refine ci HTx.out ?_); rintro e w10 ⟨A10, c10, rfl, hr10, hm10⟩
       have M10 : Mod (fun _ => False) W' w10 := Mod.trans' (M8.alloc _) hm10
       have HSn := Lib.hid (fun X hX b hw => same_blk A10 c10 1 [65] (c := #[.int .i32 65]) rfl ⟨by simp, rfl⟩ w10 X hr10 hX b hw)
       clear hr10 hm10 HSm)
    | ((refine ⟨trivial, rfl, ?_⟩; gi_at_call 13); (with_reducible refine ci (HSn.out _ (by (repeat' (with_reducible (first | exact Mod.refl _ _ | assumption | refine Mod.alloc ?_ _ | refine Mod.drew ?_ | refine Mod.drewN ?_ _ | refine Mod.setCell ?_ (by first | exact Or.inl rfl | (right; simp; done) | (right; simp; omega) | (left; simp; done)) _)))) _ (hp_new _ _)) ?_); rintro e w11 ⟨rfl, hm11⟩
       have M11 : Mod (fun _ => False) W' w11 := Mod.trans' (M10.alloc _) hm11
       have k11 := hp_cell (hp_mod H1.out M11 id) 0
       clear hm11)
    | ((refine ⟨trivial, rfl, ?_⟩; gi_at_call 25); (with_reducible refine ci (HLen.out _) ?_); rintro e w12 ⟨rfl, hm12⟩
       have M12 := M11.trans' hm12)
    | ((refine ⟨trivial, rfl, ?_⟩; gi_at_call 21); (with_reducible refine ci (HStill.out _) ?_); rintro e w13 ⟨rfl, hm13⟩
       have M13 := M12.trans' hm13
       have M13w := HMw.out.trans' M13)
    | ((refine ⟨trivial, rfl, ?_⟩; gi_at_call 8); (with_reducible refine ci (HK.out _ (by (repeat' (with_reducible (first | exact Mod.refl _ _ | assumption | refine Mod.alloc ?_ _ | refine Mod.drew ?_ | refine Mod.drewN ?_ _ | refine Mod.setCell ?_ (by first | exact Or.inl rfl | (right; simp; done) | (right; simp; omega) | (left; simp; done)) _))))) ?_); rintro e w14 ⟨rfl, hm14⟩
       have hK14 := hp_mod HKd.out (M13.trans' hm14) id)
    | fail)
  first
  | refine endM1 rfl hK14 (results_tmp rfl _ _ _) ⟨rfl, ?_⟩
  | refine retM1 rfl hK14 (results_tmp rfl _ _ _) ⟨rfl, ?_⟩
  exact Mod.putObj (M13w.trans' hm14) (.inr HM3.out.size) _
end Go.Proofs.YtidbgfmknhlmnaaGreatDoor
