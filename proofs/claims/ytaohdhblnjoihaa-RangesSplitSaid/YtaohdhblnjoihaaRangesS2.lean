/-
  The law RangesSplit: the great case.
-/
import Derived.Test.YtaohdhblnjoihaaRangesS
import Derived.IntWalk
namespace Go.Proofs.Ytaohdhblnjoihaa
open Go.RowKit Go.Shelf
attribute [local go_sem] Oper.semAt_some

set_option maxRecDepth 100000 in
set_option maxHeartbeats 8000000 in
theorem split_ok (A : Option Addr) (c : Nat) (xs : List Rg) (x : Rg) (t : Int) (w : World) (hA : Rd (fun b => b < w.heap.size) w 3 Rg.cs A xs) (hf : ∀ y ∈ xs, FitR y) (hx : FitR x) (hs : SplitOk xs.length x t) (he : errR xs = 0) (h1 : errR (mapR xs ++ [x]) = 0) :
    Calls Try.prog 3 #[.slice A xs.length c, x.val, .int .i32 t] w fun e w' => e = .returned (.bool true) ∧ Mod (fun _ => False) w w' := by
  obtain ⟨s0, s1, s2, s3, s4, s5, s6⟩ := hs
  have HA := Lib.hid (fun X (hX : Mod (fun _ => False) w X) => rd_keep hA hX)
  have hof := fun X (hX : Mod (fun _ => False) w X) => of_ok A c xs X (rd_keep hA hX) (by omega) hf he
  have hfx : ∀ y ∈ mapR xs ++ [x], FitR y := fun y hy => by
    rcases List.mem_append.1 hy with h | h
    · exact fit_mapR hf y h
    · obtain rfl := List.mem_singleton.1 h; exact hx
  have hw := fun b X hM => with_ok b (mapR xs) x X hM (by have := len_mapR xs; omega) hfx h1
  obtain ⟨k1, k2, k3⟩ := more_back he h1
  have hfit : ∀ q : List Rg, (∀ y ∈ q, FitR y) → ∀ y ∈ xs ++ q, FitR y := fun q hq y hy => by
    rcases List.mem_append.1 hy with h | h
    · exact hf y h
    · exact hq y h
  have hfx1 : ∀ y ∈ [x], FitR y := fun y hy => by obtain rfl := List.mem_singleton.1 hy; exact hx
  obtain ⟨n, hn⟩ : ∃ n, n = xs.length := ⟨_, rfl⟩
  obtain ⟨ms, hms⟩ : ∃ ms, ms = mapR xs := ⟨_, rfl⟩
  obtain ⟨mo, hmo⟩ : ∃ mo, mo = mapR (ms ++ [x]) := ⟨_, rfl⟩
  have hrj := fun A c (X : World) (hR : Rd (fun b => b < X.heap.size) X 3 Rg.cs A (xs ++ [x])) => rrof_map A c (xs ++ [x]) X hR (by simp; omega) (hfit _ hfx1)
  obtain ⟨p1, p2⟩ := mapR_parts k1 (parts_two s1 s4 s5)
  have hrt := fun A c (X : World) (hR : Rd (fun b => b < X.heap.size) X 3 Rg.cs A (xs ++ [⟨t + 1, x.hi, x.v⟩, ⟨x.lo, t, x.v⟩])) => of_ok A c _ X hR (by simp; omega) (hfit _ (by unfold FitR at hx; simp [FitR]; omega)) p1
  obtain ⟨N, hN⟩ : ∃ N : Nat, (N : Int) = x.hi - x.lo + 1 := ⟨(x.hi - x.lo + 1).toNat, by omega⟩
  obtain ⟨q1, q2⟩ := mapR_parts k1 (parts_singles ⟨s1, s2⟩ hN)
  have hrs := fun A c (X : World) (hR : Rd (fun b => b < X.heap.size) X 3 Rg.cs A (xs ++ singles x.lo x.v N)) => of_ok A c _ X hR (by simp [singles_len]; omega) (hfit _ (by
    intro y hy
    obtain ⟨i, hi, rfl⟩ := List.mem_map.1 hy
    simp at hi
    simp [FitR]
    omega)) q1
  rw [p2, k2, ← hms, ← hmo] at hrt
  rw [q2, k2, ← hms, ← hmo] at hrs
  rw [k1, k2, ← hms, ← hmo] at hrj
  rw [← hms, ← hmo] at hw
  rw [← hms] at hof
  rw [← hms, ← hmo] at k3
  have hl1 : (xs ++ [x]).length = n + 1 := by simp [hn]
  have hl2 : (xs ++ [(⟨t + 1, x.hi, x.v⟩ : Rg), ⟨x.lo, t, x.v⟩]).length = n + 2 := by simp [hn]
  have hl3 : (xs ++ singles x.lo x.v N).length = n + N := by simp [hn, singles_len]
  rw [hl1] at hrj
  rw [hl2] at hrt
  rw [hl3] at hrs
  rw [← hn] at hof s0 ⊢
  have HN := Lib.hid hn
  have HOf := Lib.hid hof
  have HRj := Lib.hid hrj
  have HRt := Lib.hid hrt
  have HRs := Lib.hid hrs
  have HLj := Lib.hid hl1
  have HLt := Lib.hid hl2
  have HLs := fun k => Lib.hid (show (xs ++ singles x.lo x.v k).length = n + k by simp [hn, singles_len])
  have HQj := Lib.hid (show 0 + xs.length ≤ maxLen ∧ (0 + xs.length) * 16 ≤ 140737488355328 ∧ xs.length + [x].length ≤ maxLen ∧ (xs.length + [x].length) * 16 ≤ 140737488355328 by simp [maxLen]; omega)
  have HQt := Lib.hid (show 0 + xs.length ≤ maxLen ∧ (0 + xs.length) * 16 ≤ 140737488355328 ∧ xs.length + [(⟨t + 1, x.hi, x.v⟩ : Rg), ⟨x.lo, t, x.v⟩].length ≤ maxLen ∧ (xs.length + [(⟨t + 1, x.hi, x.v⟩ : Rg), ⟨x.lo, t, x.v⟩].length) * 16 ≤ 140737488355328 by simp [maxLen]; omega)
  have hmsl : ms.length ≤ 200 := by rw [hms]; exact Nat.le_trans (len_mapR _) (by omega)
  have hmol : mo.length ≤ 201 := by rw [hmo]; exact Nat.le_trans (len_mapR _) (by simp; omega)
  have hfms : ∀ y ∈ ms, FitR y := by rw [hms]; exact fit_mapR hf
  have hfmo : ∀ y ∈ mo, FitR y := by rw [hmo, hms]; exact fit_mapR hfx
  have hbd := tot_bd ms hfms
  have hN' : (N : Int) = x.hi - x.lo + 1 := hN
  have hNl : N ≤ 100 := by omega
  obtain ⟨tms, htms⟩ : ∃ tms, tms = tot ms := ⟨_, rfl⟩
  have hmany7 := fun b X hM => many_map b ms X hM (by omega) hfms
  have hmany8 := fun b X hM => many_map b mo X hM (by omega) hfmo
  rw [← htms] at hmany7 k3 hbd
  have k4 : tot mo = tms + (x.hi - x.lo) + 1 := by omega
  rw [k4] at hmany8
  have hb1 : -4294967297000000 ≤ tms := by omega
  have hb2 : tms ≤ 4294967297000000 := by omega
  have HMany7 := Lib.hid hmany7
  have HMany8 := Lib.hid hmany8
  have HNN := Lib.hid hN'
  unfold Rg.val at hw ⊢
  have HW := Lib.hid hw
  clear hn hof hrj hrt hrs hl1 hl2 hl3 hms hmo hfms hfmo hbd htms k4 hmany7 hmany8 k1 k2 k3 p1 p2 q1 q2 hN hN' hw hfx hfx1 hfit hf he h1 hA hx
  go_enter Try.func3, Try.ntmps3
  go_wp2_with (first
    | (go_at_call 8
       refine (HOf.out _ (by (repeat' (first | exact Mod.refl _ _ | assumption | refine Mod.alloc ?_ _ | refine Mod.drew ?_ | refine Mod.drewN ?_ _ | refine Mod.setCell ?_ (by first | exact Or.inl rfl | (right; simp; done) | (right; simp; omega) | (left; simp; done)) _)))).mono ?_
       rintro e w7 ⟨b7, rfl, hM7, hm7⟩
       have hxc : w7.heap[w.heap.size]? = some (.cells #[.int .i32 x.lo, .int .i32 x.hi, .int .i64 x.v] 24 (0, 0)) := hp_mod (by (repeat' (first | exact hp_new _ _ | exact hp_at _ _ (by simp; done) | refine hp_alloc ?_ _ | refine hp_drew ?_ | refine hp_drewN ?_ _ | apply hp_set | refine hp_far ?_ (by first | (simp; omega) | (simp; done)) _))) hm7 id
       have HX7 := Lib.hid hxc
       have x0 := hp_cell hxc 0
       have x1 := hp_cell hxc 1
       have x2 := hp_cell hxc 2
       have M7 := (show Mod (fun _ => False) w _ by (repeat' (first | exact Mod.refl _ _ | assumption | refine Mod.alloc ?_ _ | refine Mod.drew ?_ | refine Mod.drewN ?_ _ | refine Mod.setCell ?_ (by first | exact Or.inl rfl | (right; simp; done) | (right; simp; omega) | (left; simp; done)) _))).trans' hm7
       clear hxc)
    | (go_at_call 9
       refine (HW.out b7 _ hM7).mono ?_
       rintro e w8 ⟨b8, rfl, hM8, hm8⟩
       have hxc := hp_mod HX7.out hm8 id
       have x0 := hp_cell hxc 0
       have x1 := hp_cell hxc 1
       have x2 := hp_cell hxc 2
       have hx8 := hp_lt hxc
       have HX8 := Lib.hid hxc
       have M8 := M7.trans' hm8
       clear hxc)
    | (go_at_call 10; refine (num_any _ _).mono ?_; rintro e w' ⟨rfl, rfl⟩)
    | fail)
  have HA8 := Lib.hid (fun X (hX : Mod (fun _ => False) w8 X) => HA.out X (M8.trans' hX))
  have HMap7 := Lib.hid (fun X (hX : Mod (fun _ => False) w8 X) => hM7.mod (hm8.trans' hX))
  have HMap8 := Lib.hid (fun X (hX : Mod (fun _ => False) w8 X) => hM8.mod hX)
  clear hM7 hM8 hm8 hm7 M7
  go_region_held3 (fun W => W.cell? ⟨w.heap.size, 0, none⟩ = some (.int .i32 x.lo) ∧ W.cell? ⟨w.heap.size, 1, none⟩ = some (.int .i32 x.hi) ∧ W.cell? ⟨w.heap.size, 2, none⟩ = some (.int .i64 x.v)) (first | exact ⟨x0, x1, x2⟩ | exact ⟨sj0, sj1, sj2⟩ | exact ⟨uj0, uj1, uj2⟩ | exact ⟨vj0, vj1, vj2⟩ | exact ⟨(World.cell?_alloc_lt _ _ _ hx8).trans x0, (World.cell?_alloc_lt _ _ _ hx8).trans x1, (World.cell?_alloc_lt _ _ _ hx8).trans x2⟩ | exact ⟨(World.cell?_alloc_lt _ _ _ hxj).trans sj0, (World.cell?_alloc_lt _ _ _ hxj).trans sj1, (World.cell?_alloc_lt _ _ _ hxj).trans sj2⟩ | fail) (first
    | (refine step_app (base := w8.heap.size) (xs := []) (ys := xs) (v := .slice none 0 0) rfl _ (.tmp 79) rfl rgs_t Rg.cs_len Rg.cs_one rfl (OwnS.nil _ _ _ _ _) c rfl HN.out (HA8.out _ (by (repeat' (first | exact Mod.refl _ _ | assumption | refine Mod.alloc ?_ _ | refine Mod.drew ?_ | refine Mod.drewN ?_ _ | refine Mod.setCell ?_ (by first | exact Or.inl rfl | (right; simp; done) | (right; simp; omega) | (left; simp; done)) _)))) ?_ ?_ ?_ ?_
       · exact HQj.out.1
       · exact HQj.out.2.1
       · first | exact Nat.le_refl _ | (simp; done)
       intro vaj waj howna hmax _
       have hmaj : Mod (fun _ => False) _ waj := hmax.mono (fun b _ h => by simp [Value.ownBlock] at h)
       rw [List.nil_append] at howna
       obtain ⟨Aaj, caj, hva, -, hfaj, -⟩ := OwnS.rd howna Rg.cs_len
       rw [← HN.out] at hva
       subst hva
       have Maj : Mod (fun _ => False) w8 waj := (show Mod (fun _ => False) w8 _ by (repeat' (first | exact Mod.refl _ _ | assumption | refine Mod.alloc ?_ _ | refine Mod.drew ?_ | refine Mod.drewN ?_ _ | refine Mod.setCell ?_ (by first | exact Or.inl rfl | (right; simp; done) | (right; simp; omega) | (left; simp; done)) _))).trans' hmaj
       have sj0 := (Maj.cell (p := ⟨w.heap.size, 0, none⟩) hx8 id).trans x0
       have sj1 := (Maj.cell (p := ⟨w.heap.size, 1, none⟩) hx8 id).trans x1
       have sj2 := (Maj.cell (p := ⟨w.heap.size, 2, none⟩) hx8 id).trans x2
       have Oaj := Lib.hid (fun X (hX : Mod (fun _ => False) waj X) => howna.mod hX (fun b _ => id))
       have hxj : w.heap.size < waj.heap.size := Nat.lt_of_lt_of_le hx8 Maj.size
       clear hmax howna)
    | (refine step_app (base := w8.heap.size) (xs := xs) (ys := [x]) (D := fun _ => True) (v := .slice Aaj n caj) rfl (.tmp 80) (.tmp 82) rfl rgs_t Rg.cs_len Rg.cs_one rfl (Oaj.out _ (by first | exact Mod.refl _ _ | (repeat' (first | exact Mod.refl _ _ | assumption | refine Mod.alloc ?_ _ | refine Mod.drew ?_ | refine Mod.drewN ?_ _ | refine Mod.setCell ?_ (by first | exact Or.inl rfl | (right; simp; done) | (right; simp; omega) | (left; simp; done)) _)))) 1 rfl rfl (rd_blkT (c := #[.int .i32 x.lo, .int .i32 x.hi, .int .i64 x.v]) (t := 24) (fr := (0, 0)) Rg.cs_len (by first | exact hp_new _ _ | exact hp_mod (C := fun _ => False) (hp_new _ _) hmaj.undrew id | exact hp_mod (C := fun _ => False) (hp_new _ _) hmaj id) rfl) ?_ ?_ ?_ ?_
       · exact HQj.out.2.2.1
       · exact HQj.out.2.2.2
       · first | exact Maj.size | (have := Maj.size; simp; omega)
       intro vbj wbj hownb hmbx _
       have Mbj : Mod (fun _ => False) w8 wbj := (show Mod (fun _ => False) w8 _ by (repeat' (first | exact Mod.refl _ _ | assumption | refine Mod.alloc ?_ _ | refine Mod.drew ?_ | refine Mod.drewN ?_ _ | refine Mod.setCell ?_ (by first | exact Or.inl rfl | (right; simp; done) | (right; simp; omega) | (left; simp; done)) _))).trans hmbx (fun b h => .inr (hfaj b h).1)
       obtain ⟨Abj, cbj, hvb, hrb, hfbj, -⟩ := OwnS.rd hownb Rg.cs_len
       rw [HLj.out] at hvb
       subst hvb
       have uj0 := (Mbj.cell (p := ⟨w.heap.size, 0, none⟩) hx8 id).trans x0
       have uj1 := (Mbj.cell (p := ⟨w.heap.size, 1, none⟩) hx8 id).trans x1
       have uj2 := (Mbj.cell (p := ⟨w.heap.size, 2, none⟩) hx8 id).trans x2
       have Rbj := Lib.hid (fun X (hX : Mod (fun _ => False) wbj X) => (hrb.mod hX (fun b hb => ⟨(hfbj b hb).2, id⟩)).mono (D' := fun b => b < X.heap.size) (fun b hb => Nat.lt_of_lt_of_le (hfbj b hb).2 hX.size))
       clear hownb hrb hmbx)
    | (go_at_call 11
       refine (HRj.out _ _ _ (Rbj.out _ (by (repeat' (first | exact Mod.refl _ _ | assumption | refine Mod.alloc ?_ _ | refine Mod.drew ?_ | refine Mod.drewN ?_ _ | refine Mod.setCell ?_ (by first | exact Or.inl rfl | (right; simp; done) | (right; simp; omega) | (left; simp; done)) _))))).mono ?_
       rintro e wcj ⟨Acj, ccj, rfl, hrcj, hmcj⟩
       have Mcj : Mod (fun _ => False) w8 wcj := (show Mod (fun _ => False) w8 _ by (repeat' (first | exact Mod.refl _ _ | assumption | refine Mod.alloc ?_ _ | refine Mod.drew ?_ | refine Mod.drewN ?_ _ | refine Mod.setCell ?_ (by first | exact Or.inl rfl | (right; simp; done) | (right; simp; omega) | (left; simp; done)) _))).trans' hmcj
       have vj0 := (Mcj.cell (p := ⟨w.heap.size, 0, none⟩) hx8 id).trans x0
       have vj1 := (Mcj.cell (p := ⟨w.heap.size, 1, none⟩) hx8 id).trans x1
       have vj2 := (Mcj.cell (p := ⟨w.heap.size, 2, none⟩) hx8 id).trans x2)
    | fail)
  all_goals
    have hxcj : w.heap.size < wcj.heap.size := Nat.lt_of_lt_of_le hx8 Mcj.size
    have HA9 := Lib.hid (fun X (hX : Mod (fun _ => False) wcj X) => HA8.out X (Mcj.trans' hX))
    have hw0 : IntKind.i32.wrap (t + 1) = t + 1 := IntWalk.i32_in _ (by omega)
    go_wp2
    go_region_held3 (fun W => W.cell? ⟨w.heap.size, 0, none⟩ = some (.int .i32 x.lo) ∧ W.cell? ⟨w.heap.size, 1, none⟩ = some (.int .i32 x.hi) ∧ W.cell? ⟨w.heap.size, 2, none⟩ = some (.int .i64 x.v)) (first | exact ⟨vj0, vj1, vj2⟩ | exact ⟨st0, st1, st2⟩ | exact ⟨ut0, ut1, ut2⟩ | exact ⟨vt0, vt1, vt2⟩ | exact ⟨(World.cell?_alloc_lt _ _ _ hxcj).trans vj0, (World.cell?_alloc_lt _ _ _ hxcj).trans vj1, (World.cell?_alloc_lt _ _ _ hxcj).trans vj2⟩ | exact ⟨(World.cell?_alloc_lt _ _ _ hxt).trans st0, (World.cell?_alloc_lt _ _ _ hxt).trans st1, (World.cell?_alloc_lt _ _ _ hxt).trans st2⟩ | fail) (first
      | (refine step_app (base := wcj.heap.size) (xs := []) (ys := xs) (v := .slice none 0 0) rfl _ (.tmp 88) rfl rgs_t Rg.cs_len Rg.cs_one rfl (OwnS.nil _ _ _ _ _) c rfl HN.out (HA9.out _ (by (repeat' (first | exact Mod.refl _ _ | assumption | refine Mod.alloc ?_ _ | refine Mod.drew ?_ | refine Mod.drewN ?_ _ | refine Mod.setCell ?_ (by first | exact Or.inl rfl | (right; simp; done) | (right; simp; omega) | (left; simp; done)) _)))) ?_ ?_ ?_ ?_
         · exact HQt.out.1
         · exact HQt.out.2.1
         · first | exact Nat.le_refl _ | (simp; done)
         intro vat wat howna hmax _
         have hmat : Mod (fun _ => False) _ wat := hmax.mono (fun b _ h => by simp [Value.ownBlock] at h)
         rw [List.nil_append] at howna
         obtain ⟨Aat, cat, hva, -, hfat, -⟩ := OwnS.rd howna Rg.cs_len
         rw [← HN.out] at hva
         subst hva
         have Mat : Mod (fun _ => False) wcj wat := (show Mod (fun _ => False) wcj _ by (repeat' (first | exact Mod.refl _ _ | assumption | refine Mod.alloc ?_ _ | refine Mod.drew ?_ | refine Mod.drewN ?_ _ | refine Mod.setCell ?_ (by first | exact Or.inl rfl | (right; simp; done) | (right; simp; omega) | (left; simp; done)) _))).trans' hmat
         have st0 := (Mat.cell (p := ⟨w.heap.size, 0, none⟩) hxcj id).trans vj0
         have st1 := (Mat.cell (p := ⟨w.heap.size, 1, none⟩) hxcj id).trans vj1
         have st2 := (Mat.cell (p := ⟨w.heap.size, 2, none⟩) hxcj id).trans vj2
         have Oat := Lib.hid (fun X (hX : Mod (fun _ => False) wat X) => howna.mod hX (fun b _ => id))
         have hxt : w.heap.size < wat.heap.size := Nat.lt_of_lt_of_le hxcj Mat.size
         clear hmax howna)
      | (refine step_app (base := wcj.heap.size) (xs := xs) (ys := [⟨t + 1, x.hi, x.v⟩, ⟨x.lo, t, x.v⟩]) (D := fun _ => True) (v := .slice Aat n cat) rfl (.tmp 89) (.tmp 103) rfl rgs_t Rg.cs_len Rg.cs_one rfl (Oat.out _ (by first | exact Mod.refl _ _ | (repeat' (first | exact Mod.refl _ _ | assumption | refine Mod.alloc ?_ _ | refine Mod.drew ?_ | refine Mod.drewN ?_ _ | refine Mod.setCell ?_ (by first | exact Or.inl rfl | (right; simp; done) | (right; simp; omega) | (left; simp; done)) _)))) 2 rfl rfl (rd_blkT (c := #[.int .i32 (t + 1), .int .i32 x.hi, .int .i64 x.v, .int .i32 x.lo, .int .i32 t, .int .i64 x.v]) (t := 24) (fr := (0, 0)) Rg.cs_len (by first | exact hp_new _ _ | exact hp_mod (C := fun _ => False) (hp_new _ _) hmat.undrew id | exact hp_mod (C := fun _ => False) (hp_new _ _) hmat id) rfl) ?_ ?_ ?_ ?_
         · exact HQt.out.2.2.1
         · exact HQt.out.2.2.2
         · first | exact Mat.size | (have := Mat.size; simp; omega)
         intro vbt wbt hownb hmbx _
         have Mbt : Mod (fun _ => False) wcj wbt := (show Mod (fun _ => False) wcj _ by (repeat' (first | exact Mod.refl _ _ | assumption | refine Mod.alloc ?_ _ | refine Mod.drew ?_ | refine Mod.drewN ?_ _ | refine Mod.setCell ?_ (by first | exact Or.inl rfl | (right; simp; done) | (right; simp; omega) | (left; simp; done)) _))).trans hmbx (fun b h => .inr (hfat b h).1)
         obtain ⟨Abt, cbt, hvb, hrb, hfbt, -⟩ := OwnS.rd hownb Rg.cs_len
         rw [HLt.out] at hvb
         subst hvb
         have ut0 := (Mbt.cell (p := ⟨w.heap.size, 0, none⟩) hxcj id).trans vj0
         have ut1 := (Mbt.cell (p := ⟨w.heap.size, 1, none⟩) hxcj id).trans vj1
         have ut2 := (Mbt.cell (p := ⟨w.heap.size, 2, none⟩) hxcj id).trans vj2
         have Rbt := Lib.hid (fun X (hX : Mod (fun _ => False) wbt X) => (hrb.mod hX (fun b hb => ⟨(hfbt b hb).2, id⟩)).mono (D' := fun b => b < X.heap.size) (fun b hb => Nat.lt_of_lt_of_le (hfbt b hb).2 hX.size))
         clear hownb hrb hmbx)
      | (go_at_call 8
         refine (HRt.out _ _ _ (Rbt.out _ (by (repeat' (first | exact Mod.refl _ _ | assumption | refine Mod.alloc ?_ _ | refine Mod.drew ?_ | refine Mod.drewN ?_ _ | refine Mod.setCell ?_ (by first | exact Or.inl rfl | (right; simp; done) | (right; simp; omega) | (left; simp; done)) _))))).mono ?_
         rintro e wct ⟨bct, rfl, hMct, hmct⟩
         have Mct : Mod (fun _ => False) wcj wct := (show Mod (fun _ => False) wcj _ by (repeat' (first | exact Mod.refl _ _ | assumption | refine Mod.alloc ?_ _ | refine Mod.drew ?_ | refine Mod.drewN ?_ _ | refine Mod.setCell ?_ (by first | exact Or.inl rfl | (right; simp; done) | (right; simp; omega) | (left; simp; done)) _))).trans' hmct
         have vt0 := (Mct.cell (p := ⟨w.heap.size, 0, none⟩) hxcj id).trans vj0
         have vt1 := (Mct.cell (p := ⟨w.heap.size, 1, none⟩) hxcj id).trans vj1
         have vt2 := (Mct.cell (p := ⟨w.heap.size, 2, none⟩) hxcj id).trans vj2)
      | fail)
  all_goals
    clear hw0
    have hxct : w.heap.size < wct.heap.size := Nat.lt_of_lt_of_le hxcj Mct.size
    have HAt := Lib.hid (fun X (hX : Mod (fun _ => False) wct X) => HA9.out X (Mct.trans' hX))
    have Kct : Mod (fun _ => False) wct wct := Mod.refl _ _
    go_wp2_with (first
      | (at_builtin
         refine wpList_app (base := wct.heap.size) (xs := []) (ys := xs) (v := .slice none 0 0) rfl _ (.tmp 108) rfl rgs_t Rg.cs_len Rg.cs_one rfl (OwnS.nil _ _ _ _ _) c rfl HN.out (HAt.out _ (by (repeat' (first | exact Mod.refl _ _ | assumption | refine Mod.alloc ?_ _ | refine Mod.drew ?_ | refine Mod.drewN ?_ _ | refine Mod.setCell ?_ (by first | exact Or.inl rfl | (right; simp; done) | (right; simp; omega) | (left; simp; done)) _)))) ?_ ?_ ?_ ?_
         · exact HQj.out.1
         · exact HQj.out.2.1
         · first | exact Nat.le_refl _ | (simp; done)
         intro ve we howne hmex _
         rw [List.nil_append] at howne
         obtain ⟨Ae, ce, hve, -, -, -⟩ := OwnS.rd howne Rg.cs_len
         rw [← HN.out] at hve
         subst hve
         have Me : Mod (fun _ => False) wct we := (show Mod (fun _ => False) wct _ by (repeat' (first | exact Mod.refl _ _ | assumption | refine Mod.alloc ?_ _ | refine Mod.drew ?_ | refine Mod.drewN ?_ _ | refine Mod.setCell ?_ (by first | exact Or.inl rfl | (right; simp; done) | (right; simp; omega) | (left; simp; done)) _))).trans' (hmex.mono (C' := fun _ => False) (fun b _ h => by simp [Value.ownBlock] at h))
         have e0 := (Me.cell (p := ⟨w.heap.size, 0, none⟩) hxct id).trans vt0
         have e1 := (Me.cell (p := ⟨w.heap.size, 1, none⟩) hxct id).trans vt1
         have e2 := (Me.cell (p := ⟨w.heap.size, 2, none⟩) hxct id).trans vt2
         have HOe := Lib.hid howne
         have HMe := Lib.hid Me
         clear howne hmex)
      | fail)
    have HV0 := Lib.hid vt0
    have HV1 := Lib.hid vt1
    have HV2 := Lib.hid vt2
    go_loopw [15, 16] (fun v i wr => ∃ k : Nat, k ≤ N ∧ i = .int .i32 (x.lo + k) ∧ OwnS wct.heap.size 24 3 Rg.cs wr v (xs ++ singles x.lo x.v k) ∧ Mod (fun _ => False) wct wr) (fun _ i _ => (x.hi + 1 - intOf i).toNat)
    case atStart => exact ⟨0, Nat.zero_le _, by simp, by simpa [singles] using HOe.out, HMe.out⟩
    case round =>
      obtain ⟨k, hk, rfl, hown, hm⟩ := hrel
      obtain ⟨Af, cf, hvf, -, hff, -⟩ := OwnS.rd hown Rg.cs_len
      rw [(HLs k).out] at hvf
      subst hvf
      have r0 := (hm.cell (p := ⟨w.heap.size, 0, none⟩) hxct id).trans HV0.out
      have r1 := (hm.cell (p := ⟨w.heap.size, 1, none⟩) hxct id).trans HV1.out
      have r2 := (hm.cell (p := ⟨w.heap.size, 2, none⟩) hxct id).trans HV2.out
      have HOf' := Lib.hid hown
      have HMf := Lib.hid hm
      have HFf := Lib.hid hff
      clear hown hm hff e0 e1 e2 vt0 vt1 vt2
      by_cases hlt : k < N
      · have hle : x.lo + (k : Int) ≤ x.hi := by have := HNN.out; omega
        go_wp2_with (first
          | (at_builtin
             refine wpList_app (base := wct.heap.size) (xs := xs ++ singles x.lo x.v k) (ys := [⟨x.lo + k, x.lo + k, x.v⟩]) (D := fun _ => True) (v := .slice Af (n + k) cf) rfl (.tmp 118) (.tmp 124) rfl rgs_t Rg.cs_len Rg.cs_one rfl (HOf'.out.mod (C := fun _ => False) (by (repeat' (first | exact Mod.refl _ _ | assumption | refine Mod.alloc ?_ _ | refine Mod.drew ?_ | refine Mod.drewN ?_ _ | refine Mod.setCell ?_ (by first | exact Or.inl rfl | (right; simp; done) | (right; simp; omega) | (left; simp; done)) _))) (fun b _ => id)) 1 rfl rfl (rd_oneT (g := wr.heap.size) (c := #[.int .i32 (x.lo + k), .int .i32 (x.lo + k), .int .i64 x.v]) (t := 24) (fr := (0, 0)) (by (repeat' (first | exact hp_new _ _ | exact hp_at _ _ (by simp; done) | refine hp_alloc ?_ _ | refine hp_drew ?_ | refine hp_drewN ?_ _ | apply hp_set | refine hp_far ?_ (by first | (simp; omega) | (simp; done)) _))) rfl) ?_ ?_ ?_ ?_
             · rw [(HLs k).out]; simp [maxLen]; omega
             · rw [(HLs k).out]; simp; omega
             · have := HMf.out.size; simp; omega
             intro vg wg howng hmg _
             obtain ⟨Ag, cg, hvg, -, -, -⟩ := OwnS.rd howng Rg.cs_len
             have Mg : Mod (fun _ => False) wct wg := (show Mod (fun _ => False) wct _ by have := HMf.out; (repeat' (first | exact Mod.refl _ _ | assumption | refine Mod.alloc ?_ _ | refine Mod.drew ?_ | refine Mod.drewN ?_ _ | refine Mod.setCell ?_ (by first | exact Or.inl rfl | (right; simp; done) | (right; simp; omega) | (left; simp; done)) _))).trans hmg (fun b h => .inr (HFf.out b h).1)
             have hsc : xs ++ singles x.lo x.v k ++ [⟨x.lo + (k : Int), x.lo + (k : Int), x.v⟩] = xs ++ singles x.lo x.v (k + 1) := by rw [singles_succ, List.append_assoc]
             rw [hsc] at howng hvg
             rw [(HLs (k + 1)).out] at hvg
             subst hvg
             have HOg := Lib.hid howng
             have HMg := Lib.hid Mg
             clear howng hmg hsc Mg)
          | fail)
        refine ⟨⟨k + 1, by omega, ?_, HOg.out, HMg.out⟩, by simp only [intOf]; omega⟩
        congr 1
        omega
      · obtain rfl : k = N := by omega
        have hgt : x.hi < x.lo + (k : Int) := by have := HNN.out; omega
        have hr5 := rd_of5 HOf'.out Rg.cs_len
        have HR5 := Lib.hid (hr5.mono (D' := fun b => b < wr.heap.size) (fun b hb => (HFf.out b hb).2))
        clear hr5
        go_wp2_with (first
          | (go_at_call 8
             refine (HRs.out _ _ _ HR5.out).mono ?_
             rintro e w15 ⟨b15, rfl, hM15, hm15⟩
             have M15 : Mod (fun _ => False) wct w15 := HMf.out.trans' hm15
             have z0 := (M15.cell (p := ⟨w.heap.size, 0, none⟩) hxct id).trans HV0.out
             have z1 := (M15.cell (p := ⟨w.heap.size, 1, none⟩) hxct id).trans HV1.out
             have z2 := (M15.cell (p := ⟨w.heap.size, 2, none⟩) hxct id).trans HV2.out)
          | fail)
        have hx15 : w.heap.size < w15.heap.size := Nat.lt_of_lt_of_le hxct M15.size
        have K15 : Mod (fun _ => False) w15 w15 := Mod.refl _ _
        have G8 : Mod (fun _ => False) w8 w15 := Mcj.trans' (Mct.trans' M15)
        have H7 := Lib.hid (fun X (hX : Mod (fun _ => False) w15 X) => HMap7.out X (G8.trans' hX))
        have H8 := Lib.hid (fun X (hX : Mod (fun _ => False) w15 X) => HMap8.out X (G8.trans' hX))
        have Ht := Lib.hid (fun X (hX : Mod (fun _ => False) w15 X) => hMct.mod (M15.trans' hX))
        have H15 := Lib.hid (fun X (hX : Mod (fun _ => False) w15 X) => hM15.mod hX)
        have HJ := Lib.hid (fun X (hX : Mod (fun _ => False) w15 X) => rd_keep hrcj ((Mct.trans' M15).trans' hX))
        have hwa : IntKind.i32.wrap (x.hi - x.lo) = x.hi - x.lo := IntWalk.i32_in _ (by omega)
        have hwb : IntKind.i64.wrap (tms + (x.hi - x.lo)) = tms + (x.hi - x.lo) := IntWalk.i64_in _ (by omega)
        have hwc : IntKind.i64.wrap (tms + (x.hi - x.lo) + 1) = tms + (x.hi - x.lo) + 1 := IntWalk.i64_in _ (by omega)
        have hwd : IntKind.i64.wrap (x.hi - x.lo) = x.hi - x.lo := IntWalk.i64_in _ (by omega)
        go_region_held3 (fun W => W.cell? ⟨w.heap.size, 0, none⟩ = some (.int .i32 x.lo) ∧ W.cell? ⟨w.heap.size, 1, none⟩ = some (.int .i32 x.hi)) (first | exact ⟨z0, z1⟩ | exact ⟨a0, a1⟩ | exact ⟨c0, c1⟩ | exact ⟨d0, d1⟩ | exact ⟨f0, f1⟩ | exact ⟨g0, g1⟩ | exact ⟨i0, i1⟩ | fail) (first
          | (go_at_call 10; refine (num_any _ _).mono ?_; rintro e w' ⟨rfl, rfl⟩)
          | (go_at_call_of 12 (Value.pointer (some (Addr.mk b8 0 none)))
             refine (once_map b8 Acj ccj mo _ _ (H8.out _ (by (repeat' (first | exact Mod.refl _ _ | assumption | refine Mod.alloc ?_ _ | refine Mod.drew ?_ | refine Mod.drewN ?_ _ | refine Mod.setCell ?_ (by first | exact Or.inl rfl | (right; simp; done) | (right; simp; omega) | (left; simp; done)) _)))) (HJ.out _ (by (repeat' (first | exact Mod.refl _ _ | assumption | refine Mod.alloc ?_ _ | refine Mod.drew ?_ | refine Mod.drewN ?_ _ | refine Mod.setCell ?_ (by first | exact Or.inl rfl | (right; simp; done) | (right; simp; omega) | (left; simp; done)) _)))) (by omega)).mono ?_
             rintro e wa ⟨rfl, hma⟩
             have Ka : Mod (fun _ => False) w15 wa := (show Mod (fun _ => False) w15 _ by (repeat' (first | exact Mod.refl _ _ | assumption | refine Mod.alloc ?_ _ | refine Mod.drew ?_ | refine Mod.drewN ?_ _ | refine Mod.setCell ?_ (by first | exact Or.inl rfl | (right; simp; done) | (right; simp; omega) | (left; simp; done)) _))).trans' hma
             have a0 := (Ka.cell (p := ⟨w.heap.size, 0, none⟩) hx15 id).trans z0
             have a1 := (Ka.cell (p := ⟨w.heap.size, 1, none⟩) hx15 id).trans z1)
          | (go_at_call_of 12 (Value.pointer (some (Addr.mk bct 0 none)))
             refine (once_map bct Acj ccj mo _ _ (Ht.out _ (by (repeat' (first | exact Mod.refl _ _ | assumption | refine Mod.alloc ?_ _ | refine Mod.drew ?_ | refine Mod.drewN ?_ _ | refine Mod.setCell ?_ (by first | exact Or.inl rfl | (right; simp; done) | (right; simp; omega) | (left; simp; done)) _)))) (HJ.out _ (by (repeat' (first | exact Mod.refl _ _ | assumption | refine Mod.alloc ?_ _ | refine Mod.drew ?_ | refine Mod.drewN ?_ _ | refine Mod.setCell ?_ (by first | exact Or.inl rfl | (right; simp; done) | (right; simp; omega) | (left; simp; done)) _)))) (by omega)).mono ?_
             rintro e wc ⟨rfl, hmc⟩
             have Kc : Mod (fun _ => False) w15 wc := (show Mod (fun _ => False) w15 _ by (repeat' (first | exact Mod.refl _ _ | assumption | refine Mod.alloc ?_ _ | refine Mod.drew ?_ | refine Mod.drewN ?_ _ | refine Mod.setCell ?_ (by first | exact Or.inl rfl | (right; simp; done) | (right; simp; omega) | (left; simp; done)) _))).trans' hmc
             have c0 := (Kc.cell (p := ⟨w.heap.size, 0, none⟩) hx15 id).trans z0
             have c1 := (Kc.cell (p := ⟨w.heap.size, 1, none⟩) hx15 id).trans z1)
          | (go_at_call_of 12 (Value.pointer (some (Addr.mk b15 0 none)))
             refine (once_map b15 Acj ccj mo _ _ (H15.out _ (by (repeat' (first | exact Mod.refl _ _ | assumption | refine Mod.alloc ?_ _ | refine Mod.drew ?_ | refine Mod.drewN ?_ _ | refine Mod.setCell ?_ (by first | exact Or.inl rfl | (right; simp; done) | (right; simp; omega) | (left; simp; done)) _)))) (HJ.out _ (by (repeat' (first | exact Mod.refl _ _ | assumption | refine Mod.alloc ?_ _ | refine Mod.drew ?_ | refine Mod.drewN ?_ _ | refine Mod.setCell ?_ (by first | exact Or.inl rfl | (right; simp; done) | (right; simp; omega) | (left; simp; done)) _)))) (by omega)).mono ?_
             rintro e wd ⟨rfl, hmd⟩
             have Kd : Mod (fun _ => False) w15 wd := (show Mod (fun _ => False) w15 _ by (repeat' (first | exact Mod.refl _ _ | assumption | refine Mod.alloc ?_ _ | refine Mod.drew ?_ | refine Mod.drewN ?_ _ | refine Mod.setCell ?_ (by first | exact Or.inl rfl | (right; simp; done) | (right; simp; omega) | (left; simp; done)) _))).trans' hmd
             have d0 := (Kd.cell (p := ⟨w.heap.size, 0, none⟩) hx15 id).trans z0
             have d1 := (Kd.cell (p := ⟨w.heap.size, 1, none⟩) hx15 id).trans z1)
          | (go_at_call_of 13 (Value.pointer (some (Addr.mk b8 0 none)))
             refine (HMany8.out b8 _ (H8.out _ (by (repeat' (first | exact Mod.refl _ _ | assumption | refine Mod.alloc ?_ _ | refine Mod.drew ?_ | refine Mod.drewN ?_ _ | refine Mod.setCell ?_ (by first | exact Or.inl rfl | (right; simp; done) | (right; simp; omega) | (left; simp; done)) _))))).mono ?_
             rintro e wf ⟨rfl, hmf⟩
             have Kf : Mod (fun _ => False) w15 wf := (show Mod (fun _ => False) w15 _ by (repeat' (first | exact Mod.refl _ _ | assumption | refine Mod.alloc ?_ _ | refine Mod.drew ?_ | refine Mod.drewN ?_ _ | refine Mod.setCell ?_ (by first | exact Or.inl rfl | (right; simp; done) | (right; simp; omega) | (left; simp; done)) _))).trans' hmf
             have f0 := (Kf.cell (p := ⟨w.heap.size, 0, none⟩) hx15 id).trans z0
             have f1 := (Kf.cell (p := ⟨w.heap.size, 1, none⟩) hx15 id).trans z1)
          | (go_at_call_of 13 (Value.pointer (some (Addr.mk b7 0 none)))
             refine (HMany7.out b7 _ (H7.out _ (by (repeat' (first | exact Mod.refl _ _ | assumption | refine Mod.alloc ?_ _ | refine Mod.drew ?_ | refine Mod.drewN ?_ _ | refine Mod.setCell ?_ (by first | exact Or.inl rfl | (right; simp; done) | (right; simp; omega) | (left; simp; done)) _))))).mono ?_
             rintro e wg ⟨rfl, hmg⟩
             have Kg : Mod (fun _ => False) w15 wg := (show Mod (fun _ => False) w15 _ by (repeat' (first | exact Mod.refl _ _ | assumption | refine Mod.alloc ?_ _ | refine Mod.drew ?_ | refine Mod.drewN ?_ _ | refine Mod.setCell ?_ (by first | exact Or.inl rfl | (right; simp; done) | (right; simp; omega) | (left; simp; done)) _))).trans' hmg
             have g0 := (Kg.cell (p := ⟨w.heap.size, 0, none⟩) hx15 id).trans z0
             have g1 := (Kg.cell (p := ⟨w.heap.size, 1, none⟩) hx15 id).trans z1)
          | (go_at_call 7
             refine (known_any _).mono ?_
             rintro e wi ⟨rfl, hmi⟩
             have Ki : Mod (fun _ => False) w15 wi := (show Mod (fun _ => False) w15 _ by (repeat' (first | exact Mod.refl _ _ | assumption | refine Mod.alloc ?_ _ | refine Mod.drew ?_ | refine Mod.drewN ?_ _ | refine Mod.setCell ?_ (by first | exact Or.inl rfl | (right; simp; done) | (right; simp; omega) | (left; simp; done)) _))).trans' hmi
             have i0 := (Ki.cell (p := ⟨w.heap.size, 0, none⟩) hx15 id).trans z0
             have i1 := (Ki.cell (p := ⟨w.heap.size, 1, none⟩) hx15 id).trans z1)
          | fail)
        all_goals
          go_wp2
          go_ret
          exact ⟨rfl, (M8.trans' G8).trans' (show Mod (fun _ => False) w15 _ by (repeat' (first | exact Mod.refl _ _ | assumption | refine Mod.alloc ?_ _ | refine Mod.drew ?_ | refine Mod.drewN ?_ _ | refine Mod.setCell ?_ (by first | exact Or.inl rfl | (right; simp; done) | (right; simp; omega) | (left; simp; done)) _)))⟩
end Go.Proofs.Ytaohdhblnjoihaa
