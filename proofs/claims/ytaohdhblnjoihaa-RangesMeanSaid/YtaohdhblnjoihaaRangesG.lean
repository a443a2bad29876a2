/-
  Ranges: a map with one more range; the chapter's row.
-/
import Derived.Test.YtaohdhblnjoihaaRangesF
namespace Go.Proofs.Ytaohdhblnjoihaa
open Go.RowKit Go.Shelf
attribute [local go_sem] Oper.semAt_some

theorem of_err (A : Option Addr) (c : Nat) (xs : List Rg) (w : World) (hA : Rd (fun b => b < w.heap.size) w 3 Rg.cs A xs) (hl : xs.length ≤ 1000000) (hf : ∀ x ∈ xs, FitR x) (h : errR xs ≠ 0) :
    Calls Try.prog 8 #[.slice A xs.length c] w fun e w' => e = .returned (.tuple #[.pointer none, .int .i64 (errR xs)]) ∧ Mod (fun _ => False) w w' := by
  refine (of_any A c xs w hA hl hf).mono ?_
  rintro e w' ⟨hm, ⟨-, he⟩ | ⟨h0, -⟩⟩
  · exact ⟨he, hm⟩
  · exact absurd h0 h
theorem of_ok (A : Option Addr) (c : Nat) (xs : List Rg) (w : World) (hA : Rd (fun b => b < w.heap.size) w 3 Rg.cs A xs) (hl : xs.length ≤ 1000000) (hf : ∀ x ∈ xs, FitR x) (h : errR xs = 0) :
    Calls Try.prog 8 #[.slice A xs.length c] w fun e w' => ∃ b, e = .returned (.tuple #[.pointer (some ⟨b, 0, none⟩), .int .i64 0]) ∧ MapAt w' b (mapR xs) ∧ Mod (fun _ => False) w w' := by
  refine (of_any A c xs w hA hl hf).mono ?_
  rintro e w' ⟨hm, ⟨h0, -⟩ | ⟨-, b, -, he, hM⟩⟩
  · exact absurd h h0
  · exact ⟨b, he, hM, hm⟩

set_option maxRecDepth 100000 in
set_option maxHeartbeats 4000000 in
theorem with_gen (b : Nat) (xs : List Rg) (x : Rg) (w : World) (hM : MapAt w b xs) (hl : xs.length ≤ 100000) (r2 : Int) (Φ : Option Addr → World → Prop)
    (hOf : ∀ W A c, Mod (fun _ => False) w W → Rd (fun b => b < W.heap.size) W 3 Rg.cs A (xs ++ [x]) → Calls Try.prog 8 #[.slice A (xs ++ [x]).length c] W fun e w' => ∃ p, e = .returned (.tuple #[.pointer p, .int .i64 r2]) ∧ Φ p w' ∧ Mod (fun _ => False) W w') :
    Calls Try.prog 9 #[.pointer (some ⟨b, 0, none⟩), x.val] w fun e w' => ∃ p, e = .returned (.tuple #[.pointer p, .int .i64 r2]) ∧ Φ p w' ∧ Mod (fun _ => False) w w' := by
  obtain ⟨A, c, hb, hA⟩ := hM
  obtain ⟨n, hn⟩ : ∃ n, n = xs.length := ⟨_, rfl⟩
  have hl1 : (xs ++ [x]).length = n + 1 := by rw [List.length_append, ← hn]; rfl
  rw [hl1] at hOf
  rw [← hn] at hb
  have HB := Lib.hid hb
  have HA := Lib.hid hA
  have HOf := Lib.hid hOf
  have HN := Lib.hid hn
  have HL1 := Lib.hid hl1
  have HT := Lib.hid (fun X (hX : Mod (fun _ => False) w X) => there_some b _ true X (hp_mod hb hX id))
  have hbl := hp_lt hb
  clear hb hA hOf hn hl1
  unfold Rg.val
  go_enter Try.func9, Try.ntmps9
  go_wp2_with (first
    | (go_at_call 25; refine (HT.out _ (by (repeat' (first | exact Mod.refl _ _ | assumption | refine Mod.alloc ?_ _ | refine Mod.drew ?_ | refine Mod.drewN ?_ _ | refine Mod.setCell ?_ (by first | exact Or.inl rfl | (right; simp; done) | (right; simp; omega) | (left; simp; done)) _)))).mono ?_; rintro e w' ⟨rfl, rfl⟩)
    | fail)
  refine wp_as (fun W => W.heap[w.heap.size]? = some (.cells #[.int .i32 x.lo, .int .i32 x.hi, .int .i64 x.v] 24 (0, 0)) ∧ W.heap[b]? = some (.cells #[.slice A n c, .bool true] 48 (0, 0)) ∧ Mod (fun _ => False) w W) ⟨by (repeat' (first | exact hp_new _ _ | exact hp_at _ _ (by simp; done) | refine hp_alloc ?_ _ | refine hp_drew ?_ | refine hp_drewN ?_ _ | apply hp_set | refine hp_far ?_ (by first | (simp; omega) | (simp; done)) _)), by (repeat' (first | exact HB.out | exact hp_new _ _ | refine hp_alloc ?_ _ | refine hp_drew ?_ | refine hp_drewN ?_ _ | apply hp_set | refine hp_far ?_ (by first | (simp; omega) | (simp; done)) _)), by (repeat' (first | exact Mod.refl _ _ | assumption | refine Mod.alloc ?_ _ | refine Mod.drew ?_ | refine Mod.drewN ?_ _ | refine Mod.setCell ?_ (by first | exact Or.inl rfl | (right; simp; done) | (right; simp; omega) | (left; simp; done)) _))⟩ ?_
  rintro W0 ⟨hx0, hb0, hm0⟩
  have o0 := hp_cell hx0 0
  have o1 := hp_cell hx0 1
  have o2 := hp_cell hx0 2
  have m0 := hp_cell hb0 0
  have hopt := hp_lt hx0
  have hbl0 := hp_lt hb0
  have M0 := hm0
  have N0 : Mod (fun _ => False) W0 W0 := Mod.refl _ _
  have HCl := Lib.hid (fun X (hX : Mod (fun _ => False) W0 X) => rclone_any (fun b => b < w.heap.size) A c xs X (HA.out.mod (hm0.trans' hX) fun b hb => ⟨hb, id⟩) (by omega))
  rw [← HN.out] at HCl
  have hq1 : n + 1 ≤ maxLen := by have := HN.out; simp only [maxLen]; omega
  have hq2 : (n + 1) * 16 ≤ 140737488355328 := by have := HN.out; omega
  have HQ := Lib.hid (And.intro hq1 hq2)
  clear hx0 hb0 hm0 hq1 hq2
  go_region_held3 (fun W => W.cell? ⟨w.heap.size, 0, none⟩ = some (.int .i32 x.lo) ∧ W.cell? ⟨w.heap.size, 1, none⟩ = some (.int .i32 x.hi) ∧ W.cell? ⟨w.heap.size, 2, none⟩ = some (.int .i64 x.v) ∧ W.cell? ⟨b, 0, none⟩ = some (.slice A n c)) (first | exact ⟨o0, o1, o2, m0⟩ | exact ⟨s0, s1, s2, s3⟩ | exact ⟨u0, u1, u2, u3⟩ | exact ⟨v0, v1, v2, v3⟩ | exact ⟨(World.cell?_alloc_lt _ _ _ hopt).trans o0, (World.cell?_alloc_lt _ _ _ hopt).trans o1, (World.cell?_alloc_lt _ _ _ hopt).trans o2, (World.cell?_alloc_lt _ _ _ hbl0).trans m0⟩ | exact ⟨(World.cell?_alloc_lt _ _ _ hopt2).trans s0, (World.cell?_alloc_lt _ _ _ hopt2).trans s1, (World.cell?_alloc_lt _ _ _ hopt2).trans s2, (World.cell?_alloc_lt _ _ _ hbl2).trans s3⟩ | fail) (first
    | (go_at_call 21
       refine (HCl.out _ (by (repeat' (first | exact Mod.refl _ _ | assumption | refine Mod.alloc ?_ _ | refine Mod.drew ?_ | refine Mod.drewN ?_ _ | refine Mod.setCell ?_ (by first | exact Or.inl rfl | (right; simp; done) | (right; simp; omega) | (left; simp; done)) _)))).mono ?_
       rintro e w2 ⟨A2, c2, rfl, hown2, hm2⟩
       have M2 : Mod (fun _ => False) W0 w2 := (show Mod (fun _ => False) W0 _ by (repeat' (first | exact Mod.refl _ _ | assumption | refine Mod.alloc ?_ _ | refine Mod.drew ?_ | refine Mod.drewN ?_ _ | refine Mod.setCell ?_ (by first | exact Or.inl rfl | (right; simp; done) | (right; simp; omega) | (left; simp; done)) _))).trans' hm2
       have s0 := (M2.cell (p := ⟨w.heap.size, 0, none⟩) hopt id).trans o0
       have s1 := (M2.cell (p := ⟨w.heap.size, 1, none⟩) hopt id).trans o1
       have s2 := (M2.cell (p := ⟨w.heap.size, 2, none⟩) hopt id).trans o2
       have s3 := (M2.cell (p := ⟨b, 0, none⟩) hbl0 id).trans m0
       have hbl2 : b < w2.heap.size := Nat.lt_of_lt_of_le hbl0 M2.size
       have hopt2 : w.heap.size < w2.heap.size := Nat.lt_of_lt_of_le hopt M2.size
       have hown2' := hown2.less (show Mod (fun _ => False) W0 _ by (repeat' (first | exact Mod.refl _ _ | assumption | refine Mod.alloc ?_ _ | refine Mod.drew ?_ | refine Mod.drewN ?_ _ | refine Mod.setCell ?_ (by first | exact Or.inl rfl | (right; simp; done) | (right; simp; omega) | (left; simp; done)) _))).size
       have hf2 := hown2'.fresh
       have O2 := Lib.hid (fun X (hX : Mod (fun _ => False) w2 X) => hown2'.mod hX (fun b _ => id))
       clear hown2 hown2')
    | (refine step_app (base := W0.heap.size) (xs := xs) (ys := [x]) (D := fun _ => True) (v := .slice A2 n c2) rfl (.tmp 13) (.tmp 15) rfl rgs_t Rg.cs_len Rg.cs_one rfl (O2.out _ (by first | exact Mod.refl _ _ | (repeat' (first | exact Mod.refl _ _ | assumption | refine Mod.alloc ?_ _ | refine Mod.drew ?_ | refine Mod.drewN ?_ _ | refine Mod.setCell ?_ (by first | exact Or.inl rfl | (right; simp; done) | (right; simp; omega) | (left; simp; done)) _)))) 1 rfl rfl (rd_oneT (c := #[.int .i32 x.lo, .int .i32 x.hi, .int .i64 x.v]) (t := 24) (fr := (0, 0)) (by first | exact hp_new _ _ | exact hp_mod (C := fun _ => False) (hp_new _ _) hm2.undrew id | exact hp_mod (C := fun _ => False) (hp_new _ _) hm2 id) rfl) ?_ ?_ ?_ ?_
       · have h := HQ.out.1; rw [HN.out] at h; exact h
       · have h := HQ.out.2; rw [HN.out] at h; exact h
       · first | exact M2.size | (have := M2.size; simp; omega)
       intro v3 w3 hown3 hm3x _
       have M3 : Mod (fun _ => False) W0 w3 := (show Mod (fun _ => False) W0 _ by (repeat' (first | exact Mod.refl _ _ | assumption | refine Mod.alloc ?_ _ | refine Mod.drew ?_ | refine Mod.drewN ?_ _ | refine Mod.setCell ?_ (by first | exact Or.inl rfl | (right; simp; done) | (right; simp; omega) | (left; simp; done)) _))).trans hm3x (fun b h => .inr (hf2 b h).1)
       obtain ⟨A3, c3, hv3, hr3, hf3, -⟩ := OwnS.rd hown3 Rg.cs_len
       rw [HL1.out] at hv3
       subst hv3
       have u0 := (M3.cell (p := ⟨w.heap.size, 0, none⟩) hopt id).trans o0
       have u1 := (M3.cell (p := ⟨w.heap.size, 1, none⟩) hopt id).trans o1
       have u2 := (M3.cell (p := ⟨w.heap.size, 2, none⟩) hopt id).trans o2
       have u3 := (M3.cell (p := ⟨b, 0, none⟩) hbl0 id).trans m0
       have R3 := Lib.hid (fun X (hX : Mod (fun _ => False) w3 X) => (hr3.mod hX (fun b hb => ⟨(hf3 b hb).2, id⟩)).mono (D' := fun b => b < X.heap.size) (fun b hb => Nat.lt_of_lt_of_le (hf3 b hb).2 hX.size))
       clear hown3 hr3 hm3x)
    | (go_at_call 8
       refine (HOf.out _ A3 c3 (M0.trans' (show Mod (fun _ => False) W0 _ by (repeat' (first | exact Mod.refl _ _ | assumption | refine Mod.alloc ?_ _ | refine Mod.drew ?_ | refine Mod.drewN ?_ _ | refine Mod.setCell ?_ (by first | exact Or.inl rfl | (right; simp; done) | (right; simp; omega) | (left; simp; done)) _)))) (R3.out _ (by (repeat' (first | exact Mod.refl _ _ | assumption | refine Mod.alloc ?_ _ | refine Mod.drew ?_ | refine Mod.drewN ?_ _ | refine Mod.setCell ?_ (by first | exact Or.inl rfl | (right; simp; done) | (right; simp; omega) | (left; simp; done)) _))))).mono ?_
       rintro e w4 ⟨p4, rfl, hphi, hm4⟩
       have M4 : Mod (fun _ => False) W0 w4 := (show Mod (fun _ => False) W0 _ by (repeat' (first | exact Mod.refl _ _ | assumption | refine Mod.alloc ?_ _ | refine Mod.drew ?_ | refine Mod.drewN ?_ _ | refine Mod.setCell ?_ (by first | exact Or.inl rfl | (right; simp; done) | (right; simp; omega) | (left; simp; done)) _))).trans' hm4
       have v0 := (M4.cell (p := ⟨w.heap.size, 0, none⟩) hopt id).trans o0
       have v1 := (M4.cell (p := ⟨w.heap.size, 1, none⟩) hopt id).trans o1
       have v2 := (M4.cell (p := ⟨w.heap.size, 2, none⟩) hopt id).trans o2
       have v3 := (M4.cell (p := ⟨b, 0, none⟩) hbl0 id).trans m0)
    | fail)
  all_goals
    go_wp2
    go_ret2
    exact ⟨p4, rfl, hphi, M0.trans' M4⟩
theorem with_err (b : Nat) (xs : List Rg) (x : Rg) (w : World) (hM : MapAt w b xs) (hl : xs.length ≤ 100000) (hf : ∀ y ∈ xs ++ [x], FitR y) (h : errR (xs ++ [x]) ≠ 0) :
    Calls Try.prog 9 #[.pointer (some ⟨b, 0, none⟩), x.val] w fun e w' => e = .returned (.tuple #[.pointer none, .int .i64 (errR (xs ++ [x]))]) ∧ Mod (fun _ => False) w w' :=
  (with_gen b xs x w hM hl (errR (xs ++ [x])) (fun p _ => p = none) (fun W A c _ hr => (of_err A c _ W hr (by simp; omega) hf h).mono fun _ _ ⟨he, hm⟩ => ⟨none, he, rfl, hm⟩)).mono fun _ _ ⟨_, he, hp, hm⟩ => ⟨by rw [he, hp], hm⟩
theorem with_ok (b : Nat) (xs : List Rg) (x : Rg) (w : World) (hM : MapAt w b xs) (hl : xs.length ≤ 100000) (hf : ∀ y ∈ xs ++ [x], FitR y) (h : errR (xs ++ [x]) = 0) :
    Calls Try.prog 9 #[.pointer (some ⟨b, 0, none⟩), x.val] w fun e w' => ∃ b', e = .returned (.tuple #[.pointer (some ⟨b', 0, none⟩), .int .i64 0]) ∧ MapAt w' b' (mapR (xs ++ [x])) ∧ Mod (fun _ => False) w w' :=
  (with_gen b xs x w hM hl 0 (fun p w' => ∃ b', p = some ⟨b', 0, none⟩ ∧ MapAt w' b' (mapR (xs ++ [x]))) (fun W A c _ hr => (of_ok A c _ W hr (by simp; omega) hf h).mono fun _ _ ⟨b', he, hM', hm⟩ => ⟨_, he, ⟨b', rfl, hM'⟩, hm⟩)).mono fun _ _ ⟨_, he, ⟨b', hp, hM'⟩, hm⟩ => ⟨b', by rw [he, hp], hM', hm⟩
end Go.Proofs.Ytaohdhblnjoihaa
