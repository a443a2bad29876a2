/-
  The law RangesMakes: its walk.
-/
import Derived.Test.YtaohdhblnjoihaaRangesH
namespace Go.Proofs.Ytaohdhblnjoihaa
open Go.RowKit Go.Shelf
attribute [local go_sem] Oper.semAt_some

set_option maxRecDepth 100000 in
/-- More than 200 ranges. -/
theorem makes_many (A : Option Addr) (c : Nat) (xs : List Rg) (x : Rg) (r leave : Int) (w : World) (hl : xs.length ≤ maxLen) (h : 200 < xs.length) :
    Calls Try.prog 5 #[.slice A xs.length c, x.val, .int .i32 r, .int .i64 leave] w fun e w' => e = .returned (.bool true) ∧ Mod (fun _ => False) w w' := by
  unfold maxLen at hl
  obtain ⟨n, hn⟩ : ∃ n, n = xs.length := ⟨_, rfl⟩
  rw [← hn] at hl h ⊢
  clear hn
  unfold Rg.val
  go_enter Try.func5, Try.ntmps5
  go_wp2_with (first
    | (go_at_call 7; refine (known_any _).mono ?_; rintro e w' ⟨rfl, hm⟩)
    | fail)
  go_ret
  exact ⟨rfl, (show Mod (fun _ => False) w _ by (repeat' (first | exact Mod.refl _ _ | assumption | refine Mod.alloc ?_ _ | refine Mod.drew ?_ | refine Mod.drewN ?_ _ | refine Mod.setCell ?_ (by first | exact Or.inl rfl | (right; simp; done) | (right; simp; omega) | (left; simp; done)) _))).trans' hm⟩

set_option maxRecDepth 100000 in
set_option maxHeartbeats 4000000 in
theorem makes_err (A : Option Addr) (c : Nat) (xs : List Rg) (x : Rg) (r leave : Int) (w : World) (hA : Rd (fun b => b < w.heap.size) w 3 Rg.cs A xs) (hl : xs.length ≤ 200) (hf : ∀ y ∈ xs, FitR y) (he : errR xs ≠ 0) :
    Calls Try.prog 5 #[.slice A xs.length c, x.val, .int .i32 r, .int .i64 leave] w fun e w' => e = .returned (.bool true) ∧ Mod (fun _ => False) w w' := by
  have HA := Lib.hid (fun X (hX : Mod (fun _ => False) w X) => rd_keep hA hX)
  have HOf := Lib.hid (fun (X : World) A c (h : Rd (fun b => b < X.heap.size) X 3 Rg.cs A xs) => of_err A c xs X h (by omega) hf he)
  have HRef := Lib.hid (fun X (h : Mod (fun _ => False) w X) => rrof_map A c xs X (HA.out X h) (by omega) hf)
  have hm0 : mapR xs = [] := by unfold mapR; rw [if_neg he]
  rw [hm0] at HRef
  obtain ⟨n, hn⟩ : ∃ n, n = xs.length := ⟨_, rfl⟩
  obtain ⟨er, her⟩ : ∃ er, er = errR xs := ⟨_, rfl⟩
  rw [← hn] at hl HOf HRef ⊢
  rw [← her] at HOf HRef he
  have hne : (er == 0) = false := by simpa using he
  have HN := Lib.hid hn
  clear hn her he hA hm0
  unfold Rg.val
  go_enter Try.func5, Try.ntmps5
  go_wp2_with (first
    | (at_builtin
       refine wpList_app (base := w.heap.size + 1) (xs := []) (ys := xs) (v := .slice none 0 0) rfl _ (.tmp 27) rfl rgs_t Rg.cs_len Rg.cs_one rfl (OwnS.nil _ _ _ _ _) c rfl HN.out (HA.out _ (by (repeat' (first | exact Mod.refl _ _ | assumption | refine Mod.alloc ?_ _ | refine Mod.drew ?_ | refine Mod.drewN ?_ _ | refine Mod.setCell ?_ (by first | exact Or.inl rfl | (right; simp; done) | (right; simp; omega) | (left; simp; done)) _)))) ?_ ?_ ?_ ?_
       · rw [← HN.out]; simp [maxLen]; omega
       · rw [← HN.out]; simp; omega
       · simp
       intro v3 w3 hv3 hm3 _
       rw [List.nil_append] at hv3
       have M3 := (show Mod (fun _ => False) w _ by (repeat' (first | exact Mod.refl _ _ | assumption | refine Mod.alloc ?_ _ | refine Mod.drew ?_ | refine Mod.drewN ?_ _ | refine Mod.setCell ?_ (by first | exact Or.inl rfl | (right; simp; done) | (right; simp; omega) | (left; simp; done)) _))).trans' (hm3.mono (C' := fun _ => False) (fun b _ h => by simp [Value.ownBlock] at h))
       obtain ⟨A3, c3, hv3', hr3, hf3, -⟩ := OwnS.rd hv3 Rg.cs_len
       rw [← HN.out] at hv3'
       subst hv3'
       have R3 := Lib.hid (hr3.mono (D' := fun b => b < w3.heap.size) fun b hb => (hf3 b hb).2)
       clear hm3 hv3 hr3 hf3)
    | (go_at_call 8
       refine (HOf.out _ A3 c3 R3.out).mono ?_
       rintro e w4 ⟨rfl, hm4⟩
       have M4 := M3.trans' hm4)
    | (go_at_call 11
       refine (HRef.out _ M4).mono ?_
       rintro e w5 ⟨A5, c5, rfl, -, hm5⟩
       have M5 := M4.trans' hm5)
    | fail)
  have HR3 := Lib.hid (rd_keep (rd_keep R3.out hm4) hm5)
  have HA5 := Lib.hid (HA.out _ M5)
  have HM5 := Lib.hid M5
  clear M3 M4 M5 R3 hm4 hm5
  go_loopw [14] (fun i wr => ∃ k : Nat, k ≤ n ∧ i = .int .i64 k ∧ ∃ q, wr = w5.drewN q) (fun i _ => n - (intOf i).toNat)
  case atStart => exact ⟨0, Nat.zero_le _, rfl, 0, rfl⟩
  case round =>
    obtain ⟨k, hk, rfl, q, rfl⟩ := hrel
    by_cases hlt : k < n
    · have hkx : k < xs.length := by rw [← HN.out]; exact hlt
      obtain ⟨b1, o1, rfl, -, k0, k1, k2⟩ := rd3 HR3.out hkx
      obtain ⟨b2, o2, rfl, -, l0, l1, l2⟩ := rd3 HA5.out hkx
      obtain ⟨y, hy⟩ : ∃ y, y = xs[k] := ⟨_, rfl⟩
      rw [← hy] at k0 k1 k2 l0 l1 l2
      have hneq := fun W => neq_rg y W
      unfold Rg.val at hneq
      clear hy
      go_wp2
      go_quiet (fail)
      go_wp2
      go_roundw
      case rel => exact ⟨k + 1, by omega, by go_num, _, rfl⟩
      case measure => simp only [intOf]; omega
    · have M5 := HM5.out
      go_wp2_with (first
        | (go_at_call 10; refine (num_any _ _).mono ?_; rintro e w' ⟨rfl, rfl⟩)
        | (go_at_call 7; refine (known_any _).mono ?_; rintro e w' ⟨rfl, hm⟩)
        | fail)
      go_ret
      exact ⟨rfl, (show Mod (fun _ => False) w _ by (repeat' (first | exact Mod.refl _ _ | assumption | refine Mod.alloc ?_ _ | refine Mod.drew ?_ | refine Mod.drewN ?_ _ | refine Mod.setCell ?_ (by first | exact Or.inl rfl | (right; simp; done) | (right; simp; omega) | (left; simp; done)) _))).trans' hm⟩
/-- Errors none: the map is made; then one range more, refused or not. -/
def BackOk (b : Option Addr) (h : Int) (l : List Rg) (w : World) : Prop := (h ≠ 0 ∧ b = none) ∨ (h = 0 ∧ ∃ b', b = some ⟨b', 0, none⟩ ∧ MapAt w b' (mapR l))
theorem BackOk.mod {b : Option Addr} {h : Int} {l : List Rg} {w w' : World} (hb : BackOk b h l w) (hm : Mod (fun _ => False) w w') : BackOk b h l w' := by
  rcases hb with ⟨h0, h1⟩ | ⟨h0, b', h1, h2⟩
  · exact .inl ⟨h0, h1⟩
  · exact .inr ⟨h0, b', h1, h2.mod hm⟩
theorem with_both (b : Nat) (xs : List Rg) (x : Rg) (w : World) (hM : MapAt w b xs) (hl : xs.length ≤ 100000) (hf : ∀ y ∈ xs ++ [x], FitR y) :
    Calls Try.prog 9 #[.pointer (some ⟨b, 0, none⟩), x.val] w fun e w' => ∃ p, e = .returned (.tuple #[.pointer p, .int .i64 (errR (xs ++ [x]))]) ∧ BackOk p (errR (xs ++ [x])) (xs ++ [x]) w' ∧ Mod (fun _ => False) w w' := by
  by_cases h : errR (xs ++ [x]) = 0
  · refine (with_ok b xs x w hM hl hf h).mono ?_
    rintro e w' ⟨b', rfl, hM', hm⟩
    exact ⟨_, by rw [h], .inr ⟨h, b', rfl, hM'⟩, hm⟩
  · refine (with_err b xs x w hM hl hf h).mono ?_
    rintro e w' ⟨rfl, hm⟩
    exact ⟨none, rfl, .inl ⟨h, rfl⟩, hm⟩

set_option maxRecDepth 100000 in
set_option maxHeartbeats 8000000 in
theorem makes_ok (A : Option Addr) (c : Nat) (xs : List Rg) (x : Rg) (r leave : Int) (w : World) (hA : Rd (fun b => b < w.heap.size) w 3 Rg.cs A xs) (hl : xs.length ≤ 200) (hf : ∀ y ∈ xs, FitR y) (hx : FitR x) (he : errR xs = 0) :
    Calls Try.prog 5 #[.slice A xs.length c, x.val, .int .i32 r, .int .i64 leave] w fun e w' => e = .returned (.bool true) ∧ Mod (fun _ => False) w w' := by
  have HA := Lib.hid (fun X (hX : Mod (fun _ => False) w X) => rd_keep hA hX)
  have HOf := Lib.hid (fun (X : World) A c (h : Rd (fun b => b < X.heap.size) X 3 Rg.cs A xs) => of_ok A c xs X h (by omega) hf he)
  have HRef := Lib.hid (fun X (h : Mod (fun _ => False) w X) => rrof_map A c xs X (HA.out X h) (by omega) hf)
  obtain ⟨n, hn⟩ : ∃ n, n = xs.length := ⟨_, rfl⟩
  obtain ⟨ms, hms⟩ : ∃ ms, ms = mapR xs := ⟨_, rfl⟩
  have hml : ms.length ≤ 200 := by rw [hms]; exact Nat.le_trans (len_mapR xs) hl
  have hfm : ∀ y ∈ ms, FitR y := by rw [hms]; exact fit_mapR hf
  have hcan : Canon ms := by rw [hms]; exact (mapR_facts he).1
  have hfx : ∀ y ∈ ms ++ [x], FitR y := fun y hy => by
    rcases List.mem_append.1 hy with h | h
    · exact hfm y h
    · obtain rfl := List.mem_singleton.1 h; exact hx
  rw [he] at HRef
  rw [← hms] at HOf HRef
  rw [← hn] at hl HOf HRef ⊢
  have HN := Lib.hid hn
  have HFm := Lib.hid hfm
  have HCan := Lib.hid hcan
  have HFx := Lib.hid hfx
  clear hn hms he hA hfm hcan hfx hf hx
  unfold Rg.val
  go_enter Try.func5, Try.ntmps5
  go_wp2_with (first
    | (at_builtin
       refine wpList_app (base := w.heap.size + 1) (xs := []) (ys := xs) (v := .slice none 0 0) rfl _ (.tmp 27) rfl rgs_t Rg.cs_len Rg.cs_one rfl (OwnS.nil _ _ _ _ _) c rfl HN.out (HA.out _ (by (repeat' (first | exact Mod.refl _ _ | assumption | refine Mod.alloc ?_ _ | refine Mod.drew ?_ | refine Mod.drewN ?_ _ | refine Mod.setCell ?_ (by first | exact Or.inl rfl | (right; simp; done) | (right; simp; omega) | (left; simp; done)) _)))) ?_ ?_ ?_ ?_
       · rw [← HN.out]; simp [maxLen]; omega
       · rw [← HN.out]; simp; omega
       · simp
       intro v3 w3 hv3 hm3 _
       rw [List.nil_append] at hv3
       have M3 := (show Mod (fun _ => False) w _ by (repeat' (first | exact Mod.refl _ _ | assumption | refine Mod.alloc ?_ _ | refine Mod.drew ?_ | refine Mod.drewN ?_ _ | refine Mod.setCell ?_ (by first | exact Or.inl rfl | (right; simp; done) | (right; simp; omega) | (left; simp; done)) _))).trans' (hm3.mono (C' := fun _ => False) (fun b _ h => by simp [Value.ownBlock] at h))
       obtain ⟨A3, c3, hv3', hr3, hf3, -⟩ := OwnS.rd hv3 Rg.cs_len
       rw [← HN.out] at hv3'
       subst hv3'
       have R3 := Lib.hid (hr3.mono (D' := fun b => b < w3.heap.size) fun b hb => (hf3 b hb).2)
       have HX3 := Lib.hid (show w3.heap[w.heap.size]? = some (.cells #[.int .i32 x.lo, .int .i32 x.hi, .int .i64 x.v] 24 (0, 0)) from hp_mod (hp_new _ _) hm3 (by simp [Value.ownBlock]))
       clear hm3 hv3 hr3 hf3)
    | (go_at_call 8
       refine (HOf.out _ A3 c3 R3.out).mono ?_
       rintro e w4 ⟨b4, rfl, hM4, hm4⟩
       have M4 := M3.trans' hm4)
    | (go_at_call 11
       refine (HRef.out _ M4).mono ?_
       rintro e w5 ⟨A5, c5, rfl, hr5, hm5⟩
       have M5 := M4.trans' hm5)
    | fail)
  have HR3 := Lib.hid (rd_keep (rd_keep R3.out hm4) hm5)
  have HA5 := Lib.hid (HA.out _ M5)
  have HM5 := Lib.hid M5
  have HX5 := Lib.hid (hp_mod (hp_mod HX3.out hm4 id) hm5 id)
  have HMp5 := Lib.hid (hM4.mod hm5)
  have HR5 := Lib.hid hr5
  clear M3 M4 M5 R3 hm4 hm5 HX3 hM4 hr5
  go_loopw [14] (fun i wr => ∃ k : Nat, k ≤ n ∧ i = .int .i64 k ∧ ∃ q, wr = w5.drewN q) (fun i _ => n - (intOf i).toNat)
  case atStart => exact ⟨0, Nat.zero_le _, rfl, 0, rfl⟩
  case round =>
    obtain ⟨k, hk, rfl, q, rfl⟩ := hrel
    by_cases hlt : k < n
    · have hkx : k < xs.length := by rw [← HN.out]; exact hlt
      obtain ⟨b1, o1, rfl, -, k0, k1, k2⟩ := rd3 HR3.out hkx
      obtain ⟨b2, o2, rfl, -, l0, l1, l2⟩ := rd3 HA5.out hkx
      obtain ⟨y, hy⟩ : ∃ y, y = xs[k] := ⟨_, rfl⟩
      rw [← hy] at k0 k1 k2 l0 l1 l2
      have hneq := fun W => neq_rg y W
      unfold Rg.val at hneq
      clear hy
      go_wp2
      go_quiet (fail)
      go_wp2
      go_roundw
      case rel => exact ⟨k + 1, by omega, by go_num, _, rfl⟩
      case measure => simp only [intOf]; omega
    · refine wp_as (fun W => Mod (fun _ => False) w W ∧ MapAt W b4 ms ∧ Rd (fun b => b < W.heap.size) W 3 Rg.cs A5 ms ∧ W.heap[w.heap.size]? = some (.cells #[.int .i32 x.lo, .int .i32 x.hi, .int .i64 x.v] 24 (0, 0)))
        ⟨HM5.out.drewN q, HMp5.out.mod ((Mod.refl _ _).drewN q), rd_keep HR5.out ((Mod.refl _ _).drewN q), HX5.out⟩ ?_
      rintro W6 ⟨M6, hMap, hRef, hX6⟩
      have HMap := Lib.hid (fun X (hX : Mod (fun _ => False) W6 X) => hMap.mod hX)
      have HRf := Lib.hid (fun X (hX : Mod (fun _ => False) W6 X) => rd_keep hRef hX)
      have hget := fun X (hX : Mod (fun _ => False) W6 X) => get_map b4 ms r X (hMap.mod hX) (by omega) HCan.out
      have hrget := fun X (hX : Mod (fun _ => False) W6 X) => rrget_map A5 c5 ms r X (rd_keep hRef hX) (by omega)
      have hmany := fun X (hX : Mod (fun _ => False) W6 X) => many_map b4 ms X (hMap.mod hX) (by omega) HFm.out
      have hrmany := fun X (hX : Mod (fun _ => False) W6 X) => rrmany_map A5 c5 ms X (rd_keep hRef hX) (by omega) HFm.out
      have hwith := fun X (hX : Mod (fun _ => False) W6 X) => with_both b4 ms x X (hMap.mod hX) (by omega) HFx.out
      obtain ⟨gv, hgv⟩ : ∃ gv, gv = (val ms r).getD 0 := ⟨_, rfl⟩
      obtain ⟨gb, hgb⟩ : ∃ gb, gb = (val ms r).isSome := ⟨_, rfl⟩
      obtain ⟨tm, htm⟩ : ∃ tm, tm = tot ms := ⟨_, rfl⟩
      obtain ⟨eh, heh⟩ : ∃ eh, eh = errR (ms ++ [x]) := ⟨_, rfl⟩
      rw [← hgv, ← hgb] at hget hrget
      rw [← htm] at hmany hrmany
      rw [← heh] at hwith
      unfold Rg.val at hwith
      have HGet := Lib.hid hget
      have HRGet := Lib.hid hrget
      have HMany := Lib.hid hmany
      have HRMany := Lib.hid hrmany
      have HWith := Lib.hid hwith
      have HEh := Lib.hid heh
      have x0 := hp_cell hX6 0
      have x1 := hp_cell hX6 1
      have x2 := hp_cell hX6 2
      have hx6 := hp_lt hX6
      have HX6 := Lib.hid hX6
      clear hget hrget hmany hrmany hwith hgv hgb htm heh hMap hRef hX6
      go_wp2_with (first
        | (go_at_call 10; refine (num_any _ _).mono ?_; rintro e w' ⟨rfl, rfl⟩)
        | (go_at_call 15
           refine (HGet.out _ (by (repeat' (first | exact Mod.refl _ _ | assumption | refine Mod.alloc ?_ _ | refine Mod.drew ?_ | refine Mod.drewN ?_ _ | refine Mod.setCell ?_ (by first | exact Or.inl rfl | (right; simp; done) | (right; simp; omega) | (left; simp; done)) _)))).mono ?_
           rintro e w7 ⟨rfl, hm7⟩
           have M7 : Mod (fun _ => False) W6 w7 := (show Mod (fun _ => False) W6 _ by (repeat' (first | exact Mod.refl _ _ | assumption | refine Mod.alloc ?_ _ | refine Mod.drew ?_ | refine Mod.drewN ?_ _ | refine Mod.setCell ?_ (by first | exact Or.inl rfl | (right; simp; done) | (right; simp; omega) | (left; simp; done)) _))).trans' hm7
           clear hm7)
        | (go_at_call 16; refine (HRGet.out _ (by (repeat' (first | exact Mod.refl _ _ | assumption | refine Mod.alloc ?_ _ | refine Mod.drew ?_ | refine Mod.drewN ?_ _ | refine Mod.setCell ?_ (by first | exact Or.inl rfl | (right; simp; done) | (right; simp; omega) | (left; simp; done)) _)))).mono ?_; rintro e w' ⟨rfl, rfl⟩)
        | (go_at_call 17; refine (len_map b4 ms _ (HMap.out _ (by (repeat' (first | exact Mod.refl _ _ | assumption | refine Mod.alloc ?_ _ | refine Mod.drew ?_ | refine Mod.drewN ?_ _ | refine Mod.setCell ?_ (by first | exact Or.inl rfl | (right; simp; done) | (right; simp; omega) | (left; simp; done)) _))))).mono ?_; rintro e w' ⟨rfl, rfl⟩)
        | (go_at_call 13
           refine (HMany.out _ (by (repeat' (first | exact Mod.refl _ _ | assumption | refine Mod.alloc ?_ _ | refine Mod.drew ?_ | refine Mod.drewN ?_ _ | refine Mod.setCell ?_ (by first | exact Or.inl rfl | (right; simp; done) | (right; simp; omega) | (left; simp; done)) _)))).mono ?_
           rintro e w8 ⟨rfl, hm8⟩
           have M8 : Mod (fun _ => False) W6 w8 := (show Mod (fun _ => False) W6 _ by (repeat' (first | exact Mod.refl _ _ | assumption | refine Mod.alloc ?_ _ | refine Mod.drew ?_ | refine Mod.drewN ?_ _ | refine Mod.setCell ?_ (by first | exact Or.inl rfl | (right; simp; done) | (right; simp; omega) | (left; simp; done)) _))).trans' hm8
           clear hm8)
        | (go_at_call 18
           refine (HRMany.out _ (by (repeat' (first | exact Mod.refl _ _ | assumption | refine Mod.alloc ?_ _ | refine Mod.drew ?_ | refine Mod.drewN ?_ _ | refine Mod.setCell ?_ (by first | exact Or.inl rfl | (right; simp; done) | (right; simp; omega) | (left; simp; done)) _)))).mono ?_
           rintro e w9 ⟨rfl, hm9⟩
           have M9 : Mod (fun _ => False) W6 w9 := (show Mod (fun _ => False) W6 _ by (repeat' (first | exact Mod.refl _ _ | assumption | refine Mod.alloc ?_ _ | refine Mod.drew ?_ | refine Mod.drewN ?_ _ | refine Mod.setCell ?_ (by first | exact Or.inl rfl | (right; simp; done) | (right; simp; omega) | (left; simp; done)) _))).trans' hm9
           clear hm9)
        | (go_at_call 12
           refine (once_map b4 A5 c5 ms _ _ (HMap.out _ (by (repeat' (first | exact Mod.refl _ _ | assumption | refine Mod.alloc ?_ _ | refine Mod.drew ?_ | refine Mod.drewN ?_ _ | refine Mod.setCell ?_ (by first | exact Or.inl rfl | (right; simp; done) | (right; simp; omega) | (left; simp; done)) _)))) (HRf.out _ (by (repeat' (first | exact Mod.refl _ _ | assumption | refine Mod.alloc ?_ _ | refine Mod.drew ?_ | refine Mod.drewN ?_ _ | refine Mod.setCell ?_ (by first | exact Or.inl rfl | (right; simp; done) | (right; simp; omega) | (left; simp; done)) _)))) (by omega)).mono ?_
           rintro e w10 ⟨rfl, hm10⟩
           have M10 : Mod (fun _ => False) W6 w10 := (show Mod (fun _ => False) W6 _ by (repeat' (first | exact Mod.refl _ _ | assumption | refine Mod.alloc ?_ _ | refine Mod.drew ?_ | refine Mod.drewN ?_ _ | refine Mod.setCell ?_ (by first | exact Or.inl rfl | (right; simp; done) | (right; simp; omega) | (left; simp; done)) _))).trans' hm10
           have x0 := (M10.cell (p := ⟨w.heap.size, 0, none⟩) hx6 id).trans (hp_cell HX6.out 0)
           have x1 := (M10.cell (p := ⟨w.heap.size, 1, none⟩) hx6 id).trans (hp_cell HX6.out 1)
           have x2 := (M10.cell (p := ⟨w.heap.size, 2, none⟩) hx6 id).trans (hp_cell HX6.out 2)
           clear hm10)
        | (go_at_call 9
           refine (HWith.out _ (by (repeat' (first | exact Mod.refl _ _ | assumption | refine Mod.alloc ?_ _ | refine Mod.drew ?_ | refine Mod.drewN ?_ _ | refine Mod.setCell ?_ (by first | exact Or.inl rfl | (right; simp; done) | (right; simp; omega) | (left; simp; done)) _)))).mono ?_
           rintro e w12 ⟨p12, rfl, hb12, hm12⟩
           have M12 : Mod (fun _ => False) W6 w12 := (show Mod (fun _ => False) W6 _ by (repeat' (first | exact Mod.refl _ _ | assumption | refine Mod.alloc ?_ _ | refine Mod.drew ?_ | refine Mod.drewN ?_ _ | refine Mod.setCell ?_ (by first | exact Or.inl rfl | (right; simp; done) | (right; simp; omega) | (left; simp; done)) _))).trans' hm12
           have y0 := (M12.cell (p := ⟨w.heap.size, 0, none⟩) hx6 id).trans (hp_cell HX6.out 0)
           have y1 := (M12.cell (p := ⟨w.heap.size, 1, none⟩) hx6 id).trans (hp_cell HX6.out 1)
           have y2 := (M12.cell (p := ⟨w.heap.size, 2, none⟩) hx6 id).trans (hp_cell HX6.out 2)
           clear hm12)
        | fail)
      have hx12 : w.heap.size < w12.heap.size := Nat.lt_of_lt_of_le hx6 M12.size
      have HRf12 := Lib.hid (fun X (hX : Mod (fun _ => False) w12 X) => HRf.out X (M12.trans' hX))
      have hlx : (ms ++ [x]).length = ms.length + 1 := by simp
      have HLx := Lib.hid hlx
      have HQ := Lib.hid (show 0 + ms.length ≤ maxLen ∧ (0 + ms.length) * 16 ≤ 140737488355328 ∧ ms.length + [x].length ≤ maxLen ∧ (ms.length + [x].length) * 16 ≤ 140737488355328 by simp [maxLen]; omega)
      obtain ⟨mo, hmo⟩ : ∃ mo, mo = mapR (ms ++ [x]) := ⟨_, rfl⟩
      have hmol : mo.length ≤ 201 := by rw [hmo]; exact Nat.le_trans (len_mapR _) (by rw [hlx]; omega)
      have hrx := fun A c (X : World) (hR : Rd (fun b => b < X.heap.size) X 3 Rg.cs A (ms ++ [x])) => rrof_map A c (ms ++ [x]) X hR (by rw [hlx]; omega) HFx.out
      rw [← HEh.out, ← hmo, hlx] at hrx
      have HRx := Lib.hid hrx
      have HMo := Lib.hid hmo
      have HMap12 := Lib.hid (fun X (hX : Mod (fun _ => False) w12 X) => HMap.out X (M12.trans' hX))
      have M12' := M6.trans' M12
      clear hrx hmo hlx x0 x1 x2
      rcases hb12 with ⟨hne, rfl⟩ | ⟨h0, b12, rfl, hM12⟩
      · have hnb : (eh == 0) = false := by simpa using hne
        clear hne
        go_region_held3 (fun W => W.cell? ⟨w.heap.size, 0, none⟩ = some (.int .i32 x.lo) ∧ W.cell? ⟨w.heap.size, 1, none⟩ = some (.int .i32 x.hi) ∧ W.cell? ⟨w.heap.size, 2, none⟩ = some (.int .i64 x.v)) (first | exact ⟨y0, y1, y2⟩ | exact ⟨s0, s1, s2⟩ | exact ⟨u0, u1, u2⟩ | exact ⟨v0, v1, v2⟩ | exact ⟨(World.cell?_alloc_lt _ _ _ hx12).trans y0, (World.cell?_alloc_lt _ _ _ hx12).trans y1, (World.cell?_alloc_lt _ _ _ hx12).trans y2⟩ | exact ⟨(World.cell?_alloc_lt _ _ _ hx13).trans s0, (World.cell?_alloc_lt _ _ _ hx13).trans s1, (World.cell?_alloc_lt _ _ _ hx13).trans s2⟩ | fail) (first
          | (refine step_app (base := w12.heap.size) (xs := []) (ys := ms) (v := .slice none 0 0) rfl _ (.tmp 130) rfl rgs_t Rg.cs_len Rg.cs_one rfl (OwnS.nil _ _ _ _ _) c5 rfl rfl (HRf12.out _ (by (repeat' (first | exact Mod.refl _ _ | assumption | refine Mod.alloc ?_ _ | refine Mod.drew ?_ | refine Mod.drewN ?_ _ | refine Mod.setCell ?_ (by first | exact Or.inl rfl | (right; simp; done) | (right; simp; omega) | (left; simp; done)) _)))) ?_ ?_ ?_ ?_
             · exact HQ.out.1
             · exact HQ.out.2.1
             · first | exact Nat.le_refl _ | (simp; done)
             intro v13 w13 hown13 hm13x _
             have hm13 : Mod (fun _ => False) _ w13 := hm13x.mono (fun b _ h => by simp [Value.ownBlock] at h)
             rw [List.nil_append] at hown13
             obtain ⟨A13, c13, rfl, -, hf13, -⟩ := OwnS.rd hown13 Rg.cs_len
             have M13 : Mod (fun _ => False) w12 w13 := (show Mod (fun _ => False) w12 _ by (repeat' (first | exact Mod.refl _ _ | assumption | refine Mod.alloc ?_ _ | refine Mod.drew ?_ | refine Mod.drewN ?_ _ | refine Mod.setCell ?_ (by first | exact Or.inl rfl | (right; simp; done) | (right; simp; omega) | (left; simp; done)) _))).trans' hm13
             have s0 := (M13.cell (p := ⟨w.heap.size, 0, none⟩) hx12 id).trans y0
             have s1 := (M13.cell (p := ⟨w.heap.size, 1, none⟩) hx12 id).trans y1
             have s2 := (M13.cell (p := ⟨w.heap.size, 2, none⟩) hx12 id).trans y2
             have O13 := Lib.hid (fun X (hX : Mod (fun _ => False) w13 X) => hown13.mod hX (fun b _ => id))
             have hx13 : w.heap.size < w13.heap.size := Nat.lt_of_lt_of_le hx12 M13.size
             clear hm13x hown13)
          | (refine step_app (base := w12.heap.size) (xs := ms) (ys := [x]) (D := fun _ => True) (v := .slice A13 ms.length c13) rfl (.tmp 131) (.tmp 133) rfl rgs_t Rg.cs_len Rg.cs_one rfl (O13.out _ (by first | exact Mod.refl _ _ | (repeat' (first | exact Mod.refl _ _ | assumption | refine Mod.alloc ?_ _ | refine Mod.drew ?_ | refine Mod.drewN ?_ _ | refine Mod.setCell ?_ (by first | exact Or.inl rfl | (right; simp; done) | (right; simp; omega) | (left; simp; done)) _)))) 1 rfl rfl (rd_oneT (c := #[.int .i32 x.lo, .int .i32 x.hi, .int .i64 x.v]) (t := 24) (fr := (0, 0)) (by first | exact hp_new _ _ | exact hp_mod (C := fun _ => False) (hp_new _ _) hm13.undrew id | exact hp_mod (C := fun _ => False) (hp_new _ _) hm13 id) rfl) ?_ ?_ ?_ ?_
             · exact HQ.out.2.2.1
             · exact HQ.out.2.2.2
             · first | exact M13.size | (have := M13.size; simp; omega)
             intro v14 w14 hown14 hm14x _
             have M14 : Mod (fun _ => False) w12 w14 := (show Mod (fun _ => False) w12 _ by (repeat' (first | exact Mod.refl _ _ | assumption | refine Mod.alloc ?_ _ | refine Mod.drew ?_ | refine Mod.drewN ?_ _ | refine Mod.setCell ?_ (by first | exact Or.inl rfl | (right; simp; done) | (right; simp; omega) | (left; simp; done)) _))).trans hm14x (fun b h => .inr (hf13 b h).1)
             obtain ⟨A14, c14, hv14, hr14, hf14, -⟩ := OwnS.rd hown14 Rg.cs_len
             rw [HLx.out] at hv14
             subst hv14
             have u0 := (M14.cell (p := ⟨w.heap.size, 0, none⟩) hx12 id).trans y0
             have u1 := (M14.cell (p := ⟨w.heap.size, 1, none⟩) hx12 id).trans y1
             have u2 := (M14.cell (p := ⟨w.heap.size, 2, none⟩) hx12 id).trans y2
             have R14 := Lib.hid (fun X (hX : Mod (fun _ => False) w14 X) => (hr14.mod hX (fun b hb => ⟨(hf14 b hb).2, id⟩)).mono (D' := fun b => b < X.heap.size) (fun b hb => Nat.lt_of_lt_of_le (hf14 b hb).2 hX.size))
             clear hown14 hr14 hm14x)
          | (go_at_call 11
             refine (HRx.out A14 c14 _ (R14.out _ (by (repeat' (first | exact Mod.refl _ _ | assumption | refine Mod.alloc ?_ _ | refine Mod.drew ?_ | refine Mod.drewN ?_ _ | refine Mod.setCell ?_ (by first | exact Or.inl rfl | (right; simp; done) | (right; simp; omega) | (left; simp; done)) _))))).mono ?_
             rintro e w15 ⟨A15, c15, rfl, hr15, hm15⟩
             have M15 : Mod (fun _ => False) w12 w15 := (show Mod (fun _ => False) w12 _ by (repeat' (first | exact Mod.refl _ _ | assumption | refine Mod.alloc ?_ _ | refine Mod.drew ?_ | refine Mod.drewN ?_ _ | refine Mod.setCell ?_ (by first | exact Or.inl rfl | (right; simp; done) | (right; simp; omega) | (left; simp; done)) _))).trans' hm15
             have v0 := (M15.cell (p := ⟨w.heap.size, 0, none⟩) hx12 id).trans y0
             have v1 := (M15.cell (p := ⟨w.heap.size, 1, none⟩) hx12 id).trans y1
             have v2 := (M15.cell (p := ⟨w.heap.size, 2, none⟩) hx12 id).trans y2)
          | fail)
        all_goals
          go_wp2_with (first
            | (go_at_call 10; refine (num_any _ _).mono ?_; rintro e w' ⟨rfl, rfl⟩)
            | (go_at_call 7; refine (known_any _).mono ?_; rintro e w' ⟨rfl, hm⟩)
            | fail)
          go_ret
          exact ⟨rfl, (M12'.trans' M15).trans' hm⟩
      · subst h0
        have HO12 := Lib.hid (fun X (hX : Mod (fun _ => False) w12 X) => hM12.mod hX)
        rw [← HMo.out] at HO12
        clear hM12
        go_region_held3 (fun W => W.cell? ⟨w.heap.size, 0, none⟩ = some (.int .i32 x.lo) ∧ W.cell? ⟨w.heap.size, 1, none⟩ = some (.int .i32 x.hi) ∧ W.cell? ⟨w.heap.size, 2, none⟩ = some (.int .i64 x.v)) (first | exact ⟨y0, y1, y2⟩ | exact ⟨s0, s1, s2⟩ | exact ⟨u0, u1, u2⟩ | exact ⟨v0, v1, v2⟩ | exact ⟨(World.cell?_alloc_lt _ _ _ hx12).trans y0, (World.cell?_alloc_lt _ _ _ hx12).trans y1, (World.cell?_alloc_lt _ _ _ hx12).trans y2⟩ | exact ⟨(World.cell?_alloc_lt _ _ _ hx13).trans s0, (World.cell?_alloc_lt _ _ _ hx13).trans s1, (World.cell?_alloc_lt _ _ _ hx13).trans s2⟩ | fail) (first
          | (refine step_app (base := w12.heap.size) (xs := []) (ys := ms) (v := .slice none 0 0) rfl _ (.tmp 130) rfl rgs_t Rg.cs_len Rg.cs_one rfl (OwnS.nil _ _ _ _ _) c5 rfl rfl (HRf12.out _ (by (repeat' (first | exact Mod.refl _ _ | assumption | refine Mod.alloc ?_ _ | refine Mod.drew ?_ | refine Mod.drewN ?_ _ | refine Mod.setCell ?_ (by first | exact Or.inl rfl | (right; simp; done) | (right; simp; omega) | (left; simp; done)) _)))) ?_ ?_ ?_ ?_
             · exact HQ.out.1
             · exact HQ.out.2.1
             · first | exact Nat.le_refl _ | (simp; done)
             intro v13 w13 hown13 hm13x _
             have hm13 : Mod (fun _ => False) _ w13 := hm13x.mono (fun b _ h => by simp [Value.ownBlock] at h)
             rw [List.nil_append] at hown13
             obtain ⟨A13, c13, rfl, -, hf13, -⟩ := OwnS.rd hown13 Rg.cs_len
             have M13 : Mod (fun _ => False) w12 w13 := (show Mod (fun _ => False) w12 _ by (repeat' (first | exact Mod.refl _ _ | assumption | refine Mod.alloc ?_ _ | refine Mod.drew ?_ | refine Mod.drewN ?_ _ | refine Mod.setCell ?_ (by first | exact Or.inl rfl | (right; simp; done) | (right; simp; omega) | (left; simp; done)) _))).trans' hm13
             have s0 := (M13.cell (p := ⟨w.heap.size, 0, none⟩) hx12 id).trans y0
             have s1 := (M13.cell (p := ⟨w.heap.size, 1, none⟩) hx12 id).trans y1
             have s2 := (M13.cell (p := ⟨w.heap.size, 2, none⟩) hx12 id).trans y2
             have O13 := Lib.hid (fun X (hX : Mod (fun _ => False) w13 X) => hown13.mod hX (fun b _ => id))
             have hx13 : w.heap.size < w13.heap.size := Nat.lt_of_lt_of_le hx12 M13.size
             clear hm13x hown13)
          | (refine step_app (base := w12.heap.size) (xs := ms) (ys := [x]) (D := fun _ => True) (v := .slice A13 ms.length c13) rfl (.tmp 131) (.tmp 133) rfl rgs_t Rg.cs_len Rg.cs_one rfl (O13.out _ (by first | exact Mod.refl _ _ | (repeat' (first | exact Mod.refl _ _ | assumption | refine Mod.alloc ?_ _ | refine Mod.drew ?_ | refine Mod.drewN ?_ _ | refine Mod.setCell ?_ (by first | exact Or.inl rfl | (right; simp; done) | (right; simp; omega) | (left; simp; done)) _)))) 1 rfl rfl (rd_oneT (c := #[.int .i32 x.lo, .int .i32 x.hi, .int .i64 x.v]) (t := 24) (fr := (0, 0)) (by first | exact hp_new _ _ | exact hp_mod (C := fun _ => False) (hp_new _ _) hm13.undrew id | exact hp_mod (C := fun _ => False) (hp_new _ _) hm13 id) rfl) ?_ ?_ ?_ ?_
             · exact HQ.out.2.2.1
             · exact HQ.out.2.2.2
             · first | exact M13.size | (have := M13.size; simp; omega)
             intro v14 w14 hown14 hm14x _
             have M14 : Mod (fun _ => False) w12 w14 := (show Mod (fun _ => False) w12 _ by (repeat' (first | exact Mod.refl _ _ | assumption | refine Mod.alloc ?_ _ | refine Mod.drew ?_ | refine Mod.drewN ?_ _ | refine Mod.setCell ?_ (by first | exact Or.inl rfl | (right; simp; done) | (right; simp; omega) | (left; simp; done)) _))).trans hm14x (fun b h => .inr (hf13 b h).1)
             obtain ⟨A14, c14, hv14, hr14, hf14, -⟩ := OwnS.rd hown14 Rg.cs_len
             rw [HLx.out] at hv14
             subst hv14
             have u0 := (M14.cell (p := ⟨w.heap.size, 0, none⟩) hx12 id).trans y0
             have u1 := (M14.cell (p := ⟨w.heap.size, 1, none⟩) hx12 id).trans y1
             have u2 := (M14.cell (p := ⟨w.heap.size, 2, none⟩) hx12 id).trans y2
             have R14 := Lib.hid (fun X (hX : Mod (fun _ => False) w14 X) => (hr14.mod hX (fun b hb => ⟨(hf14 b hb).2, id⟩)).mono (D' := fun b => b < X.heap.size) (fun b hb => Nat.lt_of_lt_of_le (hf14 b hb).2 hX.size))
             clear hown14 hr14 hm14x)
          | (go_at_call 11
             refine (HRx.out A14 c14 _ (R14.out _ (by (repeat' (first | exact Mod.refl _ _ | assumption | refine Mod.alloc ?_ _ | refine Mod.drew ?_ | refine Mod.drewN ?_ _ | refine Mod.setCell ?_ (by first | exact Or.inl rfl | (right; simp; done) | (right; simp; omega) | (left; simp; done)) _))))).mono ?_
             rintro e w15 ⟨A15, c15, rfl, hr15, hm15⟩
             have M15 : Mod (fun _ => False) w12 w15 := (show Mod (fun _ => False) w12 _ by (repeat' (first | exact Mod.refl _ _ | assumption | refine Mod.alloc ?_ _ | refine Mod.drew ?_ | refine Mod.drewN ?_ _ | refine Mod.setCell ?_ (by first | exact Or.inl rfl | (right; simp; done) | (right; simp; omega) | (left; simp; done)) _))).trans' hm15
             have v0 := (M15.cell (p := ⟨w.heap.size, 0, none⟩) hx12 id).trans y0
             have v1 := (M15.cell (p := ⟨w.heap.size, 1, none⟩) hx12 id).trans y1
             have v2 := (M15.cell (p := ⟨w.heap.size, 2, none⟩) hx12 id).trans y2)
          | fail)
        all_goals
          have HRo := Lib.hid (fun X (hX : Mod (fun _ => False) w15 X) => rd_keep hr15 hX)
          have N15 : Mod (fun _ => False) w15 w15 := Mod.refl _ _
          go_wp2_with (first
            | (go_at_call 10; refine (num_any _ _).mono ?_; rintro e w' ⟨rfl, rfl⟩)
            | (go_at_call_of 12 (Value.pointer (some (Addr.mk b12 0 none)))
               refine (once_map b12 A15 c15 mo _ _ (HO12.out _ (M15.trans' (show Mod (fun _ => False) w15 _ by (repeat' (first | exact Mod.refl _ _ | assumption | refine Mod.alloc ?_ _ | refine Mod.drew ?_ | refine Mod.drewN ?_ _ | refine Mod.setCell ?_ (by first | exact Or.inl rfl | (right; simp; done) | (right; simp; omega) | (left; simp; done)) _))))) (HRo.out _ (by (repeat' (first | exact Mod.refl _ _ | assumption | refine Mod.alloc ?_ _ | refine Mod.drew ?_ | refine Mod.drewN ?_ _ | refine Mod.setCell ?_ (by first | exact Or.inl rfl | (right; simp; done) | (right; simp; omega) | (left; simp; done)) _)))) (by omega)).mono ?_
               rintro e w16 ⟨rfl, hm16⟩)
            | (go_at_call_of 12 (Value.pointer (some (Addr.mk b4 0 none)))
               refine (once_map b4 A5 c5 ms _ _ (HMap12.out _ (M15.trans' (show Mod (fun _ => False) w15 _ by (repeat' (first | exact Mod.refl _ _ | assumption | refine Mod.alloc ?_ _ | refine Mod.drew ?_ | refine Mod.drewN ?_ _ | refine Mod.setCell ?_ (by first | exact Or.inl rfl | (right; simp; done) | (right; simp; omega) | (left; simp; done)) _))))) (HRf12.out _ (M15.trans' (show Mod (fun _ => False) w15 _ by (repeat' (first | exact Mod.refl _ _ | assumption | refine Mod.alloc ?_ _ | refine Mod.drew ?_ | refine Mod.drewN ?_ _ | refine Mod.setCell ?_ (by first | exact Or.inl rfl | (right; simp; done) | (right; simp; omega) | (left; simp; done)) _))))) (by omega)).mono ?_
               rintro e w17 ⟨rfl, hm17⟩
               have M17 : Mod (fun _ => False) w15 w17 := (show Mod (fun _ => False) w15 _ by (repeat' (first | exact Mod.refl _ _ | assumption | refine Mod.alloc ?_ _ | refine Mod.drew ?_ | refine Mod.drewN ?_ _ | refine Mod.setCell ?_ (by first | exact Or.inl rfl | (right; simp; done) | (right; simp; omega) | (left; simp; done)) _))).trans' hm17)
            | (go_at_call 7; refine (known_any _).mono ?_; rintro e w' ⟨rfl, hm⟩)
            | fail)
          go_ret
          exact ⟨rfl, ((M12'.trans' M15).trans' (show Mod (fun _ => False) w15 _ by (repeat' (first | exact Mod.refl _ _ | assumption | refine Mod.alloc ?_ _ | refine Mod.drew ?_ | refine Mod.drewN ?_ _ | refine Mod.setCell ?_ (by first | exact Or.inl rfl | (right; simp; done) | (right; simp; omega) | (left; simp; done)) _)))).trans' hm⟩
end Go.Proofs.Ytaohdhblnjoihaa
