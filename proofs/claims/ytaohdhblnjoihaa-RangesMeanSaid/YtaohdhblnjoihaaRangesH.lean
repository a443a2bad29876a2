/-
  Ranges: the words for a law's walk; the chapter's row.
-/
import Derived.Test.YtaohdhblnjoihaaRangesG
namespace Go.Proofs.Ytaohdhblnjoihaa
open Go.RowKit Go.Shelf
attribute [local go_sem] Oper.semAt_some

theorem once_map (b : Nat) (B : Option Addr) (d : Nat) (xs : List Rg) (most : Int) (w : World) (hM : MapAt w b xs) (hB : Rd (fun b => b < w.heap.size) w 3 Rg.cs B xs) (hl : xs.length ≤ 1000000) :
    Calls Try.prog 12 #[.pointer (some ⟨b, 0, none⟩), .slice B xs.length d, .int .i64 most] w fun e w' => e = .returned (.bool true) ∧ Mod (fun _ => False) w w' := by
  obtain ⟨A, c, hb, hA⟩ := hM
  exact once_any b A B c d xs most w hb hA hB hl
theorem many_map (b : Nat) (xs : List Rg) (w : World) (hM : MapAt w b xs) (hl : xs.length ≤ 1000000) (hf : ∀ x ∈ xs, FitR x) :
    Calls Try.prog 13 #[.pointer (some ⟨b, 0, none⟩)] w fun e w' => e = .returned (.int .i64 (tot xs)) ∧ Mod (fun _ => False) w w' := by
  obtain ⟨A, c, hb, hA⟩ := hM
  exact many_any b A c xs w hb hA hl hf
theorem len_map (b : Nat) (xs : List Rg) (w : World) (hM : MapAt w b xs) : Calls Try.prog 17 #[.pointer (some ⟨b, 0, none⟩)] w fun e w' => e = .returned (.int .i64 xs.length) ∧ w = w' := by
  obtain ⟨A, c, hb, hA⟩ := hM
  exact len_some b A xs.length c w hb
theorem getV_eq (l : List Rg) (r : Int) : getV l r = .tuple #[.int .i64 ((val l r).getD 0), .bool (val l r).isSome] := by
  unfold getV; cases val l r <;> rfl
theorem get_map (b : Nat) (xs : List Rg) (r : Int) (w : World) (hM : MapAt w b xs) (hl : xs.length ≤ 1000000) (hc : Canon xs) :
    Calls Try.prog 15 #[.pointer (some ⟨b, 0, none⟩), .int .i32 r] w fun e w' => e = .returned (.tuple #[.int .i64 ((val xs r).getD 0), .bool (val xs r).isSome]) ∧ Mod (fun _ => False) w w' := by
  obtain ⟨A, c, hb, hA⟩ := hM
  refine (get_some b A c xs r w hb hA (by omega) hc).mono ?_
  rintro e w' ⟨rfl, q, rfl⟩
  exact ⟨by rw [getV_eq], (Mod.refl _ _).drewN q⟩
theorem rrget_map (A : Option Addr) (c : Nat) (xs : List Rg) (r : Int) (w : World) (hA : Rd (fun b => b < w.heap.size) w 3 Rg.cs A xs) (hl : xs.length ≤ 1000000) :
    Calls Try.prog 16 #[.slice A xs.length c, .int .i32 r] w fun e w' => e = .returned (.tuple #[.int .i64 ((val xs r).getD 0), .bool (val xs r).isSome]) ∧ w = w' :=
  (rrget_any _ A c xs r w hA (by simp [maxLen]; omega)).mono fun _ _ ⟨he, hw⟩ => ⟨by rw [he, getV_eq], hw⟩
theorem rrmany_map (A : Option Addr) (c : Nat) (xs : List Rg) (w : World) (hA : Rd (fun b => b < w.heap.size) w 3 Rg.cs A xs) (hl : xs.length ≤ 1000000) (hf : ∀ x ∈ xs, FitR x) :
    Calls Try.prog 18 #[.slice A xs.length c] w fun e w' => e = .returned (.int .i64 (tot xs)) ∧ Mod (fun _ => False) w w' :=
  (rrmany_any _ A c xs w hA hl hf).mono fun _ _ ⟨he, q, hq⟩ => ⟨he, by rw [← hq]; exact (Mod.refl _ _).drewN q⟩
theorem rrof_map (A : Option Addr) (c : Nat) (xs : List Rg) (w : World) (hA : Rd (fun b => b < w.heap.size) w 3 Rg.cs A xs) (hl : xs.length ≤ 1000000) (hf : ∀ x ∈ xs, FitR x) :
    Calls Try.prog 11 #[.slice A xs.length c] w fun e w' => ∃ A' c', e = .returned (.tuple #[.slice A' (mapR xs).length c', .int .i64 (errR xs)]) ∧ Rd (fun b => b < w'.heap.size) w' 3 Rg.cs A' (mapR xs) ∧ Mod (fun _ => False) w w' := by
  refine (rrof_any A c xs w hA hl hf).mono ?_
  rintro e w' ⟨v, rfl, ho, hm⟩
  obtain ⟨A', c', rfl, hr, hf', -⟩ := OwnS.rd ho Rg.cs_len
  exact ⟨A', c', rfl, hr.mono fun b hb => (hf' b hb).2, hm⟩
theorem rd_keep {w w' : World} {A : Option Addr} {xs : List Rg} (h : Rd (fun b => b < w.heap.size) w 3 Rg.cs A xs) (hm : Mod (fun _ => False) w w') : Rd (fun b => b < w'.heap.size) w' 3 Rg.cs A xs :=
  (h.mod hm fun b hb => ⟨hb, id⟩).mono fun b hb => Nat.lt_of_lt_of_le hb hm.size

/-! ### What is made fits -/
theorem fit_joinS {acc : List Rg} {x : Rg} (ha : ∀ y ∈ acc, FitR y) (hx : FitR x) : ∀ y ∈ joinS acc x, FitR y := by
  rcases snoc_cases acc with rfl | ⟨i, y, rfl⟩
  · intro z hz; obtain rfl := List.mem_singleton.1 hz; exact hx
  · rw [joinS_snoc]
    split
    · intro z hz
      rcases List.mem_append.1 hz with h | h
      · exact ha z (by simp [h])
      · obtain rfl := List.mem_singleton.1 h
        have := ha y (by simp)
        exact ⟨this.1, this.2.1, hx.2.2.1, hx.2.2.2⟩
    · intro z hz
      rcases List.mem_append.1 hz with h | h
      · exact ha z h
      · obtain rfl := List.mem_singleton.1 h; exact hx
theorem fit_joinR {l : List Rg} (h : ∀ y ∈ l, FitR y) : ∀ y ∈ joinR l, FitR y := by
  have : ∀ (l acc : List Rg), (∀ y ∈ acc, FitR y) → (∀ y ∈ l, FitR y) → ∀ y ∈ l.foldl joinS acc, FitR y := by
    intro l
    induction l with
    | nil => intro acc ha _; exact ha
    | cons x l ih => intro acc ha hl; exact ih _ (fit_joinS ha (hl x (by simp))) (fun y hy => hl y (by simp [hy]))
  exact this l [] (fun _ h => by cases h) h
theorem fit_mapR {l : List Rg} (h : ∀ y ∈ l, FitR y) : ∀ y ∈ mapR l, FitR y := by
  unfold mapR
  split
  · exact fit_joinR fun y hy => h y ((sortR_perm l).mem_iff.1 hy)
  · exact fun _ h => by cases h
theorem len_mapR (l : List Rg) : (mapR l).length ≤ l.length := by
  unfold mapR
  split
  · exact Nat.le_trans (joinR_le _) (by rw [sortR_len]; exact Nat.le_refl _)
  · simp

set_option maxHeartbeats 1000000 in
theorem known_any (w : World) : Calls Try.prog 7 #[] w fun e w' => e = .returned (.bool true) ∧ Mod (fun _ => False) w w' := by
  have HE := Lib.hid (show errR [⟨5, 9, 1⟩, ⟨2, 4, 1⟩, ⟨12, 12, 1⟩] = 0 by decide)
  have HM := Lib.hid (show mapR [⟨5, 9, 1⟩, ⟨2, 4, 1⟩, ⟨12, 12, 1⟩] = [⟨2, 9, 1⟩, ⟨12, 12, 1⟩] by decide)
  go_enter Try.func7, Try.ntmps7
  go_wp2_with (first
    | (go_at_call 8
       refine (of_ok (some ⟨w.heap.size, 0, none⟩) 3 [⟨5, 9, 1⟩, ⟨2, 4, 1⟩, ⟨12, 12, 1⟩] _ ((Rd.blk Rg.cs_len (hp_new _ _) rfl).mono (fun b h => by subst h; simp)) (by simp) (by simp [FitR]) HE.out).mono ?_
       rintro e w1 ⟨b1, rfl, hM1, hm1⟩
       rw [HM.out] at hM1
       have M1 := (show Mod (fun _ => False) w _ by (repeat' (first | exact Mod.refl _ _ | assumption | refine Mod.alloc ?_ _ | refine Mod.drew ?_ | refine Mod.drewN ?_ _ | refine Mod.setCell ?_ (by first | exact Or.inl rfl | (right; simp; done) | (right; simp; omega) | (left; simp; done)) _))).trans' hm1
       have HMap := Lib.hid (fun X (hX : Mod (fun _ => False) w1 X) => hM1.mod hX)
       clear hM1 hm1)
    | (go_at_call 10; refine (num_any _ _).mono ?_; rintro e w' ⟨rfl, rfl⟩)
    | (go_at_call 12
       refine (once_map b1 (some ⟨w1.heap.size, 0, none⟩) 2 [⟨2, 9, 1⟩, ⟨12, 12, 1⟩] 0 _ (HMap.out _ (by (repeat' (first | exact Mod.refl _ _ | assumption | refine Mod.alloc ?_ _ | refine Mod.drew ?_ | refine Mod.drewN ?_ _ | refine Mod.setCell ?_ (by first | exact Or.inl rfl | (right; simp; done) | (right; simp; omega) | (left; simp; done)) _)))) ((Rd.blk Rg.cs_len (hp_new _ _) rfl).mono (fun b h => by subst h; simp)) (by simp)).mono ?_
       rintro e w2 ⟨rfl, hm2⟩)
    | fail)
  go_ret
  exact ⟨rfl, (show Mod (fun _ => False) w _ by (repeat' (first | exact Mod.refl _ _ | assumption | refine Mod.alloc ?_ _ | refine Mod.drew ?_ | refine Mod.drewN ?_ _ | refine Mod.setCell ?_ (by first | exact Or.inl rfl | (right; simp; done) | (right; simp; omega) | (left; simp; done)) _))).trans' hm2⟩
end Go.Proofs.Ytaohdhblnjoihaa
