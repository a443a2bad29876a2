/-
  entry.Sorted, entry.Change.
-/
import Derived.Test.YtccnkcaagigceaaGreatEntryH
namespace Go.Proofs.YtccnkcaagigceaaGreat
open Go.RowKit Go.Shelf
attribute [local go_sem] Oper.semAt_some

theorem asorted_any (D : Nat → Prop) (A : Option Addr) (c : Nat) (xs : List At) (w : World) (hA : Rd D w 2 At.cs A xs) (hl : xs.length ≤ 1099511627776) :
    Calls Tryz.prog 48 #[.slice A xs.length c] w fun e w' => ∃ A' c', e = .returned (.slice A' (sortA xs).length c') ∧ OwnS w.heap.size 52 2 At.cs w' (.slice A' (sortA xs).length c') (sortA xs) ∧ Mod (fun _ => False) w w' := by
  obtain ⟨n, hn⟩ : ∃ n, n = xs.length := ⟨_, rfl⟩
  have HC := Lib.hid (aclone_any D A c xs w hA hl)
  have HL := Lib.hid hl
  rw [← hn] at HC ⊢
  have HN := Lib.hid hn
  clear hn hA hl
  go_enter Tryz.func48, Tryz.ntmps48
  go_wp2_with (first
    | (go_at_call 45
       refine HC.out.mono ?_
       rintro e w1 ⟨A1, c1, rfl, hown, hm⟩
       have HM1 := Lib.hid hm
       have hs := asort_any w.heap.size A1 c1 xs w1 (by rw [← HN.out]; exact hown) HL.out
       rw [← HN.out] at hs
       have HS := Lib.hid hs
       have HF := Lib.hid hown.fresh
       clear hm hown hs)
    | (go_at_call 61
       refine HS.out.mono ?_
       rintro e w2 ⟨rfl, s, hp, hu, hown, hm⟩
       have HM2 := Lib.hid (HM1.out.trans hm (fun b h => .inr (HF.out b h).1))
       have hsl : s.length = n := by rw [HN.out, hp.length_eq]
       have hc := acompact_any w.heap.size A1 c1 s w2 hown (by rw [hsl, HN.out]; exact HL.out)
       rw [hsl, cptA_sort hp hu] at hc
       have HC2 := Lib.hid hc
       clear hm hown hc hsl hp hu)
    | (go_at_call 62
       refine HC2.out.mono ?_
       rintro e w3 ⟨rfl, hown, hm⟩
       have HM3 := Lib.hid (HM2.out.trans hm (fun b h => .inr (HF.out b h).1))
       have HO3 := Lib.hid hown
       clear hm hown)
    | fail)
  go_ret
  exact ⟨A1, c1, rfl, HO3.out, HM3.out⟩
theorem bad_any (x : At) (w : World) (hf : FitA x) : Calls Tryz.prog 41 #[x.val] w fun e w' => e = .returned (.bool (!mayA x)) ∧ Mod (fun _ => False) w w' := by
  have H := Lib.hid (fun X => eattr_any x X hf.1 hf.2)
  unfold At.val at H ⊢
  go_enter Tryz.func41, Tryz.ntmps41
  go_wp2_with (first
    | (go_at_call 42; refine (H.out _).mono ?_; rintro e w' ⟨rfl, hm⟩)
    | fail)
  go_ret
  exact ⟨rfl, ((Mod.refl _ w).alloc _).trans' hm⟩
theorem tyeq_any (a x : At) (ab : Nat) (w : World) (ha : w.cell? ⟨ab, 0, none⟩ = some (.string ⟨a.T.toArray⟩)) :
    Calls Tryz.prog 47 #[x.val, .pointer (some ⟨ab, 0, none⟩)] w fun e w' => e = .returned (.bool (decide (a.T = x.T))) ∧ Mod (fun _ => False) w w' := by
  have hlt := World.block_lt_of_cell? w _ ha
  have he : (a.T == x.T) = decide (a.T = x.T) := by rw [Bool.eq_iff_iff]; simp
  obtain ⟨z, hz⟩ : ∃ z, z = decide (a.T = x.T) := ⟨_, rfl⟩
  rw [← hz] at he ⊢
  clear hz
  unfold At.val
  go_enter Tryz.func47, Tryz.ntmps47
  go_wp2
  go_ret
  exact ⟨rfl, (Mod.refl _ w).alloc _⟩
theorem enters21 : ∀ args w, (callFunc 47 args).run Tryz.prog w = .ok (.enter 47 args) w := enters_of Tryz.func47 (by kernel_rfl) rfl
theorem enters2 : ∀ args w, (callFunc 46 args).run Tryz.prog w = .ok (.enter 46 args) w := enters_of Tryz.func46 (by kernel_rfl) rfl
theorem enters1 : ∀ args w, (callFunc 41 args).run Tryz.prog w = .ok (.enter 41 args) w := enters_of Tryz.func41 (by kernel_rfl) rfl
theorem tyin_any (D : Nat → Prop) (By : Option Addr) (cy : Nat) (ys : List At) (yb : Nat) (a : At) (w : World) (hy : w.cell? ⟨yb, 0, none⟩ = some (.slice By ys.length cy)) (hA : Rd D w 2 At.cs By ys) (hd : ∀ b, D b → b < w.heap.size) (hl : ys.length ≤ maxLen) :
    Calls Tryz.prog 46 #[a.val, .pointer (some ⟨yb, 0, none⟩)] w fun e w' => e = .returned (.bool (tyIn ys a)) ∧ Mod (fun _ => False) w w' := by
  have hlt := World.block_lt_of_cell? w _ hy
  have hw1 : Mod (fun _ => False) w (w.alloc a.box) := (Mod.refl _ w).alloc _
  have H := Lib.hid (acontains_any 47 #[.pointer (some ⟨w.heap.size, 0, none⟩)] (fun x => decide (a.T = x.T)) D By cy ys (fun _ => False) (w.alloc a.box) (w.alloc a.box) enters21
    (fun x _ X hX => tyeq_any a x w.heap.size X ((hX.cell (p := ⟨w.heap.size, 0, none⟩) (by simp) id).trans (hp_cell (hp_new w a.box) 0)))
    (Mod.refl _ _) (hA.mod hw1 (fun b hb => ⟨hd b hb, id⟩)) (fun b hb => Nat.lt_of_lt_of_le (hd b hb) hw1.size) hl)
  obtain ⟨z, hz⟩ : ∃ z, z = tyIn ys a := ⟨_, rfl⟩
  have hz2 : (ys.any fun x => decide (a.T = x.T)) = z := by rw [hz]; rfl
  obtain ⟨n, hn⟩ : ∃ n, n = ys.length := ⟨_, rfl⟩
  rw [hz2, ← hn] at H
  rw [← hz]
  rw [← hn] at hy
  unfold At.val
  unfold At.box at H
  clear hz hz2 hn hl hA hd hw1
  go_enter Tryz.func46, Tryz.ntmps46
  go_wp2_with (first
    | (go_at_call 43; refine H.out.mono ?_; rintro e w' ⟨rfl, hm⟩)
    | fail)
  go_ret
  exact ⟨rfl, ((Mod.refl _ w).alloc _).trans' hm⟩
end Go.Proofs.YtccnkcaagigceaaGreat
