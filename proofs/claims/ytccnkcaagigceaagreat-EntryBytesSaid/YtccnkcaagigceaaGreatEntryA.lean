/-
  The package entry: names, types, attributes; how two stand.
-/
import Derived.Test.YtccnkcaagigceaaGreatUtfF
import Derived.Test.YtccnkcaagigceaaGreatEntryP
import Derived.Test.YtccnkcaagigceaaGreatEnShelf
namespace Go.Proofs.YtccnkcaagigceaaGreat
open Go.RowKit Go.Shelf
attribute [local go_sem] Oper.semAt_some

theorem ats_t : SliceT Tryz.prog 22 52 2 32 := SliceT.mk' (z := .agg #[.string ⟨#[]⟩, .string ⟨#[]⟩]) Tryz.underlying22 (by kernel_rfl) rfl (by decide)
def At.box (a : At) : Obj := .cells #[.string ⟨a.T.toArray⟩, .string ⟨a.V.toArray⟩] 52 (0, 0)
theorem scmp_any (a b : Bs) (w : World) : Calls Tryz.prog 70 #[.string ⟨a.toArray⟩, .string ⟨b.toArray⟩] w fun e w' => e = .returned (.int .i64 (cmpB a b)) ∧ w = w' :=
  (Any.strings_Compare Tryz.lays106 ⟨a.toArray⟩ ⟨b.toArray⟩ w).mono fun _ _ ⟨h1, h2⟩ => ⟨h1, h2.symm⟩
theorem cor_any (g : Nat) (x y : Int) (w : World) (h0 : w.cell? ⟨g, 0, none⟩ = some (.int .i64 x)) (h1 : w.cell? ⟨g, 1, none⟩ = some (.int .i64 y)) :
    Calls Tryz.prog 69 #[.slice (some ⟨g, 0, none⟩) 2 2] w fun e w' => e = .returned (.int .i64 (if x = 0 then y else x)) ∧ w = w' := by
  by_cases hx : x = 0
  · subst hx
    rw [if_pos rfl]
    by_cases hy : y = 0
    · subst hy
      go_enter Tryz.func69, Tryz.ntmps69
      go_wp2
      go_loop [5, 8] (fun _ i => ∃ k : Nat, k ≤ 2 ∧ i = .int .i64 k) (fun _ i => 2 - (intOf i).toNat)
      case atStart => exact ⟨0, by omega, rfl⟩
      case round =>
        obtain ⟨k, hk, rfl⟩ := hrel
        rcases (show k = 0 ∨ k = 1 ∨ k = 2 by omega) with rfl | rfl | rfl
        · go_wp2
          exact ⟨⟨1, by omega, rfl⟩, by simp [intOf]⟩
        · go_wp2
          exact ⟨⟨2, by omega, rfl⟩, by simp [intOf]⟩
        · go_wp2
          go_ret
          exact ⟨rfl, rfl⟩
    · have hy1 : (y != 0) = true := by simpa using hy
      go_enter Tryz.func69, Tryz.ntmps69
      go_wp2
      go_loop [5, 8] (fun _ i => ∃ k : Nat, k ≤ 1 ∧ i = .int .i64 k) (fun _ i => 2 - (intOf i).toNat)
      case atStart => exact ⟨0, by omega, rfl⟩
      case round =>
        obtain ⟨k, hk, rfl⟩ := hrel
        rcases (show k = 0 ∨ k = 1 by omega) with rfl | rfl
        · go_wp2
          exact ⟨⟨1, by omega, rfl⟩, by simp [intOf]⟩
        · go_wp2
          go_ret
          exact ⟨rfl, rfl⟩
  · rw [if_neg hx]
    have hx1 : (x != 0) = true := by simpa using hx
    go_enter Tryz.func69, Tryz.ntmps69
    go_wp2
    go_loop [5, 8] (fun _ i => i = .int .i64 0) (fun _ i => 2 - (intOf i).toNat)
    case atStart => rfl
    case round =>
      subst hrel
      go_wp2
      go_ret
      exact ⟨rfl, rfl⟩
set_option maxHeartbeats 1000000 in
theorem ecompare_any (a b : At) (w : World) : Calls Tryz.prog 57 #[a.val, b.val] w fun e w' => e = .returned (.int .i64 (cmpA a b)) ∧ (((w.alloc a.box).alloc b.box).alloc (.cells #[.int .i64 (cmpB a.T b.T), .int .i64 (cmpB a.V b.V)] 3 (0, 0))).drew = w' := by
  obtain ⟨z, hz⟩ : ∃ z, z = cmpA a b := ⟨_, rfl⟩
  rw [← hz]
  have HZ := Lib.hid hz
  obtain ⟨x, hx⟩ : ∃ x, x = cmpB a.T b.T := ⟨_, rfl⟩
  obtain ⟨y, hy⟩ : ∃ y, y = cmpB a.V b.V := ⟨_, rfl⟩
  have HC1 := Lib.hid (fun X => scmp_any a.T b.T X)
  have HC2 := Lib.hid (fun X => scmp_any a.V b.V X)
  rw [← hx] at HC1 ⊢
  rw [← hy] at HC2 ⊢
  have HOr := Lib.hid (fun X h0 h1 => cor_any ((w.alloc a.box).alloc b.box).heap.size x y X h0 h1)
  have hzz : (if x = 0 then y else x) = z := by rw [hx, hy, hz]; rfl
  rw [hzz] at HOr
  obtain ⟨aT, aV⟩ := a
  obtain ⟨bT, bV⟩ := b
  unfold At.val At.box
  simp only at HC1 HC2 ⊢
  clear hz hx hy hzz
  obtain ⟨W, hW⟩ : ∃ W, W = (w.alloc (.cells #[.string ⟨aT.toArray⟩, .string ⟨aV.toArray⟩] 52 (0, 0))).alloc (.cells #[.string ⟨bT.toArray⟩, .string ⟨bV.toArray⟩] 52 (0, 0)) := ⟨_, rfl⟩
  unfold At.box at HOr
  simp only at HOr
  rw [← hW] at HOr ⊢
  have q0 : W.heap[w.heap.size]? = some (.cells #[.string ⟨aT.toArray⟩, .string ⟨aV.toArray⟩] 52 (0, 0)) := by subst hW; (repeat' (first | exact hp_new _ _ | exact hp_at _ _ (by simp; done) | refine hp_alloc ?_ _ | refine hp_drew ?_ | refine hp_drewN ?_ _ | apply hp_set | refine hp_far ?_ (by first | (simp; omega) | (simp; done)) _))
  have q1 : W.heap[w.heap.size + 1]? = some (.cells #[.string ⟨bT.toArray⟩, .string ⟨bV.toArray⟩] 52 (0, 0)) := by subst hW; (repeat' (first | exact hp_new _ _ | exact hp_at _ _ (by simp; done) | refine hp_alloc ?_ _ | refine hp_drew ?_ | refine hp_drewN ?_ _ | apply hp_set | refine hp_far ?_ (by first | (simp; omega) | (simp; done)) _))
  have HW := Lib.hid hW
  clear hW
  go_enter Tryz.func57, Tryz.ntmps57
  go_wp2
  rw [← HW.out]
  have a0 := hp_cell q0 0
  have a1 := hp_cell q0 1
  have b0 := hp_cell q1 0
  have b1 := hp_cell q1 1
  have l0 := hp_lt q0
  have l1 := hp_lt q1
  clear q0 q1
  go_region_held3 (fun X => X.cell? ⟨w.heap.size, 0, none⟩ = some (.string ⟨aT.toArray⟩) ∧ X.cell? ⟨w.heap.size, 1, none⟩ = some (.string ⟨aV.toArray⟩) ∧ X.cell? ⟨w.heap.size + 1, 0, none⟩ = some (.string ⟨bT.toArray⟩) ∧ X.cell? ⟨w.heap.size + 1, 1, none⟩ = some (.string ⟨bV.toArray⟩)) (first | exact ⟨a0, a1, b0, b1⟩ | exact ⟨(World.cell?_alloc_lt _ _ _ l0).trans a0, (World.cell?_alloc_lt _ _ _ l0).trans a1, (World.cell?_alloc_lt _ _ _ l1).trans b0, (World.cell?_alloc_lt _ _ _ l1).trans b1⟩ | fail) (first
    | (go_at_call 70; (with_reducible refine (HC1.out _).mono ?_); rintro e w' ⟨rfl, rfl⟩)
    | (go_at_call 70; (with_reducible refine (HC2.out _).mono ?_); rintro e w' ⟨rfl, rfl⟩)
    | (go_at_call 69; (refine (HOr.out _ (by first | exact hp_cell (hp_new _ _) 0 | exact hp_cell (hp_drew (hp_new _ _)) 0) (by first | exact hp_cell (hp_new _ _) 1 | exact hp_cell (hp_drew (hp_new _ _)) 1)).mono ?_); rintro e w' ⟨rfl, rfl⟩)
    | fail)
  all_goals
    go_wp2
    go_ret
    exact ⟨rfl, rfl⟩
end Go.Proofs.YtccnkcaagigceaaGreat
