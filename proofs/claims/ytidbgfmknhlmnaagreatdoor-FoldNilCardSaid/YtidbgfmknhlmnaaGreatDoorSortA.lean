/-
  The library's sort of numbers: rows as they are sorted; insertion.
-/
import Derived.Test.YtidbgfmknhlmnaaGreatDoorProg
import Derived.Test.YtidbgfmknhlmnaaGreatDoorOwn
import Derived.Test.YtidbgfmknhlmnaaGreatDoorSortP
import Derived.Test.YtidbgfmknhlmnaaGreatDoorQb
import Derived.IntWalk
namespace Go.Proofs.YtidbgfmknhlmnaaGreatDoor
open Go.RowKit Go.Shelf
attribute [local go_sem] Oper.semAt_some

def csK (n : Int) : List Value := [.int .i32 n]
theorem csK_len (n : Int) : (csK n).length = 1 := rfl
theorem csK_one (n : Int) : ∀ u ∈ csK n, u.oneCell' = true := by simp [csK, Value.oneCell']
/-- A row that is being sorted: an owned slice at its block's beginning. -/
structure DS (base g n c : Nat) (w : World) (xs : List Int) : Prop where
  own : OwnS base 21 1 csK w (.slice (some ⟨g, 0, none⟩) n c) xs
  len : n = xs.length
section
variable {base g n c : Nat} {w w' : World} {xs : List Int}
theorem DS.cell (h : DS base g n c w xs) {k : Nat} (hk : k < n) : w.cell? ⟨g, k, none⟩ = some (.int .i32 (at_ xs k)) := by
  have hk' : k < xs.length := by rw [← h.len]; exact hk
  have := h.own.cell csK_len (by rw [← h.len]) (k := k) hk' (j := 0) (u := .int .i32 (at_ xs k)) (by rw [at_lt hk']; rfl)
  simpa using this
theorem DS.blk (h : DS base g n c w xs) (hn : 0 < n) : base ≤ g ∧ g < w.heap.size ∧ ∀ i, w.frozen? ⟨g, i, none⟩ = false := by
  obtain ⟨g', c', hv, h1, h2, h3⟩ := h.own.at_ (by rw [← h.len]; exact hn)
  injection hv with e1 _ _
  injection e1 with e1
  injection e1 with e1
  subst e1
  exact ⟨h1, h2, h3⟩
theorem DS.mod (h : DS base g n c w xs) {C : Nat → Prop} (hm : Mod C w w') (hn : ¬ C g) : DS base g n c w' xs :=
  ⟨h.own.mod hm (fun b hb => by simp [Value.ownBlock] at hb; subst hb; exact hn), h.len⟩
theorem DS.set (h : DS base g n c w xs) {k : Nat} (hk : k < n) (v : Int) : DS base g n c (w.setCell ⟨g, k, none⟩ (.int .i32 v)) (xs.set k v) := by
  have := h.own.set1 csK_len (k := k) (j := 0) h.len hk (by decide) (u := .int .i32 v) (y := v) rfl
  refine ⟨by simpa using this, by rw [List.length_set]; exact h.len⟩
/-- Two places exchanged. -/
theorem DS.exch (h : DS base g n c w xs) {i j : Nat} (hi : i < n) (hj : j < n) : DS base g n c ((w.setCell ⟨g, i, none⟩ (.int .i32 (at_ xs j))).setCell ⟨g, j, none⟩ (.int .i32 (at_ xs i))) (swp xs i j) :=
  (h.set hi _).set hj _
theorem DS.drew (h : DS base g n c w xs) : DS base g n c w.drew xs := h.mod (C := fun _ => False) ((Mod.refl _ w).drew) id
theorem DS.exchd (h : DS base g n c w xs) {i j : Nat} (hi : i < n) (hj : j < n) {x y : Int} (hx : x = at_ xs i) (hy : y = at_ xs j) : DS base g n c ((w.setCell ⟨g, i, none⟩ (.int .i32 y)).setCell ⟨g, j, none⟩ (.int .i32 x)).drew (swp xs i j) := by
  subst hx hy
  exact (h.exch hi hj).drew
theorem Sws.exch {a b n i j : Nat} {xs ys : List Int} (h : Sws a b xs ys) (hl : n = ys.length) (h1 : a ≤ i) (h2 : i < b) (h3 : a ≤ j) (h4 : j < b) (hb : b ≤ n) : Sws a b xs (swp ys i j) :=
  .step h h1 h2 h3 h4 (by omega) (by omega)
theorem mod_swp (w : World) (g i j : Nat) (u v : Value) : Mod (fun x => x = g) w ((w.setCell ⟨g, i, none⟩ u).setCell ⟨g, j, none⟩ v) :=
  ((Mod.refl (fun x => x = g) w).setCell (p := ⟨g, i, none⟩) (.inl rfl) u).setCell (p := ⟨g, j, none⟩) (.inl rfl) v
end
theorem snan_any (x : Int) (w : World) : Calls Tryz.prog 108 #[.int .i32 x] w fun e w' => e = .returned (.bool false) ∧ w = w' := by
  have h1 : (x != x) = false := by simp
  go_enter Tryz.func108, Tryz.ntmps108
  go_wp2
  go_ret
  exact ⟨rfl, rfl⟩
set_option maxHeartbeats 1000000 in
theorem sless_any (x y : Int) (w : World) : Calls Tryz.prog 87 #[.int .i32 x, .int .i32 y] w fun e w' => e = .returned (.bool (decide (x < y))) ∧ w = w' := by
  obtain ⟨r, hr⟩ : ∃ r, decide (x < y) = r := ⟨_, rfl⟩
  rw [hr]
  go_enter Tryz.func87, Tryz.ntmps87
  go_wp2_with (go_at_call 108; refine (snan_any _ _).mono ?_; rintro e w' ⟨rfl, rfl⟩)
  go_ret
  exact ⟨rfl, rfl⟩
set_option maxRecDepth 100000 in
set_option maxHeartbeats 4000000 in
theorem sins_any (base g n c a b : Nat) (xs : List Int) (w : World) (h : DS base g n c w xs) (hab : a ≤ b) (hbn : b ≤ n) (hn : n ≤ 1099511627776) :
    Calls Tryz.prog 81 #[.slice (some ⟨g, 0, none⟩) n c, .int .i64 a, .int .i64 b] w fun e w' => e = .returned (.tuple #[]) ∧ ∃ ys, DS base g n c w' ys ∧ Sws a b xs ys ∧ SrtOn a b ys ∧ Mod (fun x => x = g) w w' := by
  have hw0 : IntKind.i64.wrap ((a : Int) + 1) = ((a + 1 : Nat) : Int) := by rw [show (a : Int) + 1 = ((a + 1 : Nat) : Int) by omega]; exact IntWalk.i64_in _ (by omega)
  have H := Lib.hid h
  clear h
  go_enter Tryz.func81, Tryz.ntmps81
  go_wp2
  go_loopw [6] (fun i wr => ∃ (k : Nat) (ys : List Int), a < k ∧ k ≤ n + 1 ∧ i = .int .i64 k ∧ DS base g n c wr ys ∧ Sws a b xs ys ∧ SrtOn a k ys ∧ Mod (fun x => x = g) w wr) (fun i _ => n + 1 - (intOf i).toNat)
  case atStart => exact ⟨a + 1, xs, by omega, by omega, rfl, H.out, .refl, .small _ (by omega), Mod.refl _ _⟩
  case round =>
    obtain ⟨k, ys, hak, hkn, rfl, hd, hs, hso, hm⟩ := hrel
    have HD := Lib.hid hd
    have HS := Lib.hid hs
    have HSo := Lib.hid hso
    have HM := Lib.hid hm
    clear hd hs hso hm
    by_cases hkb : k < b
    · have hw1 : IntKind.i64.wrap ((k : Int) + 1) = ((k + 1 : Nat) : Int) := by rw [show (k : Int) + 1 = ((k + 1 : Nat) : Int) by omega]; exact IntWalk.i64_in _ (by omega)
      go_wp2
      go_loopw [7] (fun j ws => ∃ (q : Nat) (zs : List Int), j = .int .i64 q ∧ InsAt a k q zs ∧ DS base g n c ws zs ∧ Sws a b xs zs ∧ Mod (fun x => x = g) w ws) (fun j _ => (intOf j).toNat)
      case atStart => exact ⟨k, ys, rfl, .start HSo.out (by omega), HD.out, HS.out, HM.out⟩
      case round =>
        obtain ⟨q, zs, rfl, hin, hd, hs, hm⟩ := hrel
        have hqk := hin.hi
        by_cases haq : a < q
        · obtain ⟨p, hp⟩ : ∃ p, q = p + 1 := ⟨q - 1, by omega⟩
          have c1 := cell_regrown (hd.cell (k := q) (by omega))
          have c0 := cell_regrown (hd.cell (k := p) (by omega))
          obtain ⟨x, hx⟩ : ∃ x, x = at_ zs q := ⟨_, rfl⟩
          obtain ⟨y, hy⟩ : ∃ y, y = at_ zs p := ⟨_, rfl⟩
          rw [← hx] at c1
          rw [← hy] at c0
          have HX := Lib.hid (And.intro hx hy)
          have HI := Lib.hid hin
          have HD1 := Lib.hid hd
          have HS1 := Lib.hid hs
          have HM1 := Lib.hid hm
          clear hx hy hin hd hs hm
          have hg : decide (a < q) = true := by simpa using haq
          have hpn : p < n := by omega
          have hqn : q < n := by omega
          have hw2 : IntKind.i64.wrap ((q : Int) - 1) = (p : Int) := by rw [show (q : Int) - 1 = (p : Int) by omega]; exact IntWalk.i64_in _ (by omega)
          have hne : ¬ p = q := by omega
          have hne' : ¬ q = p := by omega
          have HP := Lib.hid hp
          clear hp
          go_wp2
          have HLs := Lib.hid (fun X => sless_any x y X)
          obtain ⟨r, hr⟩ : ∃ r, decide (x < y) = r := ⟨_, rfl⟩
          rw [hr] at HLs
          have HR := Lib.hid hr
          clear hr
          refine wp_region_quiet_below (by kernel_rfl) (by kernel_rfl) ?_
          repeat (go_big_quiet_step ((first | (go_at_call 87; exact regE fun X _ => HLs.out X) | fail)))
          refine wpQuiet_nil ?_
          intro W1 hW1
          have HQ := mod_of_regrown hW1
          clear hW1
          clear c1 c0
          have hd2 := HD1.out.mod HQ id
          have HD2 := Lib.hid hd2
          have HM2 := Lib.hid (HM1.out.trans HQ (fun _ h => h.elim))
          have c1 := hd2.cell (k := q) hqn
          have c0 := hd2.cell (k := p) hpn
          rw [← HX.out.1] at c1
          rw [← HX.out.2] at c0
          have fz := (hd2.blk (by omega)).2.2
          have f1 := fz q
          have f0 := fz p
          clear hd2 HQ fz
          cases r
          · go_wp2
            refine ⟨⟨k + 1, zs, by omega, by omega, by go_num, HD2.out, HS1.out, HI.out.done (.inr ?_), HM2.out⟩, by simp only [intOf]; omega⟩
            have hpx := HP.out
            have := of_decide_eq_false HR.out
            rw [HX.out.1, HX.out.2] at this
            rw [show q - 1 = p by omega]
            omega
          · go_wp2
            go_region
            go_wp2
            have hlt : at_ zs q < at_ zs p := by rw [← HX.out.1, ← HX.out.2]; exact of_decide_eq_true HR.out
            have hpx := HP.out
            have hst := HI.out.step haq (by rw [show q - 1 = p by omega]; exact hlt) (by rw [← HD2.out.len]; omega)
            rw [show q - 1 = p by omega] at hst
            exact ⟨⟨p, swp zs q p, rfl, hst, HD2.out.exchd hqn hpn HX.out.1 HX.out.2, HS1.out.exch HD2.out.len (by omega) (by omega) (by omega) (by omega) hbn, (HM2.out.trans' (mod_swp _ _ _ _ _ _)).drew⟩, by simp only [intOf]; omega⟩
        · obtain rfl : q = a := by have := hin.lo; omega
          have HI := Lib.hid hin
          have HD1 := Lib.hid hd
          have HS1 := Lib.hid hs
          have HM1 := Lib.hid hm
          clear hin hd hs hm
          have hg : decide (q < q) = false := by simp
          go_wp2
          refine wp_region_quiet_below (by kernel_rfl) (by kernel_rfl) ?_
          repeat (go_big_quiet_step ((first | fail | fail)))
          refine wpQuiet_nil ?_
          intro W1 hW1
          have HQ := mod_of_regrown hW1
          clear hW1
          have HQ' := Lib.hid HQ
          clear HQ
          go_wp2
          exact ⟨⟨k + 1, zs, by omega, by omega, by go_num, HD1.out.mod HQ'.out id, HS1.out, HI.out.done (.inl rfl), HM1.out.trans HQ'.out (fun _ h => h.elim)⟩, by simp only [intOf]; omega⟩
    · go_wp2
      exact bodyPost_end (v := .tuple #[]) (by simp [results, Tryz.results81, go_sem]) rfl ⟨rfl, ys, HD.out, HS.out, fun i j h1 h2 h3 => HSo.out i j h1 h2 (by omega), HM.out⟩
end Go.Proofs.YtidbgfmknhlmnaaGreatDoor
