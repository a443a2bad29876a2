/-
  The package utf: well made texts.
-/
import Derived.Test.YtccnkcaagigceaaGreatUtfB
namespace Go.Proofs.YtccnkcaagigceaaGreat
open Go.RowKit Go.Shelf
attribute [local go_sem] Oper.semAt_some

def whI (z : Nat) (xs : List (Nat × Nat)) (k : Nat) (C : Nat → Prop) (W : World) : Prop := W.heap[z]? = some (.cells #[.int .i64 ((endSo 0 (xs.take k) : Nat) : Int)] 3 (0, 0)) ∧ C = fun b => b = z
def noXU (_ : Code) (_ : Nat) (_ : Nat → Prop) (_ : World) : Prop := False
def whA (z : Nat) (xs : List (Nat × Nat)) (T enc : Array Value) (a' : Act) (k : Nat) (C : Nat → Prop) (W : World) : Prop :=
  ∃ p, xs[k]? = some p ∧ a' = { tmps := (((T.setIfInBounds 8 (.int .i64 (p.1 : Int))).setIfInBounds 9 (.int .i32 (p.2 : Int))).setIfInBounds 4 (.int .i64 (p.1 : Int))).setIfInBounds 5 (.int .i32 (p.2 : Int)), defers := [] } ∧ whI z xs k C W
set_option maxRecDepth 100000 in
set_option maxHeartbeats 1000000 in
theorem uwhere_any (l : Bs) (w : World) (hl : l.length ≤ 4294967000) : Calls Tryz.prog 75 #[.string ⟨l.toArray⟩] w fun e w' => e = .returned (.int .i64 (endU l)) ∧ Mod (fun _ => False) w w' := by
  obtain ⟨xs, hxs⟩ : ∃ xs, xs = stepsU l := ⟨_, rfl⟩
  obtain ⟨r, hr⟩ : ∃ r, r = endU l := ⟨_, rfl⟩
  have hxl : xs.length ≤ l.length := by rw [hxs]; exact stepsU_len l
  have HOk := Lib.hid (stepsU_ok l)
  have HE := Lib.hid (endSo_all l)
  rw [← hxs] at HOk HE
  rw [← hr] at HE ⊢
  have HX := Lib.hid hxs
  clear hxs hr
  refine callsIn_wide.1 (callsIn_of_wp_marks (n := 0) (F := Fence.wide) Tryz.func75 rfl trivial ?_ rfl)
  simp only [Tryz.ntmps75, List.size_toArray, List.length_cons, List.length_nil, Nat.reduceAdd, Nat.reduceSub, Array.replicate_succ, Array.replicate_zero, List.push_toArray, List.append_toArray, List.nil_append, List.cons_append]
  gi_wp2_with (first
    | ((refine ⟨trivial, rfl, ?_⟩; gi_at_call 89); refine ci (urunes_any l _) ?_; rintro e w1 ⟨rfl, rfl⟩)
    | fail)
  obtain ⟨W4, hW4⟩ : ∃ W4, W4 = (w.alloc (.cells #[.int .i64 0] 3)).alloc (.cells #[.string ⟨l.toArray⟩] 9) := ⟨_, rfl⟩
  have hsz : W4.heap.size = w.heap.size + 2 := by subst hW4; simp
  have hz4 : W4.heap[w.heap.size]? = some (.cells #[.int .i64 0] 3 (0, 0)) := by subst hW4; (repeat' (first | exact hp_new _ _ | exact hp_at _ _ (by simp; done) | refine hp_alloc ?_ _ | refine hp_drew ?_ | refine hp_drewN ?_ _ | apply hp_set | refine hp_far ?_ (by first | (simp; omega) | (simp; done)) _))
  have ht4 : W4.heap[w.heap.size + 1]? = some (.cells #[.string ⟨l.toArray⟩] 9 (0, 0)) := by subst hW4; (repeat' (first | exact hp_new _ _ | exact hp_at _ _ (by simp; done) | refine hp_alloc ?_ _ | refine hp_drew ?_ | refine hp_drewN ?_ _ | apply hp_set | refine hp_far ?_ (by first | (simp; omega) | (simp; done)) _))
  have hm4 : ∀ C, Mod C w W4 := fun C => by subst hW4; (repeat' (first | exact Mod.refl _ _ | assumption | refine Mod.alloc ?_ _ | refine Mod.drew ?_ | refine Mod.drewN ?_ _ | refine Mod.setCell ?_ (by first | exact Or.inl rfl | (right; simp; done) | (right; simp; omega) | (left; simp; done)) _))
  rw [← hW4]
  clear hW4
  have HM4 := Lib.hid hm4
  refine wp_rangeG (gf := 99) (lb := #[.pointer (some ⟨w.heap.size + 1, 0, none⟩)]) rfl (enters_of Tryz.func99 (by kernel_rfl) rfl) (encIt_ok (ar := 2) (fun x hx => by
      obtain ⟨p, _, rfl⟩ := List.mem_map.1 hx
      rfl))
    ((urunes1_iter (w.heap.size + 1) l (fun b => b = w.heap.size + 1) W4 hl (hp_cell ht4 0) rfl (fun b hb => by omega)).toG 2)
    (fun b hb => by rcases hb with rfl | h <;> first | omega | exact h.elim) rfl
    (whI w.heap.size xs) noXU (whA w.heap.size xs) (fun k C X Y ⟨h1, h2⟩ hA => ⟨hp_agree h1 hA (by rw [h2]), h2⟩) (fun c k C X Y h hA => h)
    (fun T enc a' k C X Y ⟨p, h0, h1, h2, h3⟩ hA => ⟨p, h0, h1, hp_agree h2 hA (by rw [h3]), h3⟩)
    (fun b => b = w.heap.size) (fun b hb => by subst hb; exact ⟨by omega, fun hd => by have hd : w.heap.size = w.heap.size + 1 := hd; omega, id⟩) ⟨hz4, rfl⟩ trivial ?assign ?body ?done (fun _ _ _ _ _ _ h => h.elim)
  case assign =>
    rintro l' k hk enc R C W' ⟨h1, rfl⟩ - he - hm' hb'
    have hk : k < (uEncs l).length := hk
    have hk2 : k < xs.length := by rw [HX.out]; simpa [uEncs] using hk
    have he : (uEncs l)[k]? = some enc := he
    obtain ⟨p, hp⟩ : ∃ p, p = xs[k] := ⟨_, rfl⟩
    have hen : enc = #[.int .i64 (p.1 : Int), .int .i32 (p.2 : Int)] := by
      rw [List.getElem?_eq_getElem hk] at he
      have he := (Option.some.inj he).symm
      rw [he, hp]
      simp [uEncs, HX.out]
    subst hen
    have HP := Lib.hid (show xs[k]? = some p by rw [hp]; exact List.getElem?_eq_getElem hk2)
    have H1 := Lib.hid h1
    clear h1 he hp
    gi_wp2
    exact ⟨fun b => b = w.heap.size, ⟨p, HP.out, rfl, H1.out, rfl⟩, Mod.refl _ _, fun b hb => ⟨(hb' b hb).1, .inl hb⟩⟩
  case body =>
    rintro l' k hk enc R C a' W' ⟨p, hp, rfl, h1, rfl⟩ - - - hm' hb' - - -
    have hkl : k < xs.length := (List.getElem?_eq_some_iff.1 hp).1
    have hpk : xs[k] = p := by rw [List.getElem?_eq_getElem hkl] at hp; exact Option.some.inj hp
    have hpo := HOk.out p (List.mem_of_getElem? hp)
    have hp1 : p.1 ≤ l.length := hpo.1
    obtain ⟨o, hoo⟩ : ∃ o, o = p.1 := ⟨_, rfl⟩
    obtain ⟨x, hxx⟩ : ∃ x, x = p.2 := ⟨_, rfl⟩
    rw [← hoo] at hp1
    rw [← hoo, ← hxx]
    obtain ⟨y, hy⟩ : ∃ y, y = sizeN x := ⟨_, rfl⟩
    have hyl : y ≤ 4 := by rw [hy]; unfold sizeN; split <;> (try split) <;> (try split) <;> (try split) <;> omega
    have HS := Lib.hid (fun X => usize_any x X)
    rw [← hy] at HS
    have HT := Lib.hid (show endSo 0 (xs.take (k + 1)) = o + y by rw [List.take_succ_eq_append_getElem hkl, endSo_snoc, hpk, hy, hoo, hxx])
    have c0 := hp_cell h1 0
    have f0 := hp_free h1 0
    have hlt := hp_lt h1
    have H1 := Lib.hid h1
    clear h1 hp hpk hpo hoo hxx hy
    gi_wp2_with (first
      | ((refine ⟨trivial, rfl, ?_⟩; gi_at_call 90); refine cir (HS.out _) ?_; rintro e w1 ⟨rfl, rfl⟩)
      | fail)
    exact ⟨fun b => b = w.heap.size, ⟨hp_eq (hp_set H1.out 0 _) (by rw [HT.out]; simp), rfl⟩, by (repeat' (first | exact Mod.refl _ _ | assumption | refine Mod.alloc ?_ _ | refine Mod.drew ?_ | refine Mod.drewN ?_ _ | refine Mod.setCell ?_ (by first | exact Or.inl rfl | (right; simp; done) | (right; simp; omega) | (left; simp; done)) _)), fun b hb => by subst hb; exact ⟨by simpa [World.setCell] using hlt, .inl rfl⟩⟩
  case done =>
    rintro W' C' ⟨h1, rfl⟩ _ hm' hb' hK hn'
    rw [hsz] at hK hn'
    have hn : (encIt 2 (uEncs l) fun b => b = w.heap.size + 1).n = xs.length := by simp [encIt, uEncs, HX.out]
    rw [hn, List.take_length, HE.out] at h1
    have c0 := hp_cell h1 0
    have HM' := Lib.hid hm'
    clear hm' hn
    gi_wp2
    refine endM1 rfl hK (results_tmp rfl _ _ _) ⟨rfl, ?_⟩
    refine Mod.putObj ((HM4.out (fun _ => False)).trans HM'.out (fun b hb => ?_)) (.inr (by omega)) _
    rcases hb with h | h
    · right; omega
    · exact h.elim
theorem uvalid_any (l : Bs) (w : World) (hl : l.length ≤ 4294967000) : Calls Tryz.prog 63 #[.string ⟨l.toArray⟩] w fun e w' => e = .returned (.bool (validU l)) ∧ Mod (fun _ => False) w w' := by
  obtain ⟨r, hr⟩ : ∃ r, r = endU l := ⟨_, rfl⟩
  have HW := Lib.hid (uwhere_any l w hl)
  rw [← hr] at HW
  by_cases he : r = l.length
  · have hv : validU l = true := by unfold validU; rw [← hr, he]; simp
    rw [hv]
    subst he
    clear hv hr
    go_enter Tryz.func63, Tryz.ntmps63
    go_wp2_with (go_at_call 75; refine HW.out.mono ?_; rintro e w1 ⟨rfl, hm⟩)
    go_ret
    exact ⟨rfl, hm⟩
  · have hv : validU l = false := by unfold validU; rw [← hr]; simp [he]
    rw [hv]
    have hb : ((r : Int) == (l.length : Int)) = false := by rw [beq_eq_false_iff_ne]; omega
    clear hv hr he
    go_enter Tryz.func63, Tryz.ntmps63
    go_wp2_with (go_at_call 75; refine HW.out.mono ?_; rintro e w1 ⟨rfl, hm⟩)
    go_ret
    exact ⟨rfl, hm⟩
end Go.Proofs.YtccnkcaagigceaaGreat
