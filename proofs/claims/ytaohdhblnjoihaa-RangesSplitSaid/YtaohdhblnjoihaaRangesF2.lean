/-
  Maps that are not there.
-/
import Derived.Test.YtaohdhblnjoihaaRangesH
namespace Go.Proofs.Ytaohdhblnjoihaa
open Go.RowKit Go.Shelf
attribute [local go_sem] Oper.semAt_some

/-- A map that isn't there. -/
def NotThere (w : World) (p : Option Addr) : Prop := p = none ∨ ∃ b t, p = some ⟨b, 0, none⟩ ∧ w.heap[b]? = some (.cells #[t, .bool false] 48 (0, 0))
theorem NotThere.mod {w w' : World} {p : Option Addr} (h : NotThere w p) (hm : Mod (fun _ => False) w w') : NotThere w' p := by
  rcases h with h | ⟨b, t, h1, h2⟩
  · exact .inl h
  · exact .inr ⟨b, t, h1, hp_mod h2 hm id⟩
theorem there_not (p : Option Addr) (w : World) (hp : NotThere w p) : Calls Try.prog 25 #[.pointer p] w fun e w' => e = .returned (.bool false) ∧ w = w' := by
  rcases hp with rfl | ⟨b, t, rfl, hb⟩
  · exact there_none w
  · exact there_some b t false w hb
theorem get_not (p : Option Addr) (r : Int) (w : World) (hp : NotThere w p) : Calls Try.prog 15 #[.pointer p, .int .i32 r] w fun e w' => e = .returned (.tuple #[.int .i64 0, .bool false]) ∧ w = w' := by
  have HT := Lib.hid (there_not p w hp)
  clear hp
  go_enter Try.func15, Try.ntmps15
  go_wp2
  go_step3
  go_wp2_with (first
    | (go_at_call 25; refine HT.out.mono ?_; rintro e w' ⟨rfl, rfl⟩)
    | fail)
  try rw [Exit.noGoto_ret]
  go_ret2
  exact ⟨rfl, rfl⟩
theorem len_not (p : Option Addr) (w : World) (hp : NotThere w p) : Calls Try.prog 17 #[.pointer p] w fun e w' => e = .returned (.int .i64 0) ∧ w = w' := by
  have HT := Lib.hid (there_not p w hp)
  clear hp
  go_enter Try.func17, Try.ntmps17
  go_wp2_with (first
    | (go_at_call 25; refine HT.out.mono ?_; rintro e w' ⟨rfl, rfl⟩)
    | fail)
  go_ret
  exact ⟨rfl, rfl⟩
theorem with_not (p : Option Addr) (x : Rg) (w : World) (hp : NotThere w p) : Calls Try.prog 9 #[.pointer p, x.val] w fun e w' => e = .returned (.tuple #[.pointer none, .int .i64 1]) ∧ Mod (fun _ => False) w w' := by
  have HT := Lib.hid (fun X (hX : Mod (fun _ => False) w X) => there_not p X (hp.mod hX))
  clear hp
  unfold Rg.val
  go_enter Try.func9, Try.ntmps9
  go_wp2_with (first
    | (go_at_call 25; refine (HT.out _ (by (repeat' (first | exact Mod.refl _ _ | assumption | refine Mod.alloc ?_ _ | refine Mod.drew ?_ | refine Mod.drewN ?_ _ | refine Mod.setCell ?_ (by first | exact Or.inl rfl | (right; simp; done) | (right; simp; omega) | (left; simp; done)) _)))).mono ?_; rintro e w' ⟨rfl, rfl⟩)
    | fail)
  go_ret2
  exact ⟨rfl, by (repeat' (first | exact Mod.refl _ _ | assumption | refine Mod.alloc ?_ _ | refine Mod.drew ?_ | refine Mod.drewN ?_ _ | refine Mod.setCell ?_ (by first | exact Or.inl rfl | (right; simp; done) | (right; simp; omega) | (left; simp; done)) _))⟩

def ntI (z : Nat) (v : Value) (t : Nat) (k : Nat) (C : Nat → Prop) (W : World) : Prop := W.heap[z]? = some (.cells #[v] t (0, 0)) ∧ C = fun b => b = z
def noA (_ : Act) (_ : Nat) (_ : Nat → Prop) (_ : World) : Prop := False
set_option maxRecDepth 100000 in
set_option maxHeartbeats 1000000 in
theorem many_not (p : Option Addr) (w : World) (hp : NotThere w p) : Calls Try.prog 13 #[.pointer p] w fun e w' => e = .returned (.int .i64 0) ∧ Mod (fun _ => False) w w' := by
  have HB := Lib.hid (fun X (hX : Mod (fun _ => False) w X) => all_not p X (hp.mod hX))
  clear hp
  refine callsIn_wide.1 (callsIn_of_wp_marks (n := 0) (F := Fence.wide) Try.func13 rfl trivial ?_ rfl)
  simp only [Try.ntmps13, List.size_toArray, List.length_cons, List.length_nil, Nat.reduceAdd, Nat.reduceSub, Array.replicate_succ, Array.replicate_zero, List.push_toArray, List.append_toArray, List.nil_append, List.cons_append]
  gi_wp2_with (first
    | ((refine ⟨trivial, rfl, ?_⟩; gi_at_call 14); refine ci (HB.out _ (by (repeat' (first | exact Mod.refl _ _ | assumption | refine Mod.alloc ?_ _ | refine Mod.drew ?_ | refine Mod.drewN ?_ _ | refine Mod.setCell ?_ (by first | exact Or.inl rfl | (right; simp; done) | (right; simp; omega) | (left; simp; done)) _)))) ?_; rintro e w' ⟨rfl, rfl⟩)
    | fail)
  obtain ⟨W4, hW4⟩ : ∃ W4, W4 = (w.alloc (.cells #[.int .i64 0] 3)).alloc (.cells #[.slice none 0 0] 22) := ⟨_, rfl⟩
  have hsz : W4.heap.size = w.heap.size + 2 := by subst hW4; simp
  have hz4 : W4.heap[w.heap.size]? = some (.cells #[.int .i64 0] 3 (0, 0)) := by subst hW4; (repeat' (first | exact hp_new _ _ | exact hp_at _ _ (by simp; done) | refine hp_alloc ?_ _ | refine hp_drew ?_ | refine hp_drewN ?_ _ | apply hp_set | refine hp_far ?_ (by first | (simp; omega) | (simp; done)) _))
  have hv4 : W4.heap[w.heap.size + 1]? = some (.cells #[.slice none 0 0] 22 (0, 0)) := by subst hW4; (repeat' (first | exact hp_new _ _ | exact hp_at _ _ (by simp; done) | refine hp_alloc ?_ _ | refine hp_drew ?_ | refine hp_drewN ?_ _ | apply hp_set | refine hp_far ?_ (by first | (simp; omega) | (simp; done)) _))
  have hm4 : Mod (fun _ => False) w W4 := by subst hW4; (repeat' (first | exact Mod.refl _ _ | assumption | refine Mod.alloc ?_ _ | refine Mod.drew ?_ | refine Mod.drewN ?_ _ | refine Mod.setCell ?_ (by first | exact Or.inl rfl | (right; simp; done) | (right; simp; omega) | (left; simp; done)) _))
  rw [← hW4]
  clear hW4
  have HSZ := Lib.hid hsz
  refine wp_range (gf := 31) (lb := #[.pointer (some ⟨w.heap.size + 1, 0, none⟩)]) rfl enters_vals1
    (rvalues1_iter (w.heap.size + 1) none 0 [] (fun b => b = w.heap.size + 1) W4 (by simp [maxLen]) (by rw [hp_cell hv4 0]; rfl) rfl (fun b hb => by omega) (Rd.nil _ _ _ _ _))
    (fun b hb => by omega)
    (fun x hx => by cases hx) (ntI w.heap.size (.int .i64 0) 3) noX noA
    (by
      rintro k C X Y ⟨h1, rfl⟩ hA
      exact ⟨hp_agree h1 hA rfl, rfl⟩)
    (fun c k C X Y h hA => h)
    (fun a' k C X Y h hA => h)
    (fun b => b = w.heap.size) (fun b hb => by subst hb; exact ⟨by omega, fun hd => by omega⟩)
    ⟨hz4, rfl⟩ ?assign ?body ?done ?stop
  case assign => intro l' k hk; exact absurd hk (by simp)
  case body => intro l' k hk; exact absurd hk (by simp)
  case done =>
    rintro W' C' ⟨h1, rfl⟩ hm' hb' hK hn'
    rw [HSZ.out] at hK hn' ⊢
    have cz := hp_cell h1 0
    have HM := Lib.hid (hm4.trans (C := fun _ => False) hm' (fun b hb => by subst hb; right; omega))
    clear h1 hm' hsz hz4 hv4
    gi_wp2
    exact endM1 rfl hK (results_tmp rfl _ _ _) ⟨rfl, HM.out.putObj (.inr (by omega)) _⟩
  case stop =>
    rintro W' C' c k hk0 hk hjx hm' hb' hK hn'
    exact hjx.elim

def nuI (z : Nat) (_ : Nat) (C : Nat → Prop) (W : World) : Prop :=
  W.heap[z + 1 + 1]? = some (.cells #[.bool false] 4 (0, 0)) ∧ W.heap[z + 1 + 1 + 1 + 1]? = some (.cells #[.int .i64 0] 3 (0, 0)) ∧ C = fun b => b = z + 1 + 1 ∨ b = z + 1 + 1 + 1 + 1
set_option maxRecDepth 100000 in
set_option maxHeartbeats 2000000 in
theorem once_not (p B : Option Addr) (d : Nat) (most : Int) (w : World) (hp : NotThere w p) : Calls Try.prog 12 #[.pointer p, .slice B 0 d, .int .i64 most] w fun e w' => e = .returned (.bool true) ∧ Mod (fun _ => False) w w' := by
  have HAl := Lib.hid (fun X (hX : Mod (fun _ => False) w X) => all_not p X (hp.mod hX))
  have hnl := fun W' m => run_eql_func_nil (P := Try.prog) W' Try.underlying38 (.func 31) #[] #[.pointer (some ⟨m, 0, none⟩)]
  clear hp
  refine callsIn_wide.1 (callsIn_of_wp_marks (n := 0) (F := Fence.wide) Try.func12 rfl trivial ?_ rfl)
  simp only [Try.ntmps12, List.size_toArray, List.length_cons, List.length_nil, Nat.reduceAdd, Nat.reduceSub, Array.replicate_succ, Array.replicate_zero, List.push_toArray, List.append_toArray, List.nil_append, List.cons_append]
  gi_wp2_with (first
    | ((refine ⟨trivial, rfl, ?_⟩; gi_at_call 14); refine ci (HAl.out _ (by (repeat' (first | exact Mod.refl _ _ | assumption | refine Mod.alloc ?_ _ | refine Mod.drew ?_ | refine Mod.drewN ?_ _ | refine Mod.setCell ?_ (by first | exact Or.inl rfl | (right; simp; done) | (right; simp; omega) | (left; simp; done)) _)))) ?_; rintro e w' ⟨rfl, rfl⟩)
    | fail)
  obtain ⟨W4, hW4⟩ : ∃ W4, W4 = ((((w.alloc (.cells #[.slice B 0 d] 22)).alloc (.cells #[.int .i64 most] 3)).alloc (.cells #[.bool false] 4)).alloc (.cells #[.slice none 0 0] 22)).alloc (.cells #[.int .i64 0] 3) := ⟨_, rfl⟩
  have hsz : W4.heap.size = w.heap.size + 1 + 1 + 1 + 1 + 1 := by subst hW4; simp
  have hz0 : W4.heap[w.heap.size]? = some (.cells #[.slice B 0 d] 22 (0, 0)) := by subst hW4; (repeat' (first | exact hp_new _ _ | exact hp_at _ _ (by simp; done) | refine hp_alloc ?_ _ | refine hp_drew ?_ | refine hp_drewN ?_ _ | apply hp_set | refine hp_far ?_ (by first | (simp; omega) | (simp; done)) _))
  have hz2 : W4.heap[w.heap.size + 1 + 1]? = some (.cells #[.bool false] 4 (0, 0)) := by subst hW4; (repeat' (first | exact hp_new _ _ | exact hp_at _ _ (by simp; done) | refine hp_alloc ?_ _ | refine hp_drew ?_ | refine hp_drewN ?_ _ | apply hp_set | refine hp_far ?_ (by first | (simp; omega) | (simp; done)) _))
  have hz3 : W4.heap[w.heap.size + 1 + 1 + 1]? = some (.cells #[.slice none 0 0] 22 (0, 0)) := by subst hW4; (repeat' (first | exact hp_new _ _ | exact hp_at _ _ (by simp; done) | refine hp_alloc ?_ _ | refine hp_drew ?_ | refine hp_drewN ?_ _ | apply hp_set | refine hp_far ?_ (by first | (simp; omega) | (simp; done)) _))
  have hz4 : W4.heap[w.heap.size + 1 + 1 + 1 + 1]? = some (.cells #[.int .i64 0] 3 (0, 0)) := by subst hW4; (repeat' (first | exact hp_new _ _ | exact hp_at _ _ (by simp; done) | refine hp_alloc ?_ _ | refine hp_drew ?_ | refine hp_drewN ?_ _ | apply hp_set | refine hp_far ?_ (by first | (simp; omega) | (simp; done)) _))
  have hm4 : Mod (fun _ => False) w W4 := by subst hW4; (repeat' (first | exact Mod.refl _ _ | assumption | refine Mod.alloc ?_ _ | refine Mod.drew ?_ | refine Mod.drewN ?_ _ | refine Mod.setCell ?_ (by first | exact Or.inl rfl | (right; simp; done) | (right; simp; omega) | (left; simp; done)) _))
  rw [← hW4]
  clear hW4
  have HSZ := Lib.hid hsz
  have HZ0 := Lib.hid hz0
  refine wp_range (gf := 31) (lb := #[.pointer (some ⟨w.heap.size + 1 + 1 + 1, 0, none⟩)]) rfl enters_vals1
    (rvalues1_iter (w.heap.size + 1 + 1 + 1) none 0 [] (fun b => b = w.heap.size + 1 + 1 + 1) W4 (by simp [maxLen]) (by rw [hp_cell hz3 0]; rfl) rfl (fun b hb => by omega) (Rd.nil _ _ _ _ _))
    (fun b hb => by omega)
    (fun x hx => by cases hx) (nuI w.heap.size) noX noA
    (by
      rintro k C X Y ⟨h1, h2, rfl⟩ hA
      exact ⟨hp_agree h1 hA (.inl rfl), hp_agree h2 hA (.inr rfl), rfl⟩)
    (fun c k C X Y h hA => h)
    (fun a' k C X Y h hA => h)
    (fun b => b = w.heap.size + 1 + 1 ∨ b = w.heap.size + 1 + 1 + 1 + 1) (fun b hb => ⟨by rcases hb with rfl | rfl <;> omega, fun hd => by rcases hb with rfl | rfl <;> omega⟩)
    ⟨hz2, hz4, rfl⟩ ?assign ?body ?done ?stop
  case assign => intro l' k hk; exact absurd hk (by simp)
  case body => intro l' k hk; exact absurd hk (by simp)
  case done =>
    rintro W' C' ⟨h1, h2, rfl⟩ hm' hb' hK hn'
    rw [HSZ.out] at hK hn' ⊢
    have cI := hp_cell h2 0
    have cR := hp_cell h1 0
    have fR := hp_free h1 0
    have hz0' := hp_mod HZ0.out hm' (by omega)
    have cW := hp_cell hz0' 0
    have H1 := Lib.hid h1
    have HM := Lib.hid (hm4.trans (C := fun _ => False) hm' (fun b hb => by rcases hb with rfl | rfl <;> (right; omega)))
    clear h1 h2 hm' hsz hz0 hz2 hz3 hz4 hnl hz0'
    gi_wp2
    refine endM1 (v := .bool true) rfl (hp_far hK (by simp; omega) _) ?_ ⟨rfl, ?_⟩
    · have hr := hp_cell ((World.putObj_heap_other (o := .deferred none) (r := w.heap.size + 1 + 1 + 1 + 1 + 1) (show w.heap.size + 1 + 1 ≠ _ by omega)).trans (hp_set H1.out 0 (.bool true))) 0
      simp [results, Try.results12, go_sem] at hr ⊢
      rw [hr]
    · exact (Mod.setCell (p := ⟨w.heap.size + 1 + 1, 0, none⟩) HM.out (.inr (by show w.heap.size ≤ w.heap.size + 1 + 1; omega)) _).putObj (.inr (by omega)) _
  case stop =>
    rintro W' C' c k hk0 hk hjx hm' hb' hK hn'
    exact hjx.elim

set_option maxRecDepth 100000 in
set_option maxHeartbeats 4000000 in
theorem nil_any (w : World) : Calls Try.prog 6 #[] w fun e w' => e = .returned (.bool true) ∧ Mod (fun _ => False) w w' := by
  obtain ⟨l0, hl0⟩ : ∃ l0 : List Rg, l0 = [⟨2147483647, 2147483647, 7⟩, ⟨0, 2147483646, 7⟩] := ⟨_, rfl⟩
  obtain ⟨ms, hms⟩ : ∃ ms : List Rg, ms = [⟨0, 2147483647, 7⟩] := ⟨_, rfl⟩
  have HE := Lib.hid (show errR l0 = 0 by rw [hl0]; decide)
  have HMs := Lib.hid (show mapR l0 = ms by rw [hl0, hms]; decide)
  have hcan : Canon ms := by rw [← HMs.out]; exact (mapR_facts HE.out).1
  have hfit : ∀ x ∈ l0, FitR x := by rw [hl0]; simp [FitR]
  have hof := fun (X : World) A c (hR : Rd (fun b => b < X.heap.size) X 3 Rg.cs A l0) => of_ok A c l0 X hR (by rw [hl0]; simp) hfit HE.out
  have hg1 := fun b X hM => get_map b ms 2147483647 X hM (by rw [hms]; simp) hcan
  have hg2 := fun b X hM => get_map b ms (-1) X hM (by rw [hms]; simp) hcan
  have e1 : (val ms 2147483647).getD 0 = 7 := by rw [hms]; decide
  have e2 : (val ms 2147483647).isSome = true := by rw [hms]; decide
  have e3 : (val ms (-1)).getD 0 = 0 := by rw [hms]; decide
  have e4 : (val ms (-1)).isSome = false := by rw [hms]; decide
  have hll : l0.length = 2 := by rw [hl0]; rfl
  have hml : ms.length = 1 := by rw [hms]; rfl
  have hlen := fun b X hM => len_map b ms X hM
  rw [e1, e2] at hg1
  rw [e3, e4] at hg2
  rw [HMs.out, hll] at hof
  rw [hml] at hlen
  have hcs : (#[.int .i32 2147483647, .int .i32 2147483647, .int .i64 7, .int .i32 0, .int .i32 2147483646, .int .i64 7] : Array Value).toList = l0.flatMap Rg.cs := by rw [hl0]; rfl
  have HCs := Lib.hid hcs
  have HOf := Lib.hid hof
  have HG1 := Lib.hid hg1
  have HG2 := Lib.hid hg2
  have HLen := Lib.hid hlen
  clear hof hg1 hg2 hlen e1 e2 e3 e4 hll hml hcan hfit hl0 hms hcs
  have HN0 : ∀ X, NotThere X none := fun _ => .inl rfl
  go_enter Try.func6, Try.ntmps6
  go_wp2_with (first
    | (go_at_call_of 15 (Value.pointer none); refine (get_not _ _ _ (HN0 _)).mono ?_; rintro e w' ⟨rfl, rfl⟩)
    | (go_at_call 9
       refine (with_not _ ⟨0, 0, 0⟩ _ (.inr ⟨_, _, rfl, hp_new _ _⟩)).mono ?_
       rintro e w2 ⟨rfl, hm2⟩
       have HZ := Lib.hid (fun X (hX : Mod (fun _ => False) w2 X) => (show NotThere w2 (some ⟨w.heap.size, 0, none⟩) from .inr ⟨_, _, rfl, hp_mod (hp_new _ _) hm2 id⟩).mod hX)
       have M2 := (show Mod (fun _ => False) w _ by (repeat' (first | exact Mod.refl _ _ | assumption | refine Mod.alloc ?_ _ | refine Mod.drew ?_ | refine Mod.drewN ?_ _ | refine Mod.setCell ?_ (by first | exact Or.inl rfl | (right; simp; done) | (right; simp; omega) | (left; simp; done)) _))).trans' hm2)
    | (go_at_call 8
       refine (HOf.out _ (some ⟨w2.heap.size, 0, none⟩) 2 ((Rd.blk Rg.cs_len (hp_new _ _) HCs.out).mono (fun b h => by subst h; simp))).mono ?_
       rintro e w3 ⟨b3, rfl, hM3, hm3⟩
       have N3 : Mod (fun _ => False) w2 w3 := (show Mod (fun _ => False) w2 _ by (repeat' (first | exact Mod.refl _ _ | assumption | refine Mod.alloc ?_ _ | refine Mod.drew ?_ | refine Mod.drewN ?_ _ | refine Mod.setCell ?_ (by first | exact Or.inl rfl | (right; simp; done) | (right; simp; omega) | (left; simp; done)) _))).trans' hm3
       have HMap := Lib.hid (fun X (hX : Mod (fun _ => False) w3 X) => hM3.mod hX)
       have K3 : Mod (fun _ => False) w3 w3 := Mod.refl _ _)
    | (go_at_call_of 15 (Value.int IntKind.i32 2147483647)
       refine (HG1.out b3 _ (HMap.out _ (by (repeat' (first | exact Mod.refl _ _ | assumption | refine Mod.alloc ?_ _ | refine Mod.drew ?_ | refine Mod.drewN ?_ _ | refine Mod.setCell ?_ (by first | exact Or.inl rfl | (right; simp; done) | (right; simp; omega) | (left; simp; done)) _))))).mono ?_
       rintro e w4 ⟨rfl, hm4⟩
       have K4 : Mod (fun _ => False) w3 w4 := (show Mod (fun _ => False) w3 _ by (repeat' (first | exact Mod.refl _ _ | assumption | refine Mod.alloc ?_ _ | refine Mod.drew ?_ | refine Mod.drewN ?_ _ | refine Mod.setCell ?_ (by first | exact Or.inl rfl | (right; simp; done) | (right; simp; omega) | (left; simp; done)) _))).trans' hm4)
    | (go_at_call 15
       refine (HG2.out b3 _ (HMap.out _ (by (repeat' (first | exact Mod.refl _ _ | assumption | refine Mod.alloc ?_ _ | refine Mod.drew ?_ | refine Mod.drewN ?_ _ | refine Mod.setCell ?_ (by first | exact Or.inl rfl | (right; simp; done) | (right; simp; omega) | (left; simp; done)) _))))).mono ?_
       rintro e w5 ⟨rfl, hm5⟩
       have K5 : Mod (fun _ => False) w3 w5 := (show Mod (fun _ => False) w3 _ by (repeat' (first | exact Mod.refl _ _ | assumption | refine Mod.alloc ?_ _ | refine Mod.drew ?_ | refine Mod.drewN ?_ _ | refine Mod.setCell ?_ (by first | exact Or.inl rfl | (right; simp; done) | (right; simp; omega) | (left; simp; done)) _))).trans' hm5)
    | (go_at_call 10; refine (num_any _ _).mono ?_; rintro e w' ⟨rfl, rfl⟩)
    | (go_at_call_of 17 (Value.pointer none); refine (len_not _ _ (HN0 _)).mono ?_; rintro e w' ⟨rfl, rfl⟩)
    | (go_at_call 17; refine (HLen.out b3 _ (HMap.out _ (by (repeat' (first | exact Mod.refl _ _ | assumption | refine Mod.alloc ?_ _ | refine Mod.drew ?_ | refine Mod.drewN ?_ _ | refine Mod.setCell ?_ (by first | exact Or.inl rfl | (right; simp; done) | (right; simp; omega) | (left; simp; done)) _))))).mono ?_; rintro e w' ⟨rfl, rfl⟩)
    | (go_at_call 13
       refine (many_not _ _ (HZ.out _ (N3.trans' (by (repeat' (first | exact Mod.refl _ _ | assumption | refine Mod.alloc ?_ _ | refine Mod.drew ?_ | refine Mod.drewN ?_ _ | refine Mod.setCell ?_ (by first | exact Or.inl rfl | (right; simp; done) | (right; simp; omega) | (left; simp; done)) _)))))).mono ?_
       rintro e w6 ⟨rfl, hm6⟩
       have K6 : Mod (fun _ => False) w3 w6 := (show Mod (fun _ => False) w3 _ by (repeat' (first | exact Mod.refl _ _ | assumption | refine Mod.alloc ?_ _ | refine Mod.drew ?_ | refine Mod.drewN ?_ _ | refine Mod.setCell ?_ (by first | exact Or.inl rfl | (right; simp; done) | (right; simp; omega) | (left; simp; done)) _))).trans' hm6)
    | (go_at_call_of 12 (Value.pointer none)
       refine (once_not _ _ _ _ _ (HN0 _)).mono ?_
       rintro e w7 ⟨rfl, hm7⟩
       have K7 : Mod (fun _ => False) w3 w7 := (show Mod (fun _ => False) w3 _ by (repeat' (first | exact Mod.refl _ _ | assumption | refine Mod.alloc ?_ _ | refine Mod.drew ?_ | refine Mod.drewN ?_ _ | refine Mod.setCell ?_ (by first | exact Or.inl rfl | (right; simp; done) | (right; simp; omega) | (left; simp; done)) _))).trans' hm7)
    | (go_at_call 12
       refine (once_not _ _ _ _ _ (HZ.out _ (N3.trans' (by (repeat' (first | exact Mod.refl _ _ | assumption | refine Mod.alloc ?_ _ | refine Mod.drew ?_ | refine Mod.drewN ?_ _ | refine Mod.setCell ?_ (by first | exact Or.inl rfl | (right; simp; done) | (right; simp; omega) | (left; simp; done)) _)))))).mono ?_
       rintro e w8 ⟨rfl, hm8⟩
       have K8 : Mod (fun _ => False) w3 w8 := (show Mod (fun _ => False) w3 _ by (repeat' (first | exact Mod.refl _ _ | assumption | refine Mod.alloc ?_ _ | refine Mod.drew ?_ | refine Mod.drewN ?_ _ | refine Mod.setCell ?_ (by first | exact Or.inl rfl | (right; simp; done) | (right; simp; omega) | (left; simp; done)) _))).trans' hm8)
    | (go_at_call 7; refine (known_any _).mono ?_; rintro e w9 ⟨rfl, hm9⟩)
    | fail)
  go_ret
  exact ⟨rfl, (M2.trans' (N3.trans' (show Mod (fun _ => False) w3 _ by (repeat' (first | exact Mod.refl _ _ | assumption | refine Mod.alloc ?_ _ | refine Mod.drew ?_ | refine Mod.drewN ?_ _ | refine Mod.setCell ?_ (by first | exact Or.inl rfl | (right; simp; done) | (right; simp; omega) | (left; simp; done)) _))))).trans' hm9⟩
end Go.Proofs.Ytaohdhblnjoihaa
