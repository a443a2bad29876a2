/-
  Ranges: going over a map; one more range.
-/
import Derived.Test.YtaohdhblnjoihaaRangesE
namespace Go.Proofs.Ytaohdhblnjoihaa
open Go.RowKit Go.Shelf
attribute [local go_sem] Oper.semAt_some

theorem enters_vals1 : ∀ args w, (callFunc 31 args).run Try.prog w = .ok (.enter 31 args) w := enters_of Try.func31 (by kernel_rfl) rfl

theorem neq_rg (x : Rg) (w : World) : (binOp .neq 24 x.val x.val).run Try.prog w = .ok (.bool false) w := by
  have u1 := Try.underlying21
  have a1 := Try.isAgg21
  have z1 := Try.sizeOf21
  have u3 := Try.underlying3
  have a3 := Try.isAgg3
  have z3 := Try.sizeOf3
  have hS : Try.prog.underlying 24 = some (.struct (Try.prog.fieldsOf 24)) := by kernel_rfl
  have hp : Try.prog.stoodInHeld 24 = false := by kernel_rfl
  unfold Rg.val
  rw [run_neq_struct, show (10000 : Nat) = 9999 + 1 from rfl, run_equalIn_agg w 9999 24 _ _ hS hp]
  simp only [Program.fieldsOf, Try.underlying24]
  go_simp

def mnI (z : Nat) (xs : List Rg) (k : Nat) (C : Nat → Prop) (W : World) : Prop := W.heap[z]? = some (.cells #[.int .i64 (tot (xs.take k))] 3 (0, 0)) ∧ C = fun b => b = z
def noX (_ : Code) (_ : Nat) (_ : Nat → Prop) (_ : World) : Prop := False
def mnA (b z : Nat) (xs : List Rg) (a' : Act) (k : Nat) (C : Nat → Prop) (W : World) : Prop :=
  ∃ bE x, xs[k]? = some x ∧ a' = { tmps := #[.pointer (some ⟨b, 0, none⟩), undef, .int .i64 0, .pointer (some ⟨z, 0, none⟩), .pointer (some ⟨bE, 0, none⟩), .pointer (some ⟨b, 0, none⟩), .func (.func 31) #[] #[.pointer (some ⟨z + 1, 0, none⟩)], .agg #[.int .i32 x.lo, .int .i32 x.hi, .int .i64 x.v], undef, undef, undef, undef, undef, undef, undef, undef, undef, undef, undef], defers := [] } ∧
    z < bE ∧ W.heap[z]? = some (.cells #[.int .i64 (tot (xs.take k))] 3 (0, 0)) ∧ W.heap[bE]? = some (.cells #[.int .i32 x.lo, .int .i32 x.hi, .int .i64 x.v] 24 (0, 0)) ∧ C = fun b => b = z ∨ b = bE

set_option maxRecDepth 100000 in
set_option maxHeartbeats 1000000 in
theorem many_any (b : Nat) (A : Option Addr) (c : Nat) (xs : List Rg) (w : World) (hb : w.heap[b]? = some (.cells #[.slice A xs.length c, .bool true] 48 (0, 0)))
    (hA : Rd (fun b => b < w.heap.size) w 3 Rg.cs A xs) (hl : xs.length ≤ 1000000) (hf : ∀ x ∈ xs, FitR x) :
    Calls Try.prog 13 #[.pointer (some ⟨b, 0, none⟩)] w fun e w' => e = .returned (.int .i64 (tot xs)) ∧ Mod (fun _ => False) w w' := by
  obtain ⟨n, hn⟩ : ∃ n, n = xs.length := ⟨_, rfl⟩
  have HB := Lib.hid (fun X (hX : Mod (fun _ => False) w X) => all_some b A n c X (by rw [hn]; exact hp_mod hb hX id))
  have HN := Lib.hid hn
  have HA := Lib.hid hA
  have HF := Lib.hid hf
  clear hn hb hA hf
  refine callsIn_wide.1 (callsIn_of_wp_marks (n := 0) (F := Fence.wide) Try.func13 rfl trivial ?_ rfl)
  simp only [Try.ntmps13, List.size_toArray, List.length_cons, List.length_nil, Nat.reduceAdd, Nat.reduceSub, Array.replicate_succ, Array.replicate_zero, List.push_toArray, List.append_toArray, List.nil_append, List.cons_append]
  gi_wp2_with (first
    | ((refine ⟨trivial, rfl, ?_⟩; gi_at_call 14); refine ci (HB.out _ (by (repeat' (first | exact Mod.refl _ _ | assumption | refine Mod.alloc ?_ _ | refine Mod.drew ?_ | refine Mod.drewN ?_ _ | refine Mod.setCell ?_ (by first | exact Or.inl rfl | (right; simp; done) | (right; simp; omega) | (left; simp; done)) _)))) ?_; rintro e w' ⟨rfl, rfl⟩)
    | fail)
  obtain ⟨W4, hW4⟩ : ∃ W4, W4 = (w.alloc (.cells #[.int .i64 0] 3)).alloc (.cells #[.slice A n c] 22) := ⟨_, rfl⟩
  have hsz : W4.heap.size = w.heap.size + 2 := by subst hW4; simp
  have hz4 : W4.heap[w.heap.size]? = some (.cells #[.int .i64 0] 3 (0, 0)) := by subst hW4; (repeat' (first | exact hp_new _ _ | exact hp_at _ _ (by simp; done) | refine hp_alloc ?_ _ | refine hp_drew ?_ | refine hp_drewN ?_ _ | apply hp_set | refine hp_far ?_ (by first | (simp; omega) | (simp; done)) _))
  have hv4 : W4.heap[w.heap.size + 1]? = some (.cells #[.slice A n c] 22 (0, 0)) := by subst hW4; (repeat' (first | exact hp_new _ _ | exact hp_at _ _ (by simp; done) | refine hp_alloc ?_ _ | refine hp_drew ?_ | refine hp_drewN ?_ _ | apply hp_set | refine hp_far ?_ (by first | (simp; omega) | (simp; done)) _))
  have hm4 : Mod (fun _ => False) w W4 := by subst hW4; (repeat' (first | exact Mod.refl _ _ | assumption | refine Mod.alloc ?_ _ | refine Mod.drew ?_ | refine Mod.drewN ?_ _ | refine Mod.setCell ?_ (by first | exact Or.inl rfl | (right; simp; done) | (right; simp; omega) | (left; simp; done)) _))
  rw [← hW4]
  clear hW4
  have HSZ := Lib.hid hsz
  refine wp_range (gf := 31) (lb := #[.pointer (some ⟨w.heap.size + 1, 0, none⟩)]) rfl enters_vals1
    (rvalues1_iter (w.heap.size + 1) A c xs (fun b => b < w.heap.size ∨ b = w.heap.size + 1) W4 (by simp [maxLen]; omega) (by rw [hp_cell hv4 0, HN.out]; rfl) (.inr rfl) (fun b hb => by rcases hb with h | h <;> omega) ((HA.out.mod hm4 (fun b hb => ⟨hb, id⟩)).mono fun b hb => .inl hb))
    (fun b hb => by rcases hb with h | h <;> omega)
    (fun x hx => by obtain ⟨e, _, rfl⟩ := List.mem_map.1 hx; rfl) (mnI w.heap.size xs) noX (mnA b w.heap.size xs)
    (by
      rintro k C X Y ⟨h1, rfl⟩ hA
      exact ⟨hp_agree h1 hA rfl, rfl⟩)
    (fun c k C X Y h hA => h)
    (by
      rintro a' k C X Y ⟨bE, x, hx, ha, hlt, h1, h3, rfl⟩ hA
      exact ⟨bE, x, hx, ha, hlt, hp_agree h1 hA (.inl rfl), hp_agree h3 hA (.inr rfl), rfl⟩)
    (fun b => b = w.heap.size) (fun b hb => by subst hb; exact ⟨by omega, fun hd => by rcases hd with h | h <;> omega⟩)
    ⟨hz4, rfl⟩ ?assign ?body ?done ?stop
  case assign =>
    rintro l' k hk C W' ⟨h1, rfl⟩ hm' hb'
    simp only [List.length_map] at hk
    simp only [List.getElem_map, Rg.val]
    obtain ⟨x, hx⟩ : ∃ x, x = xs[k] := ⟨_, rfl⟩
    rw [← hx]
    have HX := Lib.hid (show xs[k]? = some x by rw [hx]; exact List.getElem?_eq_getElem hk)
    have H1 := Lib.hid h1
    have hzl := hp_lt h1
    clear hx h1 hsz
    gi_wp2
    refine ⟨_, ⟨W'.heap.size, x, HX.out, rfl, hzl, hp_alloc H1.out _, hp_new _ _, rfl⟩, by (repeat' (first | exact Mod.refl _ _ | assumption | refine Mod.alloc ?_ _ | refine Mod.drew ?_ | refine Mod.drewN ?_ _ | refine Mod.setCell ?_ (by first | exact Or.inl rfl | (right; simp; done) | (right; simp; omega) | (left; simp; done)) _)), ?_⟩
    rintro b (hb | rfl)
    · exact ⟨by have := (hb' b hb).1; simp; omega, .inl hb⟩
    · exact ⟨by simp, .inr (Nat.le_refl _)⟩
  case body =>
    rintro l' k hk C a' W' ⟨bE, x, hx, rfl, hlt, h1, h3, rfl⟩ hm' hb' - - -
    simp only [List.length_map] at hk
    have cz := hp_cell h1 0
    have fz := hp_free h1 0
    have e0 := hp_cell h3 0
    have e1 := hp_cell h3 1
    have hbz := hp_lt h1
    have hbE := hp_lt h3
    have H1 := Lib.hid h1
    have hxk : xs[k] = x := by rw [List.getElem?_eq_getElem hk] at hx; simpa using hx
    have HT := Lib.hid (show tot (xs.take (k + 1)) = tot (xs.take k) + (x.hi - x.lo + 1) by rw [tot_take hk, hxk])
    have hbd := tot_bd (xs.take k) fun y hy => HF.out y (List.mem_of_mem_take hy)
    have hfx := HF.out xs[k] (List.getElem_mem _)
    rw [hxk] at hfx
    unfold FitR at hfx
    obtain ⟨f1, f2, f3, f4⟩ := hfx
    obtain ⟨t, ht⟩ : ∃ t, t = tot (xs.take k) := ⟨_, rfl⟩
    rw [← ht] at hbd cz H1 HT
    rw [List.length_take] at hbd
    have hb1 : -4294967297000000 ≤ t := by omega
    have hb2 : t ≤ 4294967297000000 := by omega
    clear h1 h3 hx hsz hbd ht hxk
    gi_wp2
    refine ⟨fun b => b = w.heap.size, ⟨?_, rfl⟩, ?_, ?_⟩
    · rw [HT.out]
      exact hp_eq (hp_set H1.out 0 _) (by simp)
    · exact Mod.setCell (Mod.refl _ _) (.inl (.inl rfl)) _
    · rintro b rfl
      exact ⟨by simp [World.setCell]; omega, .inl (.inl rfl)⟩
  case done =>
    rintro W' C' ⟨h1, rfl⟩ hm' hb' hK hn'
    rw [HSZ.out] at hK hn' ⊢
    have cz := hp_cell h1 0
    have HM := Lib.hid (hm4.trans (C := fun _ => False) hm' (fun b hb => by subst hb; right; omega))
    clear h1 hm' hsz
    have ht : xs.take (xs.map fun x => #[x.val]).length = xs := by simp
    rw [ht] at cz
    gi_wp2
    exact endM1 rfl hK (results_tmp rfl _ _ _) ⟨rfl, HM.out.putObj (.inr (by omega)) _⟩
  case stop =>
    rintro W' C' c k hk0 hk hjx hm' hb' hK hn'
    exact hjx.elim
def onI (z : Nat) (k : Nat) (C : Nat → Prop) (W : World) : Prop :=
  W.heap[z + 1 + 1]? = some (.cells #[.bool false] 4 (0, 0)) ∧ W.heap[z + 1 + 1 + 1 + 1]? = some (.cells #[.int .i64 k] 3 (0, 0)) ∧ C = fun b => b = z + 1 + 1 ∨ b = z + 1 + 1 + 1 + 1
def onX (z : Nat) (c : Code) (_ : Nat) (C : Nat → Prop) (W : World) : Prop :=
  c = .ret ∧ W.heap[z + 1 + 1]? = some (.cells #[.bool true] 4 (0, 0)) ∧ C = fun b => b = z + 1 + 1 ∨ b = z + 1 + 1 + 1 + 1
def onA (b z n d : Nat) (B : Option Addr) (most : Int) (xs : List Rg) (a' : Act) (k : Nat) (C : Nat → Prop) (W : World) : Prop :=
  ∃ bE x, xs[k]? = some x ∧ a' = { tmps := #[.pointer (some ⟨b, 0, none⟩), .slice B n d, .int .i64 most, undef, .pointer (some ⟨z, 0, none⟩), .pointer (some ⟨z + 1, 0, none⟩), .pointer (some ⟨z + 1 + 1, 0, none⟩), .func (.func 31) #[] #[.pointer (some ⟨z + 1 + 1 + 1, 0, none⟩)], .pointer (some ⟨z + 1 + 1 + 1 + 1, 0, none⟩), .pointer (some ⟨bE, 0, none⟩), .pointer (some ⟨b, 0, none⟩), .func (.func 31) #[] #[.pointer (some ⟨z + 1 + 1 + 1, 0, none⟩)], .func (.func 31) #[] #[.pointer (some ⟨z + 1 + 1 + 1, 0, none⟩)], .bool false, .func (.func 31) #[] #[.pointer (some ⟨z + 1 + 1 + 1, 0, none⟩)], .agg #[.int .i32 x.lo, .int .i32 x.hi, .int .i64 x.v], undef, undef, undef, undef, undef, undef, undef, undef, undef, undef, undef, undef, undef, undef, undef, undef, undef, undef, undef, undef, undef], defers := [] } ∧
    z + 1 + 1 + 1 + 1 < bE ∧ W.heap[z + 1 + 1]? = some (.cells #[.bool false] 4 (0, 0)) ∧ W.heap[z + 1 + 1 + 1 + 1]? = some (.cells #[.int .i64 k] 3 (0, 0)) ∧ W.heap[bE]? = some (.cells #[.int .i32 x.lo, .int .i32 x.hi, .int .i64 x.v] 24 (0, 0)) ∧ C = fun b => (b = z + 1 + 1 ∨ b = z + 1 + 1 + 1 + 1) ∨ b = bE

theorem on_ret {z k bE : Nat} {W' : World} {v : Value} (h1 : W'.heap[z + 1 + 1]? = some (.cells #[.bool false] 4 (0, 0))) (hbb : ∀ b, (b = z + 1 + 1 ∨ b = z + 1 + 1 + 1 + 1) ∨ b = bE → b < W'.heap.size) :
    Rnd (onX z .ret) (k + 1) (fun b => (b = z + 1 + 1 ∨ b = z + 1 + 1 + 1 + 1) ∨ b = bE) W' (((W'.setCell ⟨z + 1 + 1 + 1 + 1, 0, none⟩ v).setCell ⟨z + 1 + 1, 0, none⟩ (.bool true)).drew) := by
  have h2 := hp_far h1 (p := ⟨z + 1 + 1 + 1 + 1, 0, none⟩) (by simp) v
  have h3 := hp_drew (hp_eq (hp_set h2 0 (.bool true)) (cs' := #[.bool true]) rfl)
  refine ⟨fun b => b = z + 1 + 1 ∨ b = z + 1 + 1 + 1 + 1, ⟨rfl, h3, rfl⟩, ?_, ?_⟩
  · exact (((Mod.refl _ W').setCell (p := ⟨z + 1 + 1 + 1 + 1, 0, none⟩) (.inl (.inl (.inr rfl))) v).setCell (p := ⟨z + 1 + 1, 0, none⟩) (.inl (.inl (.inl rfl))) _).drew
  · rintro b hb
    exact ⟨by have := hbb b (.inl hb); simpa [World.setCell] using this, .inl (.inl hb)⟩
theorem on_go {z k bE : Nat} {W' : World} (h1 : W'.heap[z + 1 + 1]? = some (.cells #[.bool false] 4 (0, 0))) (h2 : W'.heap[z + 1 + 1 + 1 + 1]? = some (.cells #[.int .i64 k] 3 (0, 0))) (hbb : ∀ b, (b = z + 1 + 1 ∨ b = z + 1 + 1 + 1 + 1) ∨ b = bE → b < W'.heap.size) :
    Rnd (onI z) (k + 1) (fun b => (b = z + 1 + 1 ∨ b = z + 1 + 1 + 1 + 1) ∨ b = bE) W' ((W'.setCell ⟨z + 1 + 1 + 1 + 1, 0, none⟩ (.int .i64 ((k : Int) + 1))).drew) := by
  have h3 := hp_drew (hp_far h1 (p := ⟨z + 1 + 1 + 1 + 1, 0, none⟩) (by simp) (.int .i64 ((k : Int) + 1)))
  have h4 := hp_drew (hp_eq (hp_set h2 0 (.int .i64 ((k : Int) + 1))) (cs' := #[.int .i64 ((k + 1 : Nat) : Int)]) (by simp))
  refine ⟨fun b => b = z + 1 + 1 ∨ b = z + 1 + 1 + 1 + 1, ⟨h3, h4, rfl⟩, ?_, ?_⟩
  · exact ((Mod.refl _ W').setCell (p := ⟨z + 1 + 1 + 1 + 1, 0, none⟩) (.inl (.inl (.inr rfl))) _).drew
  · rintro b hb
    exact ⟨by have := hbb b (.inl hb); simpa [World.setCell] using this, .inl (.inl hb)⟩
set_option maxRecDepth 100000 in
set_option maxHeartbeats 2000000 in
theorem once_any (b : Nat) (A B : Option Addr) (c d : Nat) (xs : List Rg) (most : Int) (w : World) (hb : w.heap[b]? = some (.cells #[.slice A xs.length c, .bool true] 48 (0, 0)))
    (hA : Rd (fun b => b < w.heap.size) w 3 Rg.cs A xs) (hB : Rd (fun b => b < w.heap.size) w 3 Rg.cs B xs) (hl : xs.length ≤ 1000000) :
    Calls Try.prog 12 #[.pointer (some ⟨b, 0, none⟩), .slice B xs.length d, .int .i64 most] w fun e w' => e = .returned (.bool true) ∧ Mod (fun _ => False) w w' := by
  obtain ⟨n, hn⟩ : ∃ n, n = xs.length := ⟨_, rfl⟩
  have HAl := Lib.hid (fun X (hX : Mod (fun _ => False) w X) => all_some b A n c X (by rw [hn]; exact hp_mod hb hX id))
  have hnl := fun W' m => run_eql_func_nil (P := Try.prog) W' Try.underlying38 (.func 31) #[] #[.pointer (some ⟨m, 0, none⟩)]
  rw [← hn]
  have HN := Lib.hid hn
  have HA := Lib.hid hA
  have HB := Lib.hid hB
  clear hn hb hA hB
  refine callsIn_wide.1 (callsIn_of_wp_marks (n := 0) (F := Fence.wide) Try.func12 rfl trivial ?_ rfl)
  simp only [Try.ntmps12, List.size_toArray, List.length_cons, List.length_nil, Nat.reduceAdd, Nat.reduceSub, Array.replicate_succ, Array.replicate_zero, List.push_toArray, List.append_toArray, List.nil_append, List.cons_append]
  gi_wp2_with (first
    | ((refine ⟨trivial, rfl, ?_⟩; gi_at_call 14); refine ci (HAl.out _ (by (repeat' (first | exact Mod.refl _ _ | assumption | refine Mod.alloc ?_ _ | refine Mod.drew ?_ | refine Mod.drewN ?_ _ | refine Mod.setCell ?_ (by first | exact Or.inl rfl | (right; simp; done) | (right; simp; omega) | (left; simp; done)) _)))) ?_; rintro e w' ⟨rfl, rfl⟩)
    | fail)
  obtain ⟨W4, hW4⟩ : ∃ W4, W4 = ((((w.alloc (.cells #[.slice B n d] 22)).alloc (.cells #[.int .i64 most] 3)).alloc (.cells #[.bool false] 4)).alloc (.cells #[.slice A n c] 22)).alloc (.cells #[.int .i64 0] 3) := ⟨_, rfl⟩
  have hsz : W4.heap.size = w.heap.size + 1 + 1 + 1 + 1 + 1 := by subst hW4; simp
  have hz0 : W4.heap[w.heap.size]? = some (.cells #[.slice B n d] 22 (0, 0)) := by subst hW4; (repeat' (first | exact hp_new _ _ | exact hp_at _ _ (by simp; done) | refine hp_alloc ?_ _ | refine hp_drew ?_ | refine hp_drewN ?_ _ | apply hp_set | refine hp_far ?_ (by first | (simp; omega) | (simp; done)) _))
  have hz1 : W4.heap[w.heap.size + 1]? = some (.cells #[.int .i64 most] 3 (0, 0)) := by subst hW4; (repeat' (first | exact hp_new _ _ | exact hp_at _ _ (by simp; done) | refine hp_alloc ?_ _ | refine hp_drew ?_ | refine hp_drewN ?_ _ | apply hp_set | refine hp_far ?_ (by first | (simp; omega) | (simp; done)) _))
  have hz2 : W4.heap[w.heap.size + 1 + 1]? = some (.cells #[.bool false] 4 (0, 0)) := by subst hW4; (repeat' (first | exact hp_new _ _ | exact hp_at _ _ (by simp; done) | refine hp_alloc ?_ _ | refine hp_drew ?_ | refine hp_drewN ?_ _ | apply hp_set | refine hp_far ?_ (by first | (simp; omega) | (simp; done)) _))
  have hz3 : W4.heap[w.heap.size + 1 + 1 + 1]? = some (.cells #[.slice A n c] 22 (0, 0)) := by subst hW4; (repeat' (first | exact hp_new _ _ | exact hp_at _ _ (by simp; done) | refine hp_alloc ?_ _ | refine hp_drew ?_ | refine hp_drewN ?_ _ | apply hp_set | refine hp_far ?_ (by first | (simp; omega) | (simp; done)) _))
  have hz4 : W4.heap[w.heap.size + 1 + 1 + 1 + 1]? = some (.cells #[.int .i64 0] 3 (0, 0)) := by subst hW4; (repeat' (first | exact hp_new _ _ | exact hp_at _ _ (by simp; done) | refine hp_alloc ?_ _ | refine hp_drew ?_ | refine hp_drewN ?_ _ | apply hp_set | refine hp_far ?_ (by first | (simp; omega) | (simp; done)) _))
  have hm4 : Mod (fun _ => False) w W4 := by subst hW4; (repeat' (first | exact Mod.refl _ _ | assumption | refine Mod.alloc ?_ _ | refine Mod.drew ?_ | refine Mod.drewN ?_ _ | refine Mod.setCell ?_ (by first | exact Or.inl rfl | (right; simp; done) | (right; simp; omega) | (left; simp; done)) _))
  rw [← hW4]
  clear hW4
  have HSZ := Lib.hid hsz
  have HZ0 := Lib.hid hz0
  have HZ1 := Lib.hid hz1
  refine wp_range (gf := 31) (lb := #[.pointer (some ⟨w.heap.size + 1 + 1 + 1, 0, none⟩)]) rfl enters_vals1
    (rvalues1_iter (w.heap.size + 1 + 1 + 1) A c xs (fun b => b < w.heap.size ∨ b = w.heap.size + 1 + 1 + 1) W4 (by simp [maxLen]; omega) (by rw [hp_cell hz3 0, HN.out]; rfl) (.inr rfl) (fun b hb => by rcases hb with h | h <;> omega) ((HA.out.mod hm4 (fun b hb => ⟨hb, id⟩)).mono fun b hb => .inl hb))
    (fun b hb => by rcases hb with h | h <;> omega)
    (fun x hx => by obtain ⟨e, _, rfl⟩ := List.mem_map.1 hx; rfl) (onI w.heap.size) (onX w.heap.size) (onA b w.heap.size n d B most xs)
    (by
      rintro k C X Y ⟨h1, h2, rfl⟩ hA
      exact ⟨hp_agree h1 hA (.inl rfl), hp_agree h2 hA (.inr rfl), rfl⟩)
    (by
      rintro c k C X Y ⟨rfl, h1, rfl⟩ hA
      exact ⟨rfl, hp_agree h1 hA (.inl rfl), rfl⟩)
    (by
      rintro a' k C X Y ⟨bE, x, hx, ha, hlt, h1, h2, h3, rfl⟩ hA
      exact ⟨bE, x, hx, ha, hlt, hp_agree h1 hA (.inl (.inl rfl)), hp_agree h2 hA (.inl (.inr rfl)), hp_agree h3 hA (.inr rfl), rfl⟩)
    (fun b => b = w.heap.size + 1 + 1 ∨ b = w.heap.size + 1 + 1 + 1 + 1) (fun b hb => ⟨by rcases hb with rfl | rfl <;> omega, fun hd => by rcases hb with rfl | rfl <;> rcases hd with h | h <;> omega⟩)
    ⟨hz2, hz4, rfl⟩ ?assign ?body ?done ?stop
  case assign =>
    rintro l' k hk C W' ⟨h1, h2, rfl⟩ hm' hb'
    simp only [List.length_map] at hk
    simp only [List.getElem_map, Rg.val]
    obtain ⟨x, hx⟩ : ∃ x, x = xs[k] := ⟨_, rfl⟩
    rw [← hx]
    have HX := Lib.hid (show xs[k]? = some x by rw [hx]; exact List.getElem?_eq_getElem hk)
    have H1 := Lib.hid h1
    have H2 := Lib.hid h2
    have hzl := hp_lt h2
    clear hx h1 h2 hsz hz0 hz1 hz2 hz3 hz4 hnl
    gi_wp2
    refine ⟨_, ⟨W'.heap.size, x, HX.out, rfl, hzl, hp_alloc H1.out _, hp_alloc H2.out _, hp_new _ _, rfl⟩, by (repeat' (first | exact Mod.refl _ _ | assumption | refine Mod.alloc ?_ _ | refine Mod.drew ?_ | refine Mod.drewN ?_ _ | refine Mod.setCell ?_ (by first | exact Or.inl rfl | (right; simp; done) | (right; simp; omega) | (left; simp; done)) _)), ?_⟩
    rintro b (hb | rfl)
    · exact ⟨by have := (hb' b hb).1; simp; omega, .inl hb⟩
    · exact ⟨by simp, .inr (Nat.le_refl _)⟩
  case body =>
    rintro l' k hk C a' W' ⟨bE, x, hx, rfl, hlt, h1, h2, h3, rfl⟩ hm' hb' - - -
    simp only [List.length_map] at hk
    have hkn : k < n := by rw [HN.out]; exact hk
    have cI := hp_cell h2 0
    have fI := hp_free h2 0
    have cR := hp_cell h1 0
    have fR := hp_free h1 0
    have e0 := hp_cell h3 0
    have e1 := hp_cell h3 1
    have e2 := hp_cell h3 2
    have hz0' := hp_mod HZ0.out hm' (by omega)
    have hz1' := hp_mod HZ1.out hm' (by omega)
    have cW := hp_cell hz0' 0
    have cM := hp_cell hz1' 0
    have hbR := hp_lt h1
    have hbI := hp_lt h2
    have hbE := hp_lt h3
    have H1 := Lib.hid h1
    have H2 := Lib.hid h2
    have hxk : xs[k] = x := by rw [List.getElem?_eq_getElem hk] at hx; simpa using hx
    have hrB := (HB.out.mod hm4 (fun b hb => ⟨hb, id⟩)).mod hm' (fun b hb => ⟨by omega, fun h => by rcases h with h | h <;> omega⟩)
    obtain ⟨b2, off2, rfl, -, l0, l1, l2⟩ := rd3 hrB hk
    rw [hxk] at l0 l1 l2
    have hne := fun W => neq_rg x W
    unfold Rg.val at hne
    have hd0 : decide ((n : Int) ≤ (k : Int)) = false := by rw [decide_eq_false_iff_not]; omega
    have HM' := Lib.hid hm'
    clear h1 h2 h3 hx hsz hxk hz0 hz1 hz2 hz3 hz4 hnl hz0' hz1' hrB hm'
    have hbb : ∀ b, (b = w.heap.size + 1 + 1 ∨ b = w.heap.size + 1 + 1 + 1 + 1) ∨ b = bE → b < W'.heap.size := fun b hb => (hb' b hb).1
    have HBB := Lib.hid hbb
    clear hbb hb'
    gi_wp2
    gi_region
    all_goals
      by_cases hmost : (k : Int) + 1 = most
      · have hmb : ((k : Int) + 1 == most) = true := by simpa using hmost
        clear hmost
        gi_wp2
        exact on_ret H1.out HBB.out
      · have hmb : ((k : Int) + 1 == most) = false := by simpa using hmost
        clear hmost
        gi_wp2
        exact on_go H1.out H2.out HBB.out
  case done =>
    rintro W' C' ⟨h1, h2, rfl⟩ hm' hb' hK hn'
    rw [HSZ.out] at hK hn' ⊢
    have cI := hp_cell h2 0
    have cR := hp_cell h1 0
    have fR := hp_free h1 0
    have hz0' := hp_mod HZ0.out hm' (by omega)
    have cW := hp_cell hz0' 0
    have H1 := Lib.hid h1
    have HM := Lib.hid (hm4.trans (C := fun _ => False) hm' (fun b hb => by rcases hb with rfl | rfl <;> (right; omega)))
    have hnn : (xs.map fun x => #[x.val]).length = n := by simp [HN.out]
    rw [hnn] at cI
    clear h1 h2 hm' hsz hz0 hz1 hz2 hz3 hz4 hnl hz0' hnn
    gi_wp2
    refine endM1 (v := .bool true) rfl (hp_far hK (by simp; omega) _) ?_ ⟨rfl, ?_⟩
    · have hr := hp_cell ((World.putObj_heap_other (o := .deferred none) (r := w.heap.size + 1 + 1 + 1 + 1 + 1) (show w.heap.size + 1 + 1 ≠ _ by omega)).trans (hp_set H1.out 0 (.bool true))) 0
      simp [results, Try.results12, go_sem] at hr ⊢
      rw [hr]
    · exact (Mod.setCell (p := ⟨w.heap.size + 1 + 1, 0, none⟩) HM.out (.inr (by show w.heap.size ≤ w.heap.size + 1 + 1; omega)) _).putObj (.inr (by omega)) _
  case stop =>
    rintro W' C' c k hk0 hk ⟨rfl, h1, rfl⟩ hm' hb' hK hn'
    rw [HSZ.out] at hK hn' ⊢
    have cR := hp_cell h1 0
    have HM := Lib.hid (hm4.trans (C := fun _ => False) hm' (fun b hb => by rcases hb with rfl | rfl <;> (right; omega)))
    clear hm' hsz hz0 hz1 hz2 hz3 hz4 hnl
    gi_wp2
    refine retM1 (v := .bool true) rfl hK ?_ ⟨rfl, HM.out.putObj (.inr (by omega)) _⟩
    have hr := hp_cell ((World.putObj_heap_other (o := .deferred none) (r := w.heap.size + 1 + 1 + 1 + 1 + 1) (show w.heap.size + 1 + 1 ≠ _ by omega)).trans h1) 0
    simp [results, Try.results12, go_sem] at hr ⊢
    rw [hr]
end Go.Proofs.Ytaohdhblnjoihaa
