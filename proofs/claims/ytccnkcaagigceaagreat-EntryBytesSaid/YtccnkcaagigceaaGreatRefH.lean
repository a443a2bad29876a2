/-
  The reference of the package entry: an entry is read from its bytes.
-/
import Derived.Test.YtccnkcaagigceaaGreatRefF
import Derived.Test.YtccnkcaagigceaaGreatEntryE
namespace Go.Proofs.YtccnkcaagigceaaGreat
open Go.RowKit Go.Shelf
attribute [local go_sem] Oper.semAt_some

theorem map_some_inj : ∀ {a b : List At}, a.map some = b.map some → a = b
  | [], [], _ => rfl
  | [], _ :: _, h => by cases h
  | _ :: _, [], h => by cases h
  | x :: a, y :: b, h => by
    rw [List.map_cons, List.map_cons] at h
    injection h with h1 h2
    injection h1 with h1
    rw [h1, map_some_inj h2]
theorem gtakea_yes {D : Nat → Prop} {p : Nat} {r : List Bs × Bs × Bool} {w w' : World} {e : Ending} {m : List At} (hm : r.1.map attrP = m.map some) (h : FAtEnds D p r w e w') : ∃ v, e = .returned v ∧ OwnS w.heap.size 52 2 At.cs w' v m ∧ FrAt D p w' r.2.1 r.2.2 ∧ Mod (fun b => b = p) w w' := by
  obtain ⟨h1 | h1, h2⟩ := h
  · obtain ⟨m', v, h3, h4, h5, h6⟩ := h1
    rw [hm] at h3
    rw [map_some_inj h3]
    exact ⟨v, h4, h5, h6, h2⟩
  · obtain ⟨⟨x, hx, hn⟩, _⟩ := h1
    have : (none : Option At) ∈ r.1.map attrP := List.mem_map.2 ⟨x, hx, hn⟩
    rw [hm] at this
    obtain ⟨a, _, ha⟩ := List.mem_map.1 this
    cases ha
theorem gtakea_no {D : Nat → Prop} {p : Nat} {r : List Bs × Bs × Bool} {w w' : World} {e : Ending} (hn : ¬ ∃ m : List At, r.1.map attrP = m.map some) (h : FAtEnds D p r w e w') : (∃ x ∈ r.1, attrP x = none) ∧ e = .returned (.slice none 0 0) ∧ FrAt D p w' r.2.1 true ∧ Mod (fun b => b = p) w w' := by
  obtain ⟨h1 | h1, h2⟩ := h
  · obtain ⟨m', v, h3, _⟩ := h1
    exact absurd ⟨m', h3⟩ hn
  · obtain ⟨h3, h4, h5⟩ := h1
    exact ⟨h3, h4, h5, h2⟩
theorem none_of {l : List Bs} (hn : ¬ ∃ m : List At, l.map attrP = m.map some) : ∃ x ∈ l, attrP x = none := by
  induction l with
  | nil => exact absurd ⟨[], rfl⟩ hn
  | cons x l ih =>
    cases hx : attrP x with
    | none => exact ⟨x, by simp, hx⟩
    | some a =>
      obtain ⟨y, hy, hn2⟩ := ih fun ⟨m, hm⟩ => hn ⟨a :: m, by rw [List.map_cons, hx, hm]; rfl⟩
      exact ⟨y, by simp [hy], hn2⟩
/-- What the reference's Of answers. -/
def GOfEnds (s : Bs) (w : World) (e : Ending) (w' : World) : Prop :=
  ∃ (nm : Bs) (l : List At) (A : Option Addr) (c k : Nat) (z : Bool), e = .returned (.tuple #[.agg #[.string ⟨nm.toArray⟩, .slice A k c], .bool z]) ∧ k = l.length ∧ Rd (fun b => b < w'.heap.size) w' 2 At.cs A l ∧ (z = true → ofE s = some (nm, l)) ∧ (z = false → ofE s = none ∧ nm = [] ∧ l = []) ∧ Mod (fun _ => False) w w'
set_option maxRecDepth 100000 in
set_option maxHeartbeats 8000000 in
theorem gof_any (D0 : Nat → Prop) (A : Option Addr) (c : Nat) (s : Bs) (w : World) (hA : Rd D0 w 1 csU A s) (hl : s.length ≤ 1099511627776) (hc : s.length ≤ c) :
    Calls Tryz.prog 8 #[.slice A s.length c] w (GOfEnds s w) := by
  obtain ⟨n, hn⟩ : ∃ n, n = s.length := ⟨_, rfl⟩
  obtain ⟨W3, hW3⟩ : ∃ W3, W3 = ((w.alloc (.cells #[.string ⟨#[]⟩, .slice none 0 0] 24)).alloc (.cells #[.slice A n c, .bool false] 59)).alloc (.cells #[.string ⟨#[]⟩, .slice none 0 0] 24) := ⟨_, rfl⟩
  have hm3 : Mod (fun _ => False) w W3 := by rw [hW3]; (repeat' (first | exact Mod.refl _ _ | assumption | refine Mod.alloc ?_ _ | refine Mod.drew ?_ | refine Mod.drewN ?_ _ | refine Mod.setCell ?_ (by first | exact Or.inl rfl | (right; simp; done) | (right; simp; omega) | (left; simp; done)) _))
  have hs3 : W3.heap.size = w.heap.size + 3 := by rw [hW3]; simp
  have hr3 : W3.heap[w.heap.size]? = some (.cells #[.string ⟨#[]⟩, .slice none 0 0] 24 (0, 0)) := by rw [hW3]; exact hp_alloc (hp_alloc (hp_new _ _) _) _
  have hp3 : W3.heap[w.heap.size + 1]? = some (.cells #[.slice A n c, .bool false] 59 (0, 0)) := by rw [hW3]; exact hp_alloc (hp_at _ _ (by simp)) _
  have he3 : W3.heap[w.heap.size + 1 + 1]? = some (.cells #[.string ⟨#[]⟩, .slice none 0 0] 24 (0, 0)) := by rw [hW3]; exact hp_at _ _ (by simp)
  have hat3 : FrAt (fun b => D0 b ∧ b < w.heap.size) (w.heap.size + 1) W3 s false := ⟨A, n, c, hp3, (hA.lt csU_len (by decide)).keep (hm3.agree fun b hb => ⟨hb.2, id⟩), hn, by rw [hn]; exact hc, fun b hb => ⟨by omega, by omega⟩⟩
  have htx := ftext_any _ (w.heap.size + 1) s false 1 W3 hat3 hl
  rw [show (((1 : UInt8).toNat : Nat) : Int) = 1 from rfl] at htx
  obtain ⟨g, hg⟩ : ∃ g, g = gotV 1 s false := ⟨_, rfl⟩
  obtain ⟨r, hr⟩ : ∃ r, r = refL s := ⟨_, rfl⟩
  have hgr : r = listF 3 (gotV 2 g.2.1 g.2.2) := by rw [hr, hg]; rfl
  have hgl : g.2.1.length ≤ 1099511627776 := by rw [hg]; have := gotV_len 1 s false; omega
  have hgn : g.1.length ≤ 9223372036854775807 := by rw [hg]; have := gotV_len1 1 s false; omega
  rw [← hg] at htx
  rw [← hn]
  have HTx := Lib.hid htx
  have HG := Lib.hid hg
  have HR := Lib.hid hr
  have HGr := Lib.hid hgr
  have HGl := Lib.hid hgl
  have HGn := Lib.hid hgn
  have HRl := Lib.hid (show r.1.length ≤ 1099511627776 ∧ ∀ x ∈ r.1, x.length ≤ 1099511627776 by
    rw [hgr]
    have h1 := listF_len 3 (gotV 2 g.2.1 g.2.2)
    have h2 := gotV_len1 2 g.2.1 g.2.2
    exact ⟨by have := h1.1; omega, fun x hx => by have := h1.2 x hx; omega⟩)
  have HM3 := Lib.hid hm3
  have HR3 := Lib.hid hr3
  have HE3 := Lib.hid he3
  have HW3 := Lib.hid hW3
  have HS3 := Lib.hid hs3
  rw [hW3] at HTx
  clear htx hg hgr hgl hgn hm3 hr3 hp3 he3 hW3 hat3 hA hl hc hn hs3 hr
  by_cases hy : ∃ m : List At, r.1.map attrP = m.map some
  · obtain ⟨l, hy⟩ := hy
    obtain ⟨k6, hk6⟩ : ∃ k, k = l.length := ⟨_, rfl⟩
    have HK := Lib.hid hk6
    have HYes := Lib.hid hy
    have hof := ref_yes (s := s) (m := l) (by rw [← HR.out]; exact hy)
    rw [← HR.out, ← HG.out] at hof
    have HLl := Lib.hid (show l.length ≤ 1099511627776 by
      have h := congrArg List.length hy
      rw [List.length_map, List.length_map] at h
      have := HRl.out.1
      omega)
    have HFi := Lib.hid (show ∀ a ∈ l, FitA a from fun a ha => by
      have h1 : some a ∈ r.1.map attrP := by rw [hy]; exact List.mem_map.2 ⟨a, ha, rfl⟩
      obtain ⟨x, hx, hxa⟩ := List.mem_map.1 h1
      have h2 := attrP_some hxa
      have h3 := HRl.out.2 x hx
      rw [h2, attrI_len] at h3
      unfold FitA
      omega)
    obtain ⟨dn, hdn⟩ : ∃ z, z = (!r.2.2 && decide (r.2.1.length = 0)) := ⟨_, rfl⟩
    rw [← hdn] at hof
    have HDn := Lib.hid hdn
    clear hk6 hy hdn
    cases dn
    · have HOf := Lib.hid (show ofE s = none by rw [hof]; rfl)
      clear hof
      go_enter Tryz.func8, Tryz.ntmps8
      go_wp2_with (first
        | (go_at_call 25
           (with_reducible refine HTx.out.mono ?_)
           rintro e w4 ⟨rfl, hat4, hm4⟩
           rw [← HW3.out] at hm4
           have he4 := hp_mod HE3.out hm4 (by omega)
           have a0 : w4.cell? ⟨w.heap.size + 1 + 1, 0, none⟩ = some (.string ⟨#[]⟩) := by rw [hp_cell he4]; rfl
           have f0 : w4.frozen? ⟨w.heap.size + 1 + 1, 0, none⟩ = false := hp_free he4 _
           have hm5 : Mod (fun b => b = w.heap.size + 1 + 1) w4 (w4.setCell ⟨w.heap.size + 1 + 1, 0, none⟩ (.string ⟨g.1.toArray⟩)) := by (repeat' (first | exact Mod.refl _ _ | assumption | refine Mod.alloc ?_ _ | refine Mod.drew ?_ | refine Mod.drewN ?_ _ | refine Mod.setCell ?_ (by first | exact Or.inl rfl | (right; simp; done) | (right; simp; omega) | (left; simp; done)) _))
           have he5 := hp_eq (cs' := #[.string ⟨g.1.toArray⟩, .slice none 0 0]) (hp_set he4 0 (.string ⟨g.1.toArray⟩)) rfl
           have htk := gtakea_any _ (w.heap.size + 1) g.2.1 g.2.2 2 _ (hat4.keep hm5 (by omega) fun b hb => by omega) HGl.out
           rw [show (((2 : UInt8).toNat : Nat) : Int) = 2 from rfl, ← HGr.out] at htk
           have HTk := Lib.hid htk
           have hmm := (HM3.out.trans hm4 (fun b hb => by right; omega)).trans hm5 (fun b hb => by right; omega)
           have hR5 := hp_mod (hp_mod HR3.out hm4 (by omega)) hm5 (by omega)
           have HMM := Lib.hid hmm
           have HR5 := Lib.hid hR5
           have HE5 := Lib.hid he5
           have HSz := Lib.hid (show w.heap.size + 3 ≤ (w4.setCell ⟨w.heap.size + 1 + 1, 0, none⟩ (.string ⟨g.1.toArray⟩)).heap.size from by have h1 := hm4.size; have h2 := HS3.out; have h3 := hm5.size; omega)
           clear hat4 hm4 he4 hm5 he5 htk hmm hR5)
        | (go_at_call 26
           (with_reducible refine HTk.out.mono ?_)
           intro e w6 h6
           obtain ⟨v6, he, hown, hat6, hm6⟩ := gtakea_yes HYes.out h6
           obtain ⟨A6, c6, hv6, -, hfr, -⟩ := hown.rd At.cs_len
           rw [← HK.out] at hv6
           subst hv6
           subst he
           have he6 := hp_mod HE5.out hm6 (by omega)
           have c0 : w6.cell? ⟨w.heap.size + 1 + 1, 0, none⟩ = some (.string ⟨g.1.toArray⟩) := by rw [hp_cell he6]; rfl
           have c1 : w6.cell? ⟨w.heap.size + 1 + 1, 1, none⟩ = some (.slice none 0 0) := by rw [hp_cell he6]; rfl
           have c1' : w6.cell? ⟨w.heap.size + 1 + 1, 0 + 1, none⟩ = some (.slice none 0 0) := by rw [hp_cell he6]; rfl
           have f1 : w6.frozen? ⟨w.heap.size + 1 + 1, 1, none⟩ = false := hp_free he6 _
           have f1' : w6.frozen? ⟨w.heap.size + 1 + 1, 0 + 1, none⟩ = false := hp_free he6 _
           have hm7 : Mod (fun b => b = w.heap.size + 1 + 1) w6 (w6.setCell ⟨w.heap.size + 1 + 1, 1, none⟩ (.slice A6 k6 c6)) := by (repeat' (first | exact Mod.refl _ _ | assumption | refine Mod.alloc ?_ _ | refine Mod.drew ?_ | refine Mod.drewN ?_ _ | refine Mod.setCell ?_ (by first | exact Or.inl rfl | (right; simp; done) | (right; simp; omega) | (left; simp; done)) _))
           have he7 := hp_eq (cs' := #[.string ⟨g.1.toArray⟩, .slice A6 k6 c6]) (hp_set he6 1 (.slice A6 k6 c6)) rfl
           have hdo := fdone_any _ (w.heap.size + 1) _ _ _ (hat6.keep hm7 (by omega) fun b hb => by omega)
           rw [← HDn.out] at hdo
           have HDo := Lib.hid hdo
           have hR6 := hp_mod HR5.out hm6 (by omega)
           have r0 : w6.cell? ⟨w.heap.size, 0, none⟩ = some (.string ⟨#[]⟩) := by rw [hp_cell hR6]; rfl
           have r1 : w6.cell? ⟨w.heap.size, 1, none⟩ = some (.slice none 0 0) := by rw [hp_cell hR6]; rfl
           have r1' : w6.cell? ⟨w.heap.size, 0 + 1, none⟩ = some (.slice none 0 0) := by rw [hp_cell hR6]; rfl
           have g0 : w6.frozen? ⟨w.heap.size, 0, none⟩ = false := hp_free hR6 _
           have g1 : w6.frozen? ⟨w.heap.size, 1, none⟩ = false := hp_free hR6 _
           have g1' : w6.frozen? ⟨w.heap.size, 0 + 1, none⟩ = false := hp_free hR6 _
           have HR7 := Lib.hid (hp_mod hR6 hm7 (by omega))
           have HE7 := Lib.hid he7
           have HM7 := Lib.hid ((HMM.out.trans hm6 fun b hb => by right; omega).trans hm7 fun b hb => by right; omega)
           have HM67 := Lib.hid hm7
           clear hat6 he6 hm7 he7 hdo hR6
           have HOw := Lib.hid (hown.mod HM67.out fun b hb e => by have h1 := (hown.fresh b hb).1; have h2 := HSz.out; omega)
           have HFr := Lib.hid (fun b hb => (hown.fresh b hb).1)
           clear hm6 h6 hown hfr)
        | (go_at_call 27
           (with_reducible refine HDo.out.mono ?_)
           rintro e w7 ⟨rfl, rfl⟩)
        | fail)
      obtain ⟨W9, hW9⟩ : ∃ W9, W9 = (((w6.setCell ⟨w.heap.size + 1 + 1, 1, none⟩ (.slice A6 k6 c6)).setCell ⟨w.heap.size, 0, none⟩ (.string ⟨#[]⟩)).setCell ⟨w.heap.size, 1, none⟩ (.slice none 0 0)) := ⟨_, rfl⟩
      have hb9 : W9.heap[w.heap.size]? = some (.cells #[.string ⟨#[]⟩, .slice none 0 0] 24 (0, 0)) := by rw [hW9]; exact hp_eq (hp_set (hp_set HR7.out 0 (.string ⟨#[]⟩)) 1 (.slice none 0 0)) rfl
      have hm9 : Mod (fun b => b = w.heap.size) ((w6.setCell ⟨w.heap.size + 1 + 1, 1, none⟩ (.slice A6 k6 c6))) W9 := by rw [hW9]; (repeat' (first | exact Mod.refl _ _ | assumption | refine Mod.alloc ?_ _ | refine Mod.drew ?_ | refine Mod.drewN ?_ _ | refine Mod.setCell ?_ (by first | exact Or.inl rfl | (right; simp; done) | (right; simp; omega) | (left; simp; done)) _))
      rw [← hW9]
      have k0 := hp_cell hb9 0
      have k1 := hp_cell hb9 1
      have HM9 := Lib.hid ((HM7.out).trans hm9 fun b hb => by right; omega)
      have HMr := Lib.hid hm9
      clear hW9 hb9 hm9
      refine bodyPost_ret (v := .tuple #[.agg #[.string ⟨#[]⟩, .slice none 0 0], .bool false]) (by simp [results, Tryz.results8, go_sem] at k0 k1 ⊢; simp [k0, k1]) rfl ?_
      exact ⟨[], [], none, 0, 0, false, rfl, rfl, Rd.nil _ _ _ _ _, fun h => (by cases h), fun _ => ⟨HOf.out, rfl, rfl⟩, HM9.out⟩
    · obtain ⟨z, hz⟩ : ∃ z, z = mayE g.1 l := ⟨_, rfl⟩
      rw [← hz, Bool.true_and] at hof
      have HZ := Lib.hid hz
      clear hz
      cases z
      · have HOf := Lib.hid (show ofE s = none by rw [hof]; rfl)
        clear hof
        go_enter Tryz.func8, Tryz.ntmps8
        go_wp2_with (first
          | (go_at_call 25
             (with_reducible refine HTx.out.mono ?_)
             rintro e w4 ⟨rfl, hat4, hm4⟩
             rw [← HW3.out] at hm4
             have he4 := hp_mod HE3.out hm4 (by omega)
             have a0 : w4.cell? ⟨w.heap.size + 1 + 1, 0, none⟩ = some (.string ⟨#[]⟩) := by rw [hp_cell he4]; rfl
             have f0 : w4.frozen? ⟨w.heap.size + 1 + 1, 0, none⟩ = false := hp_free he4 _
             have hm5 : Mod (fun b => b = w.heap.size + 1 + 1) w4 (w4.setCell ⟨w.heap.size + 1 + 1, 0, none⟩ (.string ⟨g.1.toArray⟩)) := by (repeat' (first | exact Mod.refl _ _ | assumption | refine Mod.alloc ?_ _ | refine Mod.drew ?_ | refine Mod.drewN ?_ _ | refine Mod.setCell ?_ (by first | exact Or.inl rfl | (right; simp; done) | (right; simp; omega) | (left; simp; done)) _))
             have he5 := hp_eq (cs' := #[.string ⟨g.1.toArray⟩, .slice none 0 0]) (hp_set he4 0 (.string ⟨g.1.toArray⟩)) rfl
             have htk := gtakea_any _ (w.heap.size + 1) g.2.1 g.2.2 2 _ (hat4.keep hm5 (by omega) fun b hb => by omega) HGl.out
             rw [show (((2 : UInt8).toNat : Nat) : Int) = 2 from rfl, ← HGr.out] at htk
             have HTk := Lib.hid htk
             have hmm := (HM3.out.trans hm4 (fun b hb => by right; omega)).trans hm5 (fun b hb => by right; omega)
             have hR5 := hp_mod (hp_mod HR3.out hm4 (by omega)) hm5 (by omega)
             have HMM := Lib.hid hmm
             have HR5 := Lib.hid hR5
             have HE5 := Lib.hid he5
             have HSz := Lib.hid (show w.heap.size + 3 ≤ (w4.setCell ⟨w.heap.size + 1 + 1, 0, none⟩ (.string ⟨g.1.toArray⟩)).heap.size from by have h1 := hm4.size; have h2 := HS3.out; have h3 := hm5.size; omega)
             clear hat4 hm4 he4 hm5 he5 htk hmm hR5)
          | (go_at_call 26
             (with_reducible refine HTk.out.mono ?_)
             intro e w6 h6
             obtain ⟨v6, he, hown, hat6, hm6⟩ := gtakea_yes HYes.out h6
             obtain ⟨A6, c6, hv6, -, hfr, -⟩ := hown.rd At.cs_len
             rw [← HK.out] at hv6
             subst hv6
             subst he
             have he6 := hp_mod HE5.out hm6 (by omega)
             have c0 : w6.cell? ⟨w.heap.size + 1 + 1, 0, none⟩ = some (.string ⟨g.1.toArray⟩) := by rw [hp_cell he6]; rfl
             have c1 : w6.cell? ⟨w.heap.size + 1 + 1, 1, none⟩ = some (.slice none 0 0) := by rw [hp_cell he6]; rfl
             have c1' : w6.cell? ⟨w.heap.size + 1 + 1, 0 + 1, none⟩ = some (.slice none 0 0) := by rw [hp_cell he6]; rfl
             have f1 : w6.frozen? ⟨w.heap.size + 1 + 1, 1, none⟩ = false := hp_free he6 _
             have f1' : w6.frozen? ⟨w.heap.size + 1 + 1, 0 + 1, none⟩ = false := hp_free he6 _
             have hm7 : Mod (fun b => b = w.heap.size + 1 + 1) w6 (w6.setCell ⟨w.heap.size + 1 + 1, 1, none⟩ (.slice A6 k6 c6)) := by (repeat' (first | exact Mod.refl _ _ | assumption | refine Mod.alloc ?_ _ | refine Mod.drew ?_ | refine Mod.drewN ?_ _ | refine Mod.setCell ?_ (by first | exact Or.inl rfl | (right; simp; done) | (right; simp; omega) | (left; simp; done)) _))
             have he7 := hp_eq (cs' := #[.string ⟨g.1.toArray⟩, .slice A6 k6 c6]) (hp_set he6 1 (.slice A6 k6 c6)) rfl
             have hdo := fdone_any _ (w.heap.size + 1) _ _ _ (hat6.keep hm7 (by omega) fun b hb => by omega)
             rw [← HDn.out] at hdo
             have HDo := Lib.hid hdo
             have hR6 := hp_mod HR5.out hm6 (by omega)
             have r0 : w6.cell? ⟨w.heap.size, 0, none⟩ = some (.string ⟨#[]⟩) := by rw [hp_cell hR6]; rfl
             have r1 : w6.cell? ⟨w.heap.size, 1, none⟩ = some (.slice none 0 0) := by rw [hp_cell hR6]; rfl
             have r1' : w6.cell? ⟨w.heap.size, 0 + 1, none⟩ = some (.slice none 0 0) := by rw [hp_cell hR6]; rfl
             have g0 : w6.frozen? ⟨w.heap.size, 0, none⟩ = false := hp_free hR6 _
             have g1 : w6.frozen? ⟨w.heap.size, 1, none⟩ = false := hp_free hR6 _
             have g1' : w6.frozen? ⟨w.heap.size, 0 + 1, none⟩ = false := hp_free hR6 _
             have HR7 := Lib.hid (hp_mod hR6 hm7 (by omega))
             have HE7 := Lib.hid he7
             have HM7 := Lib.hid ((HMM.out.trans hm6 fun b hb => by right; omega).trans hm7 fun b hb => by right; omega)
             have HM67 := Lib.hid hm7
             clear hat6 he6 hm7 he7 hdo hR6
             have HOw := Lib.hid (hown.mod HM67.out fun b hb e => by have h1 := (hown.fresh b hb).1; have h2 := HSz.out; omega)
             have HFr := Lib.hid (fun b hb => (hown.fresh b hb).1)
             clear hm6 h6 hown hfr)
          | (go_at_call 27
             (with_reducible refine HDo.out.mono ?_)
             rintro e w7 ⟨rfl, rfl⟩
             have hmy := rentry_any g.1 A6 c6 l (w6.setCell ⟨w.heap.size + 1 + 1, 1, none⟩ (.slice A6 k6 c6)) HGn.out ((rd_of5 HOw.out At.cs_len).mono fun b hb => (HOw.out.fresh b hb).2) HLl.out HFi.out
             rw [← HK.out, ← HZ.out] at hmy
             have HMy := Lib.hid hmy
             clear hmy)
          | (go_at_call 19
             (with_reducible refine HMy.out.mono ?_)
             rintro e w8 ⟨rfl, hm8⟩
             have he8 := hp_mod HE7.out hm8 id
             have hR8 := hp_mod HR7.out hm8 id
             have x0 : w8.cell? ⟨w.heap.size + 1 + 1, 0, none⟩ = some (.string ⟨g.1.toArray⟩) := by rw [hp_cell he8]; rfl
             have x1 : w8.cell? ⟨w.heap.size + 1 + 1, 1, none⟩ = some (.slice A6 k6 c6) := by rw [hp_cell he8]; rfl
             have x1' : w8.cell? ⟨w.heap.size + 1 + 1, 0 + 1, none⟩ = some (.slice A6 k6 c6) := by rw [hp_cell he8]; rfl
             have r0 : w8.cell? ⟨w.heap.size, 0, none⟩ = some (.string ⟨#[]⟩) := by rw [hp_cell hR8]; rfl
             have r1 : w8.cell? ⟨w.heap.size, 1, none⟩ = some (.slice none 0 0) := by rw [hp_cell hR8]; rfl
             have r1' : w8.cell? ⟨w.heap.size, 0 + 1, none⟩ = some (.slice none 0 0) := by rw [hp_cell hR8]; rfl
             have g0 : w8.frozen? ⟨w.heap.size, 0, none⟩ = false := hp_free hR8 _
             have g1 : w8.frozen? ⟨w.heap.size, 1, none⟩ = false := hp_free hR8 _
             have g1' : w8.frozen? ⟨w.heap.size, 0 + 1, none⟩ = false := hp_free hR8 _
             have HR8 := Lib.hid hR8
             have HM8 := Lib.hid (HM7.out.trans' hm8)
             have HM78 := Lib.hid hm8
             clear hm8 he8 hR8)
          | fail)
        obtain ⟨W9, hW9⟩ : ∃ W9, W9 = ((w8.setCell ⟨w.heap.size, 0, none⟩ (.string ⟨#[]⟩)).setCell ⟨w.heap.size, 1, none⟩ (.slice none 0 0)) := ⟨_, rfl⟩
        have hb9 : W9.heap[w.heap.size]? = some (.cells #[.string ⟨#[]⟩, .slice none 0 0] 24 (0, 0)) := by rw [hW9]; exact hp_eq (hp_set (hp_set HR8.out 0 (.string ⟨#[]⟩)) 1 (.slice none 0 0)) rfl
        have hm9 : Mod (fun b => b = w.heap.size) (w8) W9 := by rw [hW9]; (repeat' (first | exact Mod.refl _ _ | assumption | refine Mod.alloc ?_ _ | refine Mod.drew ?_ | refine Mod.drewN ?_ _ | refine Mod.setCell ?_ (by first | exact Or.inl rfl | (right; simp; done) | (right; simp; omega) | (left; simp; done)) _))
        rw [← hW9]
        have k0 := hp_cell hb9 0
        have k1 := hp_cell hb9 1
        have HM9 := Lib.hid ((HM8.out).trans hm9 fun b hb => by right; omega)
        have HMr := Lib.hid hm9
        clear hW9 hb9 hm9
        refine bodyPost_ret (v := .tuple #[.agg #[.string ⟨#[]⟩, .slice none 0 0], .bool false]) (by simp [results, Tryz.results8, go_sem] at k0 k1 ⊢; simp [k0, k1]) rfl ?_
        exact ⟨[], [], none, 0, 0, false, rfl, rfl, Rd.nil _ _ _ _ _, fun h => (by cases h), fun _ => ⟨HOf.out, rfl, rfl⟩, HM9.out⟩
      · have HOf := Lib.hid (show ofE s = some (g.1, l) by rw [hof]; rfl)
        clear hof
        go_enter Tryz.func8, Tryz.ntmps8
        go_wp2_with (first
          | (go_at_call 25
             (with_reducible refine HTx.out.mono ?_)
             rintro e w4 ⟨rfl, hat4, hm4⟩
             rw [← HW3.out] at hm4
             have he4 := hp_mod HE3.out hm4 (by omega)
             have a0 : w4.cell? ⟨w.heap.size + 1 + 1, 0, none⟩ = some (.string ⟨#[]⟩) := by rw [hp_cell he4]; rfl
             have f0 : w4.frozen? ⟨w.heap.size + 1 + 1, 0, none⟩ = false := hp_free he4 _
             have hm5 : Mod (fun b => b = w.heap.size + 1 + 1) w4 (w4.setCell ⟨w.heap.size + 1 + 1, 0, none⟩ (.string ⟨g.1.toArray⟩)) := by (repeat' (first | exact Mod.refl _ _ | assumption | refine Mod.alloc ?_ _ | refine Mod.drew ?_ | refine Mod.drewN ?_ _ | refine Mod.setCell ?_ (by first | exact Or.inl rfl | (right; simp; done) | (right; simp; omega) | (left; simp; done)) _))
             have he5 := hp_eq (cs' := #[.string ⟨g.1.toArray⟩, .slice none 0 0]) (hp_set he4 0 (.string ⟨g.1.toArray⟩)) rfl
             have htk := gtakea_any _ (w.heap.size + 1) g.2.1 g.2.2 2 _ (hat4.keep hm5 (by omega) fun b hb => by omega) HGl.out
             rw [show (((2 : UInt8).toNat : Nat) : Int) = 2 from rfl, ← HGr.out] at htk
             have HTk := Lib.hid htk
             have hmm := (HM3.out.trans hm4 (fun b hb => by right; omega)).trans hm5 (fun b hb => by right; omega)
             have hR5 := hp_mod (hp_mod HR3.out hm4 (by omega)) hm5 (by omega)
             have HMM := Lib.hid hmm
             have HR5 := Lib.hid hR5
             have HE5 := Lib.hid he5
             have HSz := Lib.hid (show w.heap.size + 3 ≤ (w4.setCell ⟨w.heap.size + 1 + 1, 0, none⟩ (.string ⟨g.1.toArray⟩)).heap.size from by have h1 := hm4.size; have h2 := HS3.out; have h3 := hm5.size; omega)
             clear hat4 hm4 he4 hm5 he5 htk hmm hR5)
          | (go_at_call 26
             (with_reducible refine HTk.out.mono ?_)
             intro e w6 h6
             obtain ⟨v6, he, hown, hat6, hm6⟩ := gtakea_yes HYes.out h6
             obtain ⟨A6, c6, hv6, -, hfr, -⟩ := hown.rd At.cs_len
             rw [← HK.out] at hv6
             subst hv6
             subst he
             have he6 := hp_mod HE5.out hm6 (by omega)
             have c0 : w6.cell? ⟨w.heap.size + 1 + 1, 0, none⟩ = some (.string ⟨g.1.toArray⟩) := by rw [hp_cell he6]; rfl
             have c1 : w6.cell? ⟨w.heap.size + 1 + 1, 1, none⟩ = some (.slice none 0 0) := by rw [hp_cell he6]; rfl
             have c1' : w6.cell? ⟨w.heap.size + 1 + 1, 0 + 1, none⟩ = some (.slice none 0 0) := by rw [hp_cell he6]; rfl
             have f1 : w6.frozen? ⟨w.heap.size + 1 + 1, 1, none⟩ = false := hp_free he6 _
             have f1' : w6.frozen? ⟨w.heap.size + 1 + 1, 0 + 1, none⟩ = false := hp_free he6 _
             have hm7 : Mod (fun b => b = w.heap.size + 1 + 1) w6 (w6.setCell ⟨w.heap.size + 1 + 1, 1, none⟩ (.slice A6 k6 c6)) := by (repeat' (first | exact Mod.refl _ _ | assumption | refine Mod.alloc ?_ _ | refine Mod.drew ?_ | refine Mod.drewN ?_ _ | refine Mod.setCell ?_ (by first | exact Or.inl rfl | (right; simp; done) | (right; simp; omega) | (left; simp; done)) _))
             have he7 := hp_eq (cs' := #[.string ⟨g.1.toArray⟩, .slice A6 k6 c6]) (hp_set he6 1 (.slice A6 k6 c6)) rfl
             have hdo := fdone_any _ (w.heap.size + 1) _ _ _ (hat6.keep hm7 (by omega) fun b hb => by omega)
             rw [← HDn.out] at hdo
             have HDo := Lib.hid hdo
             have hR6 := hp_mod HR5.out hm6 (by omega)
             have r0 : w6.cell? ⟨w.heap.size, 0, none⟩ = some (.string ⟨#[]⟩) := by rw [hp_cell hR6]; rfl
             have r1 : w6.cell? ⟨w.heap.size, 1, none⟩ = some (.slice none 0 0) := by rw [hp_cell hR6]; rfl
             have r1' : w6.cell? ⟨w.heap.size, 0 + 1, none⟩ = some (.slice none 0 0) := by rw [hp_cell hR6]; rfl
             have g0 : w6.frozen? ⟨w.heap.size, 0, none⟩ = false := hp_free hR6 _
             have g1 : w6.frozen? ⟨w.heap.size, 1, none⟩ = false := hp_free hR6 _
             have g1' : w6.frozen? ⟨w.heap.size, 0 + 1, none⟩ = false := hp_free hR6 _
             have HR7 := Lib.hid (hp_mod hR6 hm7 (by omega))
             have HE7 := Lib.hid he7
             have HM7 := Lib.hid ((HMM.out.trans hm6 fun b hb => by right; omega).trans hm7 fun b hb => by right; omega)
             have HM67 := Lib.hid hm7
             clear hat6 he6 hm7 he7 hdo hR6
             have HOw := Lib.hid (hown.mod HM67.out fun b hb e => by have h1 := (hown.fresh b hb).1; have h2 := HSz.out; omega)
             have HFr := Lib.hid (fun b hb => (hown.fresh b hb).1)
             clear hm6 h6 hown hfr)
          | (go_at_call 27
             (with_reducible refine HDo.out.mono ?_)
             rintro e w7 ⟨rfl, rfl⟩
             have hmy := rentry_any g.1 A6 c6 l (w6.setCell ⟨w.heap.size + 1 + 1, 1, none⟩ (.slice A6 k6 c6)) HGn.out ((rd_of5 HOw.out At.cs_len).mono fun b hb => (HOw.out.fresh b hb).2) HLl.out HFi.out
             rw [← HK.out, ← HZ.out] at hmy
             have HMy := Lib.hid hmy
             clear hmy)
          | (go_at_call 19
             (with_reducible refine HMy.out.mono ?_)
             rintro e w8 ⟨rfl, hm8⟩
             have he8 := hp_mod HE7.out hm8 id
             have hR8 := hp_mod HR7.out hm8 id
             have x0 : w8.cell? ⟨w.heap.size + 1 + 1, 0, none⟩ = some (.string ⟨g.1.toArray⟩) := by rw [hp_cell he8]; rfl
             have x1 : w8.cell? ⟨w.heap.size + 1 + 1, 1, none⟩ = some (.slice A6 k6 c6) := by rw [hp_cell he8]; rfl
             have x1' : w8.cell? ⟨w.heap.size + 1 + 1, 0 + 1, none⟩ = some (.slice A6 k6 c6) := by rw [hp_cell he8]; rfl
             have r0 : w8.cell? ⟨w.heap.size, 0, none⟩ = some (.string ⟨#[]⟩) := by rw [hp_cell hR8]; rfl
             have r1 : w8.cell? ⟨w.heap.size, 1, none⟩ = some (.slice none 0 0) := by rw [hp_cell hR8]; rfl
             have r1' : w8.cell? ⟨w.heap.size, 0 + 1, none⟩ = some (.slice none 0 0) := by rw [hp_cell hR8]; rfl
             have g0 : w8.frozen? ⟨w.heap.size, 0, none⟩ = false := hp_free hR8 _
             have g1 : w8.frozen? ⟨w.heap.size, 1, none⟩ = false := hp_free hR8 _
             have g1' : w8.frozen? ⟨w.heap.size, 0 + 1, none⟩ = false := hp_free hR8 _
             have HR8 := Lib.hid hR8
             have HM8 := Lib.hid (HM7.out.trans' hm8)
             have HM78 := Lib.hid hm8
             clear hm8 he8 hR8)
          | fail)
        obtain ⟨W9, hW9⟩ : ∃ W9, W9 = ((w8.setCell ⟨w.heap.size, 0, none⟩ (.string ⟨g.1.toArray⟩)).setCell ⟨w.heap.size, 1, none⟩ (.slice A6 k6 c6)) := ⟨_, rfl⟩
        have hb9 : W9.heap[w.heap.size]? = some (.cells #[.string ⟨g.1.toArray⟩, .slice A6 k6 c6] 24 (0, 0)) := by rw [hW9]; exact hp_eq (hp_set (hp_set HR8.out 0 (.string ⟨g.1.toArray⟩)) 1 (.slice A6 k6 c6)) rfl
        have hm9 : Mod (fun b => b = w.heap.size) (w8) W9 := by rw [hW9]; (repeat' (first | exact Mod.refl _ _ | assumption | refine Mod.alloc ?_ _ | refine Mod.drew ?_ | refine Mod.drewN ?_ _ | refine Mod.setCell ?_ (by first | exact Or.inl rfl | (right; simp; done) | (right; simp; omega) | (left; simp; done)) _))
        rw [← hW9]
        have k0 := hp_cell hb9 0
        have k1 := hp_cell hb9 1
        have HM9 := Lib.hid ((HM8.out).trans hm9 fun b hb => by right; omega)
        have HMr := Lib.hid hm9
        clear hW9 hb9 hm9
        refine bodyPost_ret (v := .tuple #[.agg #[.string ⟨g.1.toArray⟩, .slice A6 k6 c6], .bool true]) (by simp [results, Tryz.results8, go_sem] at k0 k1 ⊢; simp [k0, k1]) rfl ?_
        have h := (HOw.out.mod HM78.out fun _ _ => id).mod HMr.out fun b hb e => by have h1 := HFr.out b hb; have h2 := HSz.out; omega
        exact ⟨g.1, l, A6, c6, k6, true, rfl, HK.out, (rd_of5 h At.cs_len).mono fun b hb => (h.fresh b hb).2, fun _ => HOf.out, fun h => (by cases h), HM9.out⟩
  · have HNo := Lib.hid hy
    have HOf := Lib.hid (show ofE s = none from ref_no (by rw [← HR.out]; exact none_of hy))
    clear hy
    go_enter Tryz.func8, Tryz.ntmps8
    go_wp2_with (first
      | (go_at_call 25
         (with_reducible refine HTx.out.mono ?_)
         rintro e w4 ⟨rfl, hat4, hm4⟩
         rw [← HW3.out] at hm4
         have he4 := hp_mod HE3.out hm4 (by omega)
         have a0 : w4.cell? ⟨w.heap.size + 1 + 1, 0, none⟩ = some (.string ⟨#[]⟩) := by rw [hp_cell he4]; rfl
         have f0 : w4.frozen? ⟨w.heap.size + 1 + 1, 0, none⟩ = false := hp_free he4 _
         have hm5 : Mod (fun b => b = w.heap.size + 1 + 1) w4 (w4.setCell ⟨w.heap.size + 1 + 1, 0, none⟩ (.string ⟨g.1.toArray⟩)) := by (repeat' (first | exact Mod.refl _ _ | assumption | refine Mod.alloc ?_ _ | refine Mod.drew ?_ | refine Mod.drewN ?_ _ | refine Mod.setCell ?_ (by first | exact Or.inl rfl | (right; simp; done) | (right; simp; omega) | (left; simp; done)) _))
         have he5 := hp_eq (cs' := #[.string ⟨g.1.toArray⟩, .slice none 0 0]) (hp_set he4 0 (.string ⟨g.1.toArray⟩)) rfl
         have htk := gtakea_any _ (w.heap.size + 1) g.2.1 g.2.2 2 _ (hat4.keep hm5 (by omega) fun b hb => by omega) HGl.out
         rw [show (((2 : UInt8).toNat : Nat) : Int) = 2 from rfl, ← HGr.out] at htk
         have HTk := Lib.hid htk
         have hmm := (HM3.out.trans hm4 (fun b hb => by right; omega)).trans hm5 (fun b hb => by right; omega)
         have hR5 := hp_mod (hp_mod HR3.out hm4 (by omega)) hm5 (by omega)
         have HMM := Lib.hid hmm
         have HR5 := Lib.hid hR5
         have HE5 := Lib.hid he5
         have HSz := Lib.hid (show w.heap.size + 3 ≤ (w4.setCell ⟨w.heap.size + 1 + 1, 0, none⟩ (.string ⟨g.1.toArray⟩)).heap.size from by have h1 := hm4.size; have h2 := HS3.out; have h3 := hm5.size; omega)
         clear hat4 hm4 he4 hm5 he5 htk hmm hR5)
      | (go_at_call 26
         (with_reducible refine HTk.out.mono ?_)
         intro e w6 h6
         obtain ⟨-, he, hat6, hm6⟩ := gtakea_no HNo.out h6
         subst he
         have he6 := hp_mod HE5.out hm6 (by omega)
         have c0 : w6.cell? ⟨w.heap.size + 1 + 1, 0, none⟩ = some (.string ⟨g.1.toArray⟩) := by rw [hp_cell he6]; rfl
         have c1 : w6.cell? ⟨w.heap.size + 1 + 1, 1, none⟩ = some (.slice none 0 0) := by rw [hp_cell he6]; rfl
         have c1' : w6.cell? ⟨w.heap.size + 1 + 1, 0 + 1, none⟩ = some (.slice none 0 0) := by rw [hp_cell he6]; rfl
         have f1 : w6.frozen? ⟨w.heap.size + 1 + 1, 1, none⟩ = false := hp_free he6 _
         have f1' : w6.frozen? ⟨w.heap.size + 1 + 1, 0 + 1, none⟩ = false := hp_free he6 _
         have hm7 : Mod (fun b => b = w.heap.size + 1 + 1) w6 (w6.setCell ⟨w.heap.size + 1 + 1, 1, none⟩ (.slice none 0 0)) := by (repeat' (first | exact Mod.refl _ _ | assumption | refine Mod.alloc ?_ _ | refine Mod.drew ?_ | refine Mod.drewN ?_ _ | refine Mod.setCell ?_ (by first | exact Or.inl rfl | (right; simp; done) | (right; simp; omega) | (left; simp; done)) _))
         have he7 := hp_eq (cs' := #[.string ⟨g.1.toArray⟩, .slice none 0 0]) (hp_set he6 1 (.slice none 0 0)) rfl
         have hdo := fdone_any _ (w.heap.size + 1) _ _ _ (hat6.keep hm7 (by omega) fun b hb => by omega)
         rw [show (!true && decide (r.2.1.length = 0)) = false from rfl] at hdo
         have HDo := Lib.hid hdo
         have hR6 := hp_mod HR5.out hm6 (by omega)
         have r0 : w6.cell? ⟨w.heap.size, 0, none⟩ = some (.string ⟨#[]⟩) := by rw [hp_cell hR6]; rfl
         have r1 : w6.cell? ⟨w.heap.size, 1, none⟩ = some (.slice none 0 0) := by rw [hp_cell hR6]; rfl
         have r1' : w6.cell? ⟨w.heap.size, 0 + 1, none⟩ = some (.slice none 0 0) := by rw [hp_cell hR6]; rfl
         have g0 : w6.frozen? ⟨w.heap.size, 0, none⟩ = false := hp_free hR6 _
         have g1 : w6.frozen? ⟨w.heap.size, 1, none⟩ = false := hp_free hR6 _
         have g1' : w6.frozen? ⟨w.heap.size, 0 + 1, none⟩ = false := hp_free hR6 _
         have HR7 := Lib.hid (hp_mod hR6 hm7 (by omega))
         have HE7 := Lib.hid he7
         have HM7 := Lib.hid ((HMM.out.trans hm6 fun b hb => by right; omega).trans hm7 fun b hb => by right; omega)
         have HM67 := Lib.hid hm7
         clear hat6 he6 hm7 he7 hdo hR6
         clear hm6 h6)
      | (go_at_call 27
         (with_reducible refine HDo.out.mono ?_)
         rintro e w7 ⟨rfl, rfl⟩)
      | fail)
    obtain ⟨W9, hW9⟩ : ∃ W9, W9 = (((w6.setCell ⟨w.heap.size + 1 + 1, 1, none⟩ (.slice none 0 0)).setCell ⟨w.heap.size, 0, none⟩ (.string ⟨#[]⟩)).setCell ⟨w.heap.size, 1, none⟩ (.slice none 0 0)) := ⟨_, rfl⟩
    have hb9 : W9.heap[w.heap.size]? = some (.cells #[.string ⟨#[]⟩, .slice none 0 0] 24 (0, 0)) := by rw [hW9]; exact hp_eq (hp_set (hp_set HR7.out 0 (.string ⟨#[]⟩)) 1 (.slice none 0 0)) rfl
    have hm9 : Mod (fun b => b = w.heap.size) ((w6.setCell ⟨w.heap.size + 1 + 1, 1, none⟩ (.slice none 0 0))) W9 := by rw [hW9]; (repeat' (first | exact Mod.refl _ _ | assumption | refine Mod.alloc ?_ _ | refine Mod.drew ?_ | refine Mod.drewN ?_ _ | refine Mod.setCell ?_ (by first | exact Or.inl rfl | (right; simp; done) | (right; simp; omega) | (left; simp; done)) _))
    rw [← hW9]
    have k0 := hp_cell hb9 0
    have k1 := hp_cell hb9 1
    have HM9 := Lib.hid ((HM7.out).trans hm9 fun b hb => by right; omega)
    have HMr := Lib.hid hm9
    clear hW9 hb9 hm9
    refine bodyPost_ret (v := .tuple #[.agg #[.string ⟨#[]⟩, .slice none 0 0], .bool false]) (by simp [results, Tryz.results8, go_sem] at k0 k1 ⊢; simp [k0, k1]) rfl ?_
    exact ⟨[], [], none, 0, 0, false, rfl, rfl, Rd.nil _ _ _ _ _, fun h => (by cases h), fun _ => ⟨HOf.out, rfl, rfl⟩, HM9.out⟩
end Go.Proofs.YtccnkcaagigceaaGreat
