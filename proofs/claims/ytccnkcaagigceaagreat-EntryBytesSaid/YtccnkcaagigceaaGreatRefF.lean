/-
  The reference of the package entry: attributes are taken.
-/
import Derived.Test.YtccnkcaagigceaaGreatRefE
import Derived.Test.YtccnkcaagigceaaGreatEntryC
import Derived.Test.YtccnkcaagigceaaGreatEntryYa
namespace Go.Proofs.YtccnkcaagigceaaGreat
open Go.RowKit Go.Shelf
attribute [local go_sem] Oper.semAt_some

/-- What the two parts of an attribute come to. -/
theorem attrP_got (x : Bs) : attrP x = if (!(gotV 2 (gotV 1 x false).2.1 (gotV 1 x false).2.2).2.2 && decide ((gotV 2 (gotV 1 x false).2.1 (gotV 1 x false).2.2).2.1.length = 0)) = true then some ⟨(gotV 1 x false).1, (gotV 2 (gotV 1 x false).2.1 (gotV 1 x false).2.2).1⟩ else none := by
  cases h1 : takeV 1 x with
  | none =>
    rw [gotV_no h1, attrP_n1 h1]
    rfl
  | some v =>
    obtain ⟨t, r⟩ := v
    rw [gotV_yes h1]
    show attrP x = if (!(gotV 2 r false).2.2 && decide ((gotV 2 r false).2.1.length = 0)) = true then some ⟨t, (gotV 2 r false).1⟩ else none
    cases h2 : takeV 2 r with
    | none =>
      rw [gotV_no h2, attrP_n2 h1 h2]
      rfl
    | some v =>
      obtain ⟨v, z⟩ := v
      rw [gotV_yes h2]
      cases z with
      | nil => rw [attrP_y h1 h2]; rfl
      | cons y z => rw [attrP_n3 h1 h2]; rfl
theorem sumV_mem : ∀ (xs : List (UInt8 × Bs)) (y : UInt8 × Bs), y ∈ xs → y.2.length ≤ sumV xs
  | x :: r, y, h => by
    simp only [sumV]
    rcases List.mem_cons.1 h with rfl | h
    · omega
    · have := sumV_mem r y h
      omega
theorem listF_len (o : UInt8) (g : Bs × Bs × Bool) : (listF o g).1.length ≤ g.1.length ∧ ∀ x ∈ (listF o g).1, x.length ≤ g.1.length := by
  unfold listF
  split
  · have h1 := endV_le g.1
    rw [endV_sum] at h1
    refine ⟨by rw [List.length_map]; exact itemsV_len g.1, fun x hx => ?_⟩
    obtain ⟨y, hy, rfl⟩ := List.mem_map.1 hx
    have := sumV_mem _ y hy
    omega
  · exact ⟨Nat.zero_le _, fun x hx => (by cases hx)⟩
theorem gotV_len1 (t : UInt8) (s : Bs) (bad : Bool) : (gotV t s bad).1.length ≤ s.length := by
  unfold gotV
  split
  · exact Nat.zero_le _
  · rename_i b s' e
    split at e
    · cases e
    · have := takeV_len e
      show b.length ≤ _
      omega
def FAtEnds (D : Nat → Prop) (p : Nat) (r : List Bs × Bs × Bool) (w : World) (e : Ending) (w' : World) : Prop :=
  ((∃ m v, r.1.map attrP = m.map some ∧ e = .returned v ∧ OwnS w.heap.size 52 2 At.cs w' v m ∧ FrAt D p w' r.2.1 r.2.2) ∨ ((∃ x ∈ r.1, attrP x = none) ∧ e = .returned (.slice none 0 0) ∧ FrAt D p w' r.2.1 true)) ∧ Mod (fun b => b = p) w w'
theorem rdF1 {D : Nat → Prop} {w : World} {A : Option Addr} {xs : List FIt} (h : Rd D w 1 FIt.cs1 A xs) {k : Nat} (hk : k < xs.length) :
    ∃ b off, A = some ⟨b, off, none⟩ ∧ D b ∧ w.cell? ⟨b, off + k, none⟩ = some (.slice xs[k].A xs[k].b.length xs[k].c) := by
  obtain ⟨b, off, rfl, hd, hc⟩ := h (by omega)
  refine ⟨b, off, rfl, hd, ?_⟩
  have := hc k hk 0 _ rfl
  simpa using this
set_option maxRecDepth 100000 in
set_option maxHeartbeats 4000000 in
theorem gtakea_any (D : Nat → Prop) (p : Nat) (s : Bs) (bad : Bool) (t : UInt8) (w : World) (h : FrAt D p w s bad) (hsz : s.length ≤ 1099511627776) :
    Calls Tryz.prog 26 #[.pointer (some ⟨p, 0, none⟩), .int .u8 (t.toNat : Int)] w (FAtEnds D p (listF 3 (gotV t s bad)) w) := by
  have hl := flist_any D p s bad t 3 w h hsz
  rw [show (((3 : UInt8).toNat : Nat) : Int) = 3 from rfl] at hl
  have hplt := h.lt
  have hD : ∀ b, D b → b ≠ p ∧ b < w.heap.size := by
    obtain ⟨_, _, _, _, _, _, _, h5⟩ := h
    exact h5
  obtain ⟨r, hr⟩ : ∃ r, r = listF 3 (gotV t s bad) := ⟨_, rfl⟩
  have hrl : r.1.length ≤ 1099511627776 ∧ ∀ x ∈ r.1, x.length ≤ 1099511627776 := by
    have h1 := listF_len 3 (gotV t s bad)
    have h2 := gotV_len1 t s bad
    rw [← hr] at h1
    exact ⟨by have := h1.1; omega, fun x hx => by have := h1.2 x hx; omega⟩
  rw [← hr] at hl ⊢
  have HL := Lib.hid hl
  have HD := Lib.hid hD
  have HRl := Lib.hid hrl.2
  obtain ⟨m, hm⟩ : ∃ m, m = r.1.length := ⟨_, rfl⟩
  have hml : m ≤ 1099511627776 := by rw [hm]; exact hrl.1
  have HMl := Lib.hid hm
  clear hl hr hrl hD h hsz hm
  go_enter Tryz.func26, Tryz.ntmps26
  go_wp2_with (first
    | (go_at_call 53
       refine HL.out.mono ?_
       rintro e w1 ⟨v1, its, rfl, hpr, hown, hrs, hat1, hm1⟩
       obtain ⟨A1, c1, hv1, hrd1, hfr1, -⟩ := OwnS.rd hown FIt.cs1_len
       have hil : its.length = m := by rw [HMl.out, ← hpr, List.length_map]
       rw [hil] at hv1
       subst hv1
       have HIl := Lib.hid hil
       have HPR := Lib.hid hpr
       have HRd1 := Lib.hid (hrd1.mono (D' := fun b => w.heap.size ≤ b ∧ b < w1.heap.size) hfr1)
       have HRs := Lib.hid hrs
       have HAT1 := Lib.hid hat1
       have HM1 := Lib.hid hm1
       clear hpr hown hrd1 hfr1 hil hrs hat1 hm1)
    | fail)
  have H0 := Lib.hid (OwnS.nil w1.heap.size 52 2 At.cs w1)
  go_loopw [6, 7] (fun v i wr => ∃ (k : Nat) (l : List At), k ≤ m ∧ i = .int .i64 k ∧ l.length = k ∧ OwnS w1.heap.size 52 2 At.cs wr v l ∧ (r.1.take k).map attrP = l.map some ∧ Mod (fun _ => False) w1 wr) (fun _ i _ => m - (intOf i).toNat)
  case atStart => exact ⟨0, [], Nat.zero_le _, rfl, rfl, H0.out, by simp, Mod.refl _ _⟩
  case round =>
    obtain ⟨k, l, hk, rfl, hlk, hown, hmp, hmr⟩ := hrel
    have HO := Lib.hid hown
    have HMp := Lib.hid hmp
    have HMR := Lib.hid hmr
    have HLk := Lib.hid hlk
    have hs1 := HM1.out.size
    have hsr := hmr.size
    by_cases hkm : k < m
    · have hki : k < its.length := by rw [HIl.out]; exact hkm
      have hkr : k < r.1.length := by rw [← HMl.out]; exact hkm
      obtain ⟨b2, o2, rfl, -, y0⟩ := rdF1 (HRd1.out.keep (hmr.agree fun b hb => ⟨hb.2, id⟩)) hki
      obtain ⟨y, hy⟩ : ∃ y, y = its[k] := ⟨_, rfl⟩
      rw [← hy] at y0
      obtain ⟨x, hx⟩ : ∃ x, x = r.1[k] := ⟨_, rfl⟩
      have hxy : y.b = x := by
        have h1 : (its.map FIt.b)[k]'(by rw [List.length_map]; exact hki) = y.b := by rw [List.getElem_map, ← hy]
        rw [← h1, hx]
        congr 1
      have hrs := HRs.out y (by rw [hy]; exact List.getElem_mem hki)
      have hxl := HRl.out x (by rw [hx]; exact List.getElem_mem hkr)
      have HTk := Lib.hid (show r.1.take (k + 1) = r.1.take k ++ [x] by rw [hx]; exact List.take_succ_eq_append_getElem hkr)
      have HMem := Lib.hid (show x ∈ r.1 by rw [hx]; exact List.getElem_mem hkr)
      rw [hxy] at y0 hrs
      obtain ⟨q, hq⟩ : ∃ q, q = wr.heap.size := ⟨_, rfl⟩
      have hpq : p < q := by omega
      obtain ⟨W2, hW2⟩ : ∃ W2, W2 = (wr.alloc (.cells #[.slice y.A x.length y.c, .bool false] 59)).alloc (.cells #[.string ⟨#[]⟩, .string ⟨#[]⟩] 52) := ⟨_, rfl⟩
      have hm2 : Mod (fun _ => False) wr W2 := by rw [hW2]; (repeat' (first | exact Mod.refl _ _ | assumption | refine Mod.alloc ?_ _ | refine Mod.drew ?_ | refine Mod.drewN ?_ _ | refine Mod.setCell ?_ (by first | exact Or.inl rfl | (right; simp; done) | (right; simp; omega) | (left; simp; done)) _))
      have hq2 : W2.heap[q]? = some (.cells #[.slice y.A x.length y.c, .bool false] 59 (0, 0)) := by rw [hW2, hq]; exact hp_alloc (hp_new _ _) _
      have ha2 : W2.heap[q + 1]? = some (.cells #[.string ⟨#[]⟩, .string ⟨#[]⟩] 52 (0, 0)) := by rw [hW2, hq]; exact hp_at _ _ (by simp)
      have hat2 : FrAt D q W2 x false := ⟨y.A, x.length, y.c, hq2, (hrs.2.1.keep (hmr.agree fun b hb => ⟨Nat.lt_of_lt_of_le (HD.out b hb).2 hs1, id⟩)).keep (hm2.agree fun b hb => ⟨by have := (HD.out b hb).2; omega, id⟩), rfl, hrs.1, fun b hb => by
        have h1 := (HD.out b hb).2
        have h2 := hm2.size
        exact ⟨by omega, by omega⟩⟩
      have htx := ftext_any D q x false 1 W2 hat2 hxl
      rw [show (((1 : UInt8).toNat : Nat) : Int) = 1 from rfl] at htx
      obtain ⟨g, hg⟩ : ∃ g, g = gotV 1 x false := ⟨_, rfl⟩
      obtain ⟨g', hg'⟩ : ∃ g', g' = gotV 2 g.2.1 g.2.2 := ⟨_, rfl⟩
      have hgl : g.2.1.length ≤ 1099511627776 := by rw [hg]; have := gotV_len 1 x false; omega
      have hap := attrP_got x
      rw [← hg, ← hg'] at hap
      rw [← hg] at htx
      have HTx := Lib.hid htx
      have HG' := Lib.hid hg'
      have HGl := Lib.hid hgl
      have HA2 := Lib.hid ha2
      have HM2 := Lib.hid hm2
      have hsW : W2.heap.size = q + 2 := by rw [hW2, hq]; simp
      rw [hW2] at HTx
      subst hq
      have HW2 := Lib.hid hW2
      obtain ⟨dn, hdn⟩ : ∃ z, z = (!g'.2.2 && decide (g'.2.1.length = 0)) := ⟨_, rfl⟩
      rw [← hdn] at hap
      have HAp := Lib.hid hap
      have HDn := Lib.hid hdn
      have hp1 : ¬ p = wr.heap.size + 1 := by omega
      have hp2 : ¬ wr.heap.size + 1 = p := by omega
      have hll : l.length ≤ 1099511627776 := by omega
      clear htx hg hg' hgl hap ha2 hq2 hat2 hm2 hy hx hxy hrs hxl hkr hown hmp hmr H0 hW2 hdn
      cases dn
      · go_wp2_with (first
          | (go_at_call 25
             (with_reducible refine HTx.out.mono ?_)
             rintro e w3 ⟨rfl, hat3, hm3⟩
             rw [← HW2.out] at hm3
             have ha3 := hp_mod HA2.out hm3 (by omega)
             have a0 : w3.cell? ⟨wr.heap.size + 1, 0, none⟩ = some (.string ⟨#[]⟩) := by rw [hp_cell ha3]; rfl
             have f0 : w3.frozen? ⟨wr.heap.size + 1, 0, none⟩ = false := hp_free ha3 _
             have hm4 : Mod (fun b => b = wr.heap.size + 1) w3 (w3.setCell ⟨wr.heap.size + 1, 0, none⟩ (.string ⟨g.1.toArray⟩)) := by (repeat' (first | exact Mod.refl _ _ | assumption | refine Mod.alloc ?_ _ | refine Mod.drew ?_ | refine Mod.drewN ?_ _ | refine Mod.setCell ?_ (by first | exact Or.inl rfl | (right; simp; done) | (right; simp; omega) | (left; simp; done)) _))
             have ha4 := hp_eq (cs' := #[.string ⟨g.1.toArray⟩, .string ⟨#[]⟩]) (hp_set ha3 0 (.string ⟨g.1.toArray⟩)) rfl
             have htx2 := ftext_any D wr.heap.size g.2.1 g.2.2 2 _ (hat3.keep hm4 (by omega) fun b hb => by have := (HD.out b hb).2; omega) HGl.out
             rw [show (((2 : UInt8).toNat : Nat) : Int) = 2 from rfl, ← HG'.out] at htx2
             have HTx2 := Lib.hid htx2
             have HA4 := Lib.hid ha4
             have HM4 := Lib.hid (((HM2.out.mono fun _ _ h => h.elim).trans hm3 fun b hb => by left; exact .inl hb).trans (C := fun b => b = wr.heap.size ∨ b = wr.heap.size + 1) hm4 fun b hb => by left; exact .inr hb)
             clear hat3 hm3 ha3 hm4 ha4 htx2)
          | (go_at_call 25
             (with_reducible refine HTx2.out.mono ?_)
             rintro e w5 ⟨rfl, hat5, hm5⟩
             have ha5 := hp_mod HA4.out hm5 (by omega)
             have c0 : w5.cell? ⟨wr.heap.size + 1, 0, none⟩ = some (.string ⟨g.1.toArray⟩) := by rw [hp_cell ha5]; rfl
             have c1 : w5.cell? ⟨wr.heap.size + 1, 1, none⟩ = some (.string ⟨#[]⟩) := by rw [hp_cell ha5]; rfl
             have c1' : w5.cell? ⟨wr.heap.size + 1, 0 + 1, none⟩ = some (.string ⟨#[]⟩) := by rw [hp_cell ha5]; rfl
             have f1 : w5.frozen? ⟨wr.heap.size + 1, 1, none⟩ = false := hp_free ha5 _
             have f1' : w5.frozen? ⟨wr.heap.size + 1, 0 + 1, none⟩ = false := hp_free ha5 _
             have hm6 : Mod (fun b => b = wr.heap.size + 1) w5 (w5.setCell ⟨wr.heap.size + 1, 1, none⟩ (.string ⟨g'.1.toArray⟩)) := by (repeat' (first | exact Mod.refl _ _ | assumption | refine Mod.alloc ?_ _ | refine Mod.drew ?_ | refine Mod.drewN ?_ _ | refine Mod.setCell ?_ (by first | exact Or.inl rfl | (right; simp; done) | (right; simp; omega) | (left; simp; done)) _))
             have hdo := fdone_any D wr.heap.size g'.2.1 g'.2.2 _ (hat5.keep hm6 (by omega) fun b hb => by have := (HD.out b hb).2; omega)
             rw [← HDn.out] at hdo
             have hm46 := HM4.out.trans hm5 fun b hb => .inl (.inl hb)
             have hmw := HMR.out.trans hm46 fun b hb => by right; omega
             have hatp := HAT1.out.keep hmw id fun _ _ => id
             obtain ⟨Ap, np, cp, hpp, -, -, -, -⟩ := id hatp
             have z0 : w5.cell? ⟨p, 1, none⟩ = some (.bool r.2.2) := by rw [hp_cell hpp]; rfl
             have z0' : w5.cell? ⟨p, 0 + 1, none⟩ = some (.bool r.2.2) := by rw [hp_cell hpp]; rfl
             have z1 : w5.frozen? ⟨p, 1, none⟩ = false := hp_free hpp _
             have z1' : w5.frozen? ⟨p, 0 + 1, none⟩ = false := hp_free hpp _
             have HATP := Lib.hid (hatp.keep hm6 (by omega) fun b hb => by have := (HD.out b hb).2; omega)
             have HMW := Lib.hid (hmw.trans hm6 fun b hb => by right; omega)
             have HO6 := Lib.hid ((HO.out.mod hm46 fun b hb h => by have := (HO.out.fresh b hb).2; omega).mod hm6 fun b hb h => by have := (HO.out.fresh b hb).2; omega)
             have HDo := Lib.hid hdo
             clear hat5 hm5 ha5 hm6 hdo hm46 hmw hatp hpp)
          | (go_at_call 27
             (with_reducible refine HDo.out.mono ?_)
             rintro e w7 ⟨rfl, rfl⟩)
          | fail)
        go_ret
        have hf := HATP.out.fault 0
        exact ⟨.inr ⟨⟨x, HMem.out, by rw [HAp.out]; rfl⟩, rfl, hf.1⟩, (HM1.out.trans HMW.out fun _ h => h.elim).trans' hf.2⟩
      · go_wp2_with (first
          | (go_at_call 25
             (with_reducible refine HTx.out.mono ?_)
             rintro e w3 ⟨rfl, hat3, hm3⟩
             rw [← HW2.out] at hm3
             have ha3 := hp_mod HA2.out hm3 (by omega)
             have a0 : w3.cell? ⟨wr.heap.size + 1, 0, none⟩ = some (.string ⟨#[]⟩) := by rw [hp_cell ha3]; rfl
             have f0 : w3.frozen? ⟨wr.heap.size + 1, 0, none⟩ = false := hp_free ha3 _
             have hm4 : Mod (fun b => b = wr.heap.size + 1) w3 (w3.setCell ⟨wr.heap.size + 1, 0, none⟩ (.string ⟨g.1.toArray⟩)) := by (repeat' (first | exact Mod.refl _ _ | assumption | refine Mod.alloc ?_ _ | refine Mod.drew ?_ | refine Mod.drewN ?_ _ | refine Mod.setCell ?_ (by first | exact Or.inl rfl | (right; simp; done) | (right; simp; omega) | (left; simp; done)) _))
             have ha4 := hp_eq (cs' := #[.string ⟨g.1.toArray⟩, .string ⟨#[]⟩]) (hp_set ha3 0 (.string ⟨g.1.toArray⟩)) rfl
             have htx2 := ftext_any D wr.heap.size g.2.1 g.2.2 2 _ (hat3.keep hm4 (by omega) fun b hb => by have := (HD.out b hb).2; omega) HGl.out
             rw [show (((2 : UInt8).toNat : Nat) : Int) = 2 from rfl, ← HG'.out] at htx2
             have HTx2 := Lib.hid htx2
             have HA4 := Lib.hid ha4
             have HM4 := Lib.hid (((HM2.out.mono fun _ _ h => h.elim).trans hm3 fun b hb => by left; exact .inl hb).trans (C := fun b => b = wr.heap.size ∨ b = wr.heap.size + 1) hm4 fun b hb => by left; exact .inr hb)
             clear hat3 hm3 ha3 hm4 ha4 htx2)
          | (go_at_call 25
             (with_reducible refine HTx2.out.mono ?_)
             rintro e w5 ⟨rfl, hat5, hm5⟩
             have ha5 := hp_mod HA4.out hm5 (by omega)
             have c0 : w5.cell? ⟨wr.heap.size + 1, 0, none⟩ = some (.string ⟨g.1.toArray⟩) := by rw [hp_cell ha5]; rfl
             have c1 : w5.cell? ⟨wr.heap.size + 1, 1, none⟩ = some (.string ⟨#[]⟩) := by rw [hp_cell ha5]; rfl
             have c1' : w5.cell? ⟨wr.heap.size + 1, 0 + 1, none⟩ = some (.string ⟨#[]⟩) := by rw [hp_cell ha5]; rfl
             have f1 : w5.frozen? ⟨wr.heap.size + 1, 1, none⟩ = false := hp_free ha5 _
             have f1' : w5.frozen? ⟨wr.heap.size + 1, 0 + 1, none⟩ = false := hp_free ha5 _
             have hm6 : Mod (fun b => b = wr.heap.size + 1) w5 (w5.setCell ⟨wr.heap.size + 1, 1, none⟩ (.string ⟨g'.1.toArray⟩)) := by (repeat' (first | exact Mod.refl _ _ | assumption | refine Mod.alloc ?_ _ | refine Mod.drew ?_ | refine Mod.drewN ?_ _ | refine Mod.setCell ?_ (by first | exact Or.inl rfl | (right; simp; done) | (right; simp; omega) | (left; simp; done)) _))
             have hdo := fdone_any D wr.heap.size g'.2.1 g'.2.2 _ (hat5.keep hm6 (by omega) fun b hb => by have := (HD.out b hb).2; omega)
             rw [← HDn.out] at hdo
             have hm46 := HM4.out.trans hm5 fun b hb => .inl (.inl hb)
             have hmw := HMR.out.trans hm46 fun b hb => by right; omega
             have hatp := HAT1.out.keep hmw id fun _ _ => id
             obtain ⟨Ap, np, cp, hpp, -, -, -, -⟩ := id hatp
             have z0 : w5.cell? ⟨p, 1, none⟩ = some (.bool r.2.2) := by rw [hp_cell hpp]; rfl
             have z0' : w5.cell? ⟨p, 0 + 1, none⟩ = some (.bool r.2.2) := by rw [hp_cell hpp]; rfl
             have z1 : w5.frozen? ⟨p, 1, none⟩ = false := hp_free hpp _
             have z1' : w5.frozen? ⟨p, 0 + 1, none⟩ = false := hp_free hpp _
             have HATP := Lib.hid (hatp.keep hm6 (by omega) fun b hb => by have := (HD.out b hb).2; omega)
             have HMW := Lib.hid (hmw.trans hm6 fun b hb => by right; omega)
             have HO6 := Lib.hid ((HO.out.mod hm46 fun b hb h => by have := (HO.out.fresh b hb).2; omega).mod hm6 fun b hb h => by have := (HO.out.fresh b hb).2; omega)
             have HDo := Lib.hid hdo
             clear hat5 hm5 ha5 hm6 hdo hm46 hmw hatp hpp)
          | (go_at_call 27
             (with_reducible refine HDo.out.mono ?_)
             rintro e w7 ⟨rfl, rfl⟩)
          | (at_builtin
             refine wpList_app1 (w0 := w1) (xs := l) (y := ⟨g.1, g'.1⟩) rfl (.tmp 38) (.tmp 40) rfl ats_t At.cs_len At.cs_one rfl HO6.out HMW.out (by rw [show (w5.setCell ⟨wr.heap.size + 1, 1, none⟩ (.string ⟨g'.1.toArray⟩)).heap.size = w5.heap.size by simp]; rfl) ?_ ?_ ?_ ?_
             · rfl
             · simp [maxLen]; omega
             · first | omega | (simp; omega)
             intro v' w8 hown8 hm8 _ _
             have HO8 := Lib.hid hown8
             have HM8 := Lib.hid hm8
             clear hown8 hm8)
          | fail)
        exact ⟨⟨k + 1, l ++ [⟨g.1, g'.1⟩], by omega, by go_num, by simp; omega, HO8.out, by rw [HTk.out, List.map_append, HMp.out, List.map_append, List.map_cons, List.map_nil, HAp.out]; rfl, HM8.out⟩, by simp only [intOf]; omega⟩
    · have hkl : r.1.take k = r.1 := List.take_of_length_le (by rw [← HMl.out]; omega)
      rw [hkl] at hmp
      clear hown hmr hlk H0
      go_wp2
      go_ret
      exact ⟨.inl ⟨l, u6, hmp, rfl, HO.out.less hs1, HAT1.out.keep HMR.out id fun _ _ => id⟩, HM1.out.trans HMR.out fun _ h => h.elim⟩
end Go.Proofs.YtccnkcaagigceaaGreat
/-
  Plain theory: the reference reads entries as the program does.
-/
namespace Go.Proofs.YtccnkcaagigceaaGreat

theorem takeV_first {t t' : UInt8} {s b : Bs} {n : Nat} (h : firstV s = some (t', b, n)) : takeV t s = if t' = t then some (b, s.drop n) else none := by
  unfold takeV
  rw [h]
theorem takeV_nof {t : UInt8} {s : Bs} (h : firstV s = none) : takeV t s = none := by
  unfold takeV
  rw [h]
theorem attrsP_iff : ∀ (f : Nat) (b : Bs) (m : List At), b.length ≤ f → (attrsP f b = some m ↔ ((itemsV b).all (fun y => decide (y.1 = 3)) = true ∧ endV b = b.length ∧ (itemsV b).map (fun y => attrP y.2) = m.map some))
  | 0, b, m, h => by
    have : b = [] := List.eq_nil_of_length_eq_zero (by omega)
    subst this
    rw [attrsP_nil]
    have e1 : itemsV ([] : Bs) = [] := rfl
    have e2 : endV ([] : Bs) = 0 := rfl
    rw [e1, e2]
    cases m <;> simp
  | f + 1, b, m, h => by
    by_cases hb : b = []
    · subst hb
      rw [attrsP_nil]
      have e1 : itemsV ([] : Bs) = [] := rfl
      have e2 : endV ([] : Bs) = 0 := rfl
      rw [e1, e2]
      cases m <;> simp
    · have hl : 0 < b.length := List.length_pos_iff.2 hb
      cases hf : firstV b with
      | none =>
        rw [attrsP_n1 hb (takeV_nof hf)]
        obtain ⟨e1, e2⟩ := itemsV_none hf
        constructor
        · intro h; cases h
        · rintro ⟨_, h2, _⟩
          omega
      | some v =>
        obtain ⟨t, x, n⟩ := v
        obtain ⟨e1, e2⟩ := itemsV_some hf
        obtain ⟨_, h5, _, h7, _⟩ := firstV_some hf
        have htk := takeV_first (t := 3) hf
        have hdl : (b.drop n).length = b.length - n := List.length_drop
        rw [e1, e2]
        by_cases ht : t = 3
        · rw [if_pos ht] at htk
          subst ht
          cases ha : attrP x with
          | none =>
            rw [attrsP_n2 hb htk ha]
            constructor
            · intro h; cases h
            · rintro ⟨_, _, h3⟩
              rw [List.map_cons, ha] at h3
              cases m with
              | nil => cases h3
              | cons y z => rw [List.map_cons] at h3; injection h3 with h3; cases h3
          | some a =>
            rw [attrsP_y hb htk ha]
            have ih := fun m => attrsP_iff f (b.drop n) m (by omega)
            constructor
            · intro h
              cases hp : attrsP f (b.drop n) with
              | none => rw [hp] at h; cases h
              | some m' =>
                rw [hp] at h
                injection h with h
                subst h
                obtain ⟨i1, i2, i3⟩ := (ih m').1 hp
                refine ⟨by rw [List.all_cons, i1]; rfl, by omega, by rw [List.map_cons, i3, ha]; rfl⟩
            · rintro ⟨i1, i2, i3⟩
              rw [List.all_cons, Bool.and_eq_true] at i1
              cases m with
              | nil => cases i3
              | cons y z =>
                rw [List.map_cons, List.map_cons] at i3
                injection i3 with i3 i4
                rw [ha] at i3
                injection i3 with i3
                subst i3
                rw [(ih z).2 ⟨i1.2, by omega, i4⟩]
                rfl
        · rw [if_neg ht] at htk
          rw [attrsP_n1 hb htk]
          constructor
          · intro h; cases h
          · rintro ⟨i1, _, _⟩
            rw [List.all_cons, Bool.and_eq_true] at i1
            exact absurd (of_decide_eq_true i1.1) ht
def refL (s : Bs) : List Bs × Bs × Bool := listF 3 (gotV 2 (gotV 1 s false).2.1 (gotV 1 s false).2.2)
theorem ofE_n1 {s : Bs} (h : takeV 1 s = none) : ofE s = none := by unfold ofE; rw [h]
theorem ofE_n2 {s nm r : Bs} (h : takeV 1 s = some (nm, r)) (h2 : takeA 2 r = none) : ofE s = none := by
  unfold ofE
  rw [h]
  simp only
  rw [h2]
theorem ofE_y {s nm r z : Bs} {l : List At} (h : takeV 1 s = some (nm, r)) (h2 : takeA 2 r = some (l, z)) : ofE s = if z = [] then if mayE nm l = true then some (nm, l) else none else none := by
  unfold ofE
  rw [h]
  simp only
  rw [h2]
  cases z with
  | nil => rw [if_pos rfl]; rfl
  | cons y z => rw [if_neg (by simp)]
theorem listF_bad (o : UInt8) (a b : Bs) : listF o (a, b, true) = ([], b, true) := by
  unfold listF
  rw [if_neg (by simp)]
theorem ref_yes {s : Bs} {m : List At} (h : (refL s).1.map attrP = m.map some) : ofE s = if (!(refL s).2.2 && decide ((refL s).2.1.length = 0) && mayE (gotV 1 s false).1 m) = true then some ((gotV 1 s false).1, m) else none := by
  unfold refL at h ⊢
  cases h1 : takeV 1 s with
  | none =>
    rw [gotV_no h1, ofE_n1 h1]
    have e : gotV 2 s true = ([], s, true) := rfl
    show none = if (!(listF 3 (gotV 2 s true)).2.2 && _ && _) = true then _ else none
    rw [e, listF_bad]
    rfl
  | some v =>
    obtain ⟨nm, r⟩ := v
    rw [gotV_yes h1] at h ⊢
    have h : (listF 3 (gotV 2 r false)).1.map attrP = m.map some := h
    show ofE s = if (!(listF 3 (gotV 2 r false)).2.2 && decide ((listF 3 (gotV 2 r false)).2.1.length = 0) && mayE nm m) = true then some (nm, m) else none
    cases h2 : takeV 2 r with
    | none =>
      rw [gotV_no h2, ofE_n2 h1 (takeA_n1 h2), listF_bad]
      rfl
    | some v =>
      obtain ⟨b, z⟩ := v
      rw [gotV_yes h2] at h ⊢
      have hi := attrsP_iff b.length b m (Nat.le_refl _)
      by_cases hg : ((itemsV b).all (fun y => decide (y.1 = 3)) && (!false && decide (endV b = b.length))) = true
      · have e : listF 3 (b, z, false) = ((itemsV b).map (·.2), z, false) := by unfold listF; rw [if_pos hg]
        rw [e] at h ⊢
        rw [Bool.and_eq_true] at hg
        have hp := hi.2 ⟨hg.1, by have := hg.2; simpa using this, by rw [← h, List.map_map]; rfl⟩
        have hta := takeA_y h2 hp
        show ofE s = if (!false && decide (z.length = 0) && mayE nm m) = true then some (nm, m) else none
        by_cases hma : mayAs m = true
        · rw [if_pos hma] at hta
          rw [ofE_y h1 hta]
          cases z with
          | nil => rw [if_pos rfl]; simp
          | cons y z => rw [if_neg (by simp), if_neg (by simp)]
        · rw [if_neg hma] at hta
          rw [ofE_n2 h1 hta, if_neg]
          unfold mayE
          intro hh
          simp at hh
          exact hma hh.2.2
      · have e : listF 3 (b, z, false) = ([], z, true) := by unfold listF; rw [if_neg hg]
        rw [e]
        have hn : attrsP b.length b = none := by
          cases hp : attrsP b.length b with
          | none => rfl
          | some m' =>
            obtain ⟨i1, i2, _⟩ := (attrsP_iff b.length b m' (Nat.le_refl _)).1 hp
            exact absurd (by rw [i1, decide_eq_true i2]; rfl) hg
        rw [ofE_n2 h1 (takeA_n2 h2 hn)]
        rfl
theorem ref_no {s : Bs} (h : ∃ x ∈ (refL s).1, attrP x = none) : ofE s = none := by
  unfold refL at h
  obtain ⟨x, hx, hn⟩ := h
  cases h1 : takeV 1 s with
  | none => exact ofE_n1 h1
  | some v =>
    obtain ⟨nm, r⟩ := v
    rw [gotV_yes h1] at hx
    have hx : x ∈ (listF 3 (gotV 2 r false)).1 := hx
    cases h2 : takeV 2 r with
    | none => exact ofE_n2 h1 (takeA_n1 h2)
    | some v =>
      obtain ⟨b, z⟩ := v
      rw [gotV_yes h2] at hx
      refine ofE_n2 h1 (takeA_n2 h2 ?_)
      unfold listF at hx
      split at hx
      · obtain ⟨y, hy, rfl⟩ := List.mem_map.1 hx
        cases hp : attrsP b.length b with
        | none => rfl
        | some m' =>
          obtain ⟨_, _, i3⟩ := (attrsP_iff b.length b m' (Nat.le_refl _)).1 hp
          have : (none : Option At) ∈ (itemsV b).map (fun y => attrP y.2) := List.mem_map.2 ⟨y, hy, hn⟩
          rw [i3] at this
          obtain ⟨a, _, ha⟩ := List.mem_map.1 this
          cases ha
      · cases hx
end Go.Proofs.YtccnkcaagigceaaGreat
