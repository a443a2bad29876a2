/-
  The reference of the package tlv: a list.
-/
import Derived.Test.YtccnkcaagigceaaGreatRefD
namespace Go.Proofs.YtccnkcaagigceaaGreat
open Go.RowKit Go.Shelf
attribute [local go_sem] Oper.semAt_some

def FIt.cs1 (x : FIt) : List Value := [.slice x.A x.b.length x.c]
theorem FIt.cs1_len (x : FIt) : x.cs1.length = 1 := rfl
theorem FIt.cs1_one (x : FIt) : ∀ u ∈ x.cs1, u.oneCell' = true := by simp [FIt.cs1, Value.oneCell']
theorem bss_t : SliceT Tryz.prog 77 25 1 24 := SliceT.mk' (z := .slice none 0 0) Tryz.underlying77 (by kernel_rfl) rfl (by decide)
/-- A list whose values bear one tag. -/
def listF (o : UInt8) (g : Bs × Bs × Bool) : List Bs × Bs × Bool :=
  if (itemsV g.1).all (fun y => decide (y.1 = o)) && (!g.2.2 && decide (endV g.1 = g.1.length)) then ((itemsV g.1).map (·.2), g.2.1, false) else ([], g.2.1, true)
def FListEnds (D : Nat → Prop) (p : Nat) (r : List Bs × Bs × Bool) (w : World) (e : Ending) (w' : World) : Prop :=
  ∃ v its, e = .returned v ∧ its.map FIt.b = r.1 ∧ OwnS w.heap.size 25 1 FIt.cs1 w' v its ∧ (∀ x ∈ its, x.b.length ≤ x.c ∧ Rd D w' 1 csU x.A x.b ∧ SlA x.A x.c) ∧ FrAt D p w' r.2.1 r.2.2 ∧ Mod (fun b => b = p) w w'
theorem rdF {D : Nat → Prop} {w : World} {A : Option Addr} {xs : List FIt} (h : Rd D w 2 FIt.cs A xs) {k : Nat} (hk : k < xs.length) :
    ∃ b off, A = some ⟨b, off, none⟩ ∧ D b ∧ w.cell? ⟨b, off + k * 2, none⟩ = some (.int .u8 (xs[k].t.toNat : Int)) ∧ w.cell? ⟨b, off + k * 2 + 1, none⟩ = some (.slice xs[k].A xs[k].b.length xs[k].c) := by
  obtain ⟨b, off, rfl, hd, hc⟩ := h (by omega)
  exact ⟨b, off, rfl, hd, hc k hk 0 _ rfl, hc k hk 1 _ rfl⟩
theorem flist_no {D : Nat → Prop} {p q : Nat} {o : UInt8} {g : Bs × Bs × Bool} {w w' : World} {s : Bs} {bad : Bool} (hg : listF o g = ([], s, true)) (hat : FrAt D p w' s bad) (hm : Mod (fun b => b = p) w w') :
    FListEnds D p (listF o g) w (.returned (.slice none 0 0)) ((w'.drewN q).setCell ⟨p, 1, none⟩ (.bool true)) := by
  rw [hg]
  obtain ⟨h1, h2⟩ := hat.fault q
  exact ⟨_, [], rfl, rfl, OwnS.nil _ _ _ _ _, fun x hx => (by cases hx), h1, hm.trans' h2⟩
set_option maxRecDepth 100000 in
set_option maxHeartbeats 4000000 in
theorem flist_any (D : Nat → Prop) (p : Nat) (s : Bs) (bad : Bool) (t o : UInt8) (w : World) (h : FrAt D p w s bad) (hsz : s.length ≤ 1099511627776) :
    Calls Tryz.prog 53 #[.pointer (some ⟨p, 0, none⟩), .int .u8 (t.toNat : Int), .int .u8 (o.toNat : Int)] w (FListEnds D p (listF o (gotV t s bad)) w) := by
  have HT := Lib.hid (ftake_any D p s bad t w h hsz)
  have hpl := h.lt
  obtain ⟨g, hg⟩ : ∃ g, g = gotV t s bad := ⟨_, rfl⟩
  have hgl : g.1.length ≤ 1099511627776 := by
    rw [hg]
    unfold gotV
    split
    · simp
    · rename_i b s' e
      split at e
      · cases e
      · have := congrArg List.length (takeV_some e).1
        rw [List.length_append, valV_len] at this
        show b.length ≤ _
        omega
  rw [← hg] at HT ⊢
  have hil : (itemsV g.1).length ≤ 1099511627776 := Nat.le_trans (itemsV_len g.1) hgl
  obtain ⟨m, hm⟩ : ∃ m, m = (itemsV g.1).length := ⟨_, rfl⟩
  rw [← hm] at hil
  have HMl := Lib.hid hm
  have HGl := Lib.hid hgl
  clear hg h hsz hgl hm
  go_enter Tryz.func53, Tryz.ntmps53
  go_wp2_with (first
    | (go_at_call 52
       refine HT.out.mono ?_
       rintro r w1 ⟨A1, c1, rfl, hc1, hs1, hrd1, hat1, hm1⟩
       have hdd : ∀ b, D b → b < w1.heap.size := by
         obtain ⟨_, _, _, _, _, _, _, h5⟩ := hat1
         exact fun b hb => (h5 b hb).2
       have HAl := Lib.hid (fall_any D A1 c1 g.1 w1 hrd1 hdd HGl.out hc1 hs1)
       have HAT1 := Lib.hid hat1
       have HM1 := Lib.hid hm1
       have HDD := Lib.hid hdd
       clear hc1 hs1 hrd1 hat1 hm1 hdd)
    | (go_at_call 65
       refine HAl.out.mono ?_
       rintro r w2 ⟨v2, its, rfl, hpr, hown, hrs, hm2⟩
       obtain ⟨A2, c2, hv2, hrd2, hfr2, -⟩ := OwnS.rd hown FIt.cs_len
       have hml : its.length = m := by rw [HMl.out, ← hpr, List.length_map]
       rw [hml] at hv2
       subst hv2
       have HML := Lib.hid hml
       have HPR := Lib.hid hpr
       have HRd2 := Lib.hid (hrd2.mono (D' := fun b => w1.heap.size ≤ b ∧ b < w2.heap.size) hfr2)
       have HRs := Lib.hid hrs
       have HM2 := Lib.hid hm2
       have HAT2 := Lib.hid (HAT1.out.keep hm2 id fun _ _ => id)
       clear hpr hown hrd2 hfr2 hml hrs hm2)
    | fail)
  have H0 := Lib.hid (OwnS.nil w2.heap.size 25 1 FIt.cs1 w2)
  go_loopw [10, 11] (fun v i wr => ∃ k : Nat, k ≤ m ∧ i = .int .i64 k ∧ OwnS w2.heap.size 25 1 FIt.cs1 wr v (its.take k) ∧ (∀ x ∈ its.take k, x.t = o) ∧ Mod (fun _ => False) w2 wr) (fun _ i _ => m - (intOf i).toNat)
  case atStart => exact ⟨0, Nat.zero_le _, rfl, H0.out, fun x hx => (by simp at hx), Mod.refl _ _⟩
  case round =>
    obtain ⟨k, hk, rfl, hown, hall, hmr⟩ := hrel
    have HO := Lib.hid hown
    have HAll := Lib.hid hall
    have HMR := Lib.hid hmr
    have hatr := HAT2.out.keep hmr id fun _ _ => id
    have HATR := Lib.hid hatr
    obtain ⟨Ap, np, cp, hpp, -, -, -, -⟩ := hatr
    have HMW := Lib.hid ((HM1.out.trans HM2.out fun _ h => h.elim).trans hmr fun _ h => h.elim)
    have z0 : wr.cell? ⟨p, 1, none⟩ = some (.bool g.2.2) := by rw [hp_cell hpp]; rfl
    have z0' : wr.cell? ⟨p, 0 + 1, none⟩ = some (.bool g.2.2) := by rw [hp_cell hpp]; rfl
    have z1 : wr.frozen? ⟨p, 1, none⟩ = false := hp_free hpp _
    have z1' : wr.frozen? ⟨p, 0 + 1, none⟩ = false := hp_free hpp _
    by_cases hkm : k < m
    · have hki : k < its.length := by rw [HML.out]; exact hkm
      obtain ⟨b2, o2, rfl, -, y0, y1⟩ := rdF (HRd2.out.keep (hmr.agree fun b hb => ⟨hb.2, id⟩)) hki
      obtain ⟨y, hy⟩ : ∃ y, y = its[k] := ⟨_, rfl⟩
      rw [← hy] at y0 y1
      have HY := Lib.hid hy
      clear hown hall hmr hpp hy H0
      by_cases hto : y.t = o
      · have ht1 : ((y.t.toNat : Int) == (o.toNat : Int)) = true := by rw [hto]; simp
        have ht2 : ((y.t.toNat : Int) != (o.toNat : Int)) = false := by rw [hto]; simp
        have HTk := Lib.hid (show its.take (k + 1) = its.take k ++ [y] by rw [HY.out]; exact List.take_succ_eq_append_getElem hki)
        have HTo := Lib.hid hto
        clear hto
        go_wp2_with (first
          | (at_builtin
             refine wpList_app1 (w0 := w2) (xs := its.take k) (y := y) rfl (.tmp 36) (.tmp 42) rfl bss_t FIt.cs1_len FIt.cs1_one rfl HO.out HMR.out rfl ?_ ?_ ?_ ?_
             · rfl
             · simp [maxLen]; omega
             · first | omega | (simp; omega)
             intro v' w3 hown3 hm3 _ _
             have HO3 := Lib.hid hown3
             have HM3 := Lib.hid hm3
             clear hown3 hm3)
          | fail)
        exact ⟨⟨k + 1, by omega, by go_num, by rw [HTk.out]; exact HO3.out, fun x hx => by
          rw [HTk.out] at hx
          rcases List.mem_append.1 hx with hx | hx
          · exact HAll.out x hx
          · rw [List.mem_singleton] at hx
            rw [hx]; exact HTo.out, HM3.out⟩, by simp only [intOf]; omega⟩
      · have ht0 : ¬ y.t.toNat = o.toNat := fun e => hto (UInt8.toNat_inj.1 e)
        have HTo := Lib.hid hto
        clear hto
        have HG := Lib.hid (show listF o g = ([], g.2.1, true) by
          unfold listF
          rw [if_neg]
          rw [← HPR.out]
          intro h
          rw [Bool.and_eq_true, List.all_eq_true] at h
          have h2 := h.1 y.pr (List.mem_map.2 ⟨y, by rw [HY.out]; exact List.getElem_mem hki, rfl⟩)
          exact HTo.out (of_decide_eq_true h2))
        go_wp2
        go_ret
        exact flist_no (q := 0) HG.out HATR.out HMW.out
    · have hkl : its.take k = its := List.take_of_length_le (by rw [HML.out]; omega)
      rw [hkl] at hown hall
      have HO' := Lib.hid hown
      have HTag := Lib.hid (show (itemsV g.1).all (fun y => decide (y.1 = o)) = true by
        rw [← HPR.out, List.all_eq_true]
        intro y hy
        obtain ⟨x, hx, rfl⟩ := List.mem_map.1 hy
        exact decide_eq_true (hall x hx))
      clear hown hall hmr hpp hkl H0 HO
      obtain ⟨g1, g2, bd⟩ := g
      have z0 : wr.cell? ⟨p, 1, none⟩ = some (.bool bd) := z0
      have z0' : wr.cell? ⟨p, 0 + 1, none⟩ = some (.bool bd) := z0'
      cases bd
      · by_cases he : endV g1 = g1.length
        · have he1 : ((endV g1 : Int) == (g1.length : Int)) = true := by rw [he]; simp
          have he2 : ((endV g1 : Int) != (g1.length : Int)) = false := by rw [he]; simp
          have HG := Lib.hid (show listF o (g1, g2, false) = ((itemsV g1).map (·.2), g2, false) by
            unfold listF
            rw [if_pos (by rw [HTag.out]; simp [he])])
          clear he
          go_wp2
          go_ret
          rw [HG.out]
          have hs1 := HM1.out.size
          have hs2 := HM2.out.size
          exact ⟨u10, its, rfl, (by rw [← HPR.out, List.map_map]; rfl), HO'.out.less (Nat.le_trans hs1 hs2), fun x hx => ⟨(HRs.out x hx).1, (HRs.out x hx).2.1.keep (HMR.out.agree fun b hb => ⟨Nat.lt_of_lt_of_le (HDD.out b hb) hs2, id⟩), (HRs.out x hx).2.2⟩, HATR.out, HMW.out⟩
        · have HG := Lib.hid (show listF o (g1, g2, false) = ([], g2, true) by
            unfold listF
            rw [if_neg (by simp [he])])
          go_wp2
          go_ret
          exact flist_no (q := 0) HG.out HATR.out HMW.out
      · have HG := Lib.hid (show listF o (g1, g2, true) = ([], g2, true) by
          unfold listF
          rw [if_neg (by simp)])
        go_wp2
        go_ret
        exact flist_no (q := 0) HG.out HATR.out HMW.out
end Go.Proofs.YtccnkcaagigceaaGreat
