/-
  The reference's foldings, read.
-/
import Derived.Test.YtidbgfmknhlmnaaGreatDoorFoldH
import Derived.Test.YtidbgfmknhlmnaaGreatDoorFieldsC
namespace Go.Proofs.YtidbgfmknhlmnaaGreatDoor
open Go.RowKit Go.Shelf Go.Sort
attribute [local go_sem] Oper.semAt_some

theorem wp_as9 {P : Program} {c : Code} {Q : Exit → Act → World → Prop} {a : Act} {w : World} (Φ : World → Prop) (hΦ : Φ w) (h : ∀ W, Φ W → c.wp P Q a W) : c.wp P Q a w := h w hΦ
theorem rls_t : SliceT Tryz.prog 35 39 3 48 := SliceT.mk' (z := .agg #[.int .i32 0, .string ⟨#[]⟩, .slice none 0 0]) Tryz.underlying35 (by kernel_rfl) rfl (by decide)
/-- The reference's foldings, in memory. -/
structure RefIn (D : Nat → Prop) (w : World) (fb : Nat) (hs : List FH) : Prop where
  own : D fb
  ls : ∃ A c, w.cell? ⟨fb, 0, none⟩ = some (.slice A hs.length c) ∧ Rd D w 3 FH.cs A hs
  rows : ∀ h ∈ hs, Rd D w 1 csI h.A (natI h.x.row)
  good : GoodL (hs.map FH.x)
theorem RefIn.keep {D : Nat → Prop} {w w' : World} {fb : Nat} {hs : List FH} (h : RefIn D w fb hs) (hA : Agree D w w') : RefIn D w' fb hs := by
  obtain ⟨A, c, h1, h2⟩ := h.ls
  exact ⟨h.own, ⟨A, c, (hA.cell (p := ⟨fb, 0, none⟩) h.own).trans h1, h2.keep hA⟩, fun x hx => (h.rows x hx).keep hA, h.good⟩
theorem RefIn.mod {D C : Nat → Prop} {w w' : World} {fb : Nat} {hs : List FH} (h : RefIn D w fb hs) (hm : Mod C w w') (hd : ∀ b, D b → b < w.heap.size ∧ ¬ C b) : RefIn D w' fb hs := h.keep (hm.agree hd)
theorem RefIn.mono {D D' : Nat → Prop} {w : World} {fb : Nat} {hs : List FH} (h : RefIn D w fb hs) (hd : ∀ b, D b → D' b) : RefIn D' w fb hs := by
  obtain ⟨A, c, h1, h2⟩ := h.ls
  exact ⟨hd _ h.own, ⟨A, c, h1, h2.mono hd⟩, fun x hx => (h.rows x hx).mono hd, h.good⟩
def GReadV (w w' : World) (e : Ending) : (List FL) ⊕ Nat → Prop
  | .inl ls => ∃ (fb : Nat) (hs : List FH), e = .returned (.tuple #[ptrV fb, .int .i64 0, .int .i64 0]) ∧ hs.map FH.x = ls ∧ RefIn (fun b => w.heap.size ≤ b ∧ b < w'.heap.size) w' fb hs
  | .inr n => e = .returned (.tuple #[.pointer none, .int .i64 n, .int .i64 6])
set_option maxRecDepth 100000 in
set_option maxHeartbeats 8000000 in
theorem gread_any (l : Bs) (w : World) (hl : l.length ≤ 1000000) : Calls Tryz.prog 18 #[.string ⟨l.toArray⟩] w fun e w' => GReadV w w' e (foldT l) ∧ Mod (fun _ => False) w w' := by
  have hlen : decide (8388608 < (l.length : Int)) = false := by simp; omega
  have HLn := Lib.hid (fun X => rlines_any l X hl)
  have HFl := Lib.hid (linesT_el l)
  obtain ⟨m, hm⟩ : ∃ m, m = (linesT l).length := ⟨_, rfl⟩
  have hml : m ≤ 1000001 := by rw [hm]; unfold linesT; have := linesL_len 0 (splitC 10 l); have := splitC_len 10 l; omega
  rw [← hm] at HLn
  have HM := Lib.hid hm
  clear hm
  go_enter Tryz.func18, Tryz.ntmps18
  go_wp2_with (first
    | (go_at_call 31
       (with_reducible refine (HLn.out _).mono ?_)
       rintro e w1 ⟨A1, c1, ws, rfl, hws, hls, hm1⟩)
    | fail)
  obtain ⟨B, hB⟩ : ∃ B, B = w.heap.size := ⟨_, rfl⟩
  have hb1 : w1.heap[w.heap.size]? = some (.cells #[.slice none 0 0] 37 (0, 0)) := hp_mod (by (repeat' (first | exact hp_new _ _ | exact hp_at _ _ (by simp; done) | refine hp_alloc ?_ _ | refine hp_drew ?_ | refine hp_drewN ?_ _ | apply hp_set | refine hp_far ?_ (by first | (simp; omega) | (simp; done)) _))) hm1 id
  have hM1 : Mod (fun _ => False) w w1 := Mod.trans' (by (repeat' (first | exact Mod.refl _ _ | assumption | refine Mod.alloc ?_ _ | refine Mod.drew ?_ | refine Mod.drewN ?_ _ | refine Mod.setCell ?_ (by first | exact Or.inl rfl | (right; simp; done) | (right; simp; omega) | (left; simp; done)) _))) hm1
  have hs1 := hm1.size
  simp only [World.size_alloc] at hs1 hls
  rw [← hB] at hb1 hs1 hls ⊢
  have HB := Lib.hid hB
  have HM1 := Lib.hid hM1
  have HLs := Lib.hid hls
  have HWs := Lib.hid hws
  have hwl : ws.length = m := by rw [HM.out, ← hws, List.length_map]
  have HWl := Lib.hid hwl
  clear hB hm1 hls hws hM1 hwl
  go_loopw [7] (fun i wr => ∃ (k : Nat) (hs : List FH) (v : Value), k ≤ m ∧ i = .int .i64 k ∧ wr.heap[B]? = some (.cells #[v] 37 (0, 0)) ∧ OwnS w1.heap.size 39 3 FH.cs wr v hs ∧
      (∀ h ∈ hs, Rd (fun b => w1.heap.size ≤ b ∧ b < wr.heap.size ∧ v.ownBlock ≠ some b) wr 1 csI h.A (natI h.x.row)) ∧ readL [] ((linesT l).take k) = .inl (hs.map FH.x) ∧ Mod (fun b => b = B) w1 wr) (fun i _ => m - (intOf i).toNat)
  case atStart => exact ⟨0, [], _, Nat.zero_le _, rfl, hb1, OwnS.nil _ _ _ _ _, fun h hh => by simp at hh, rfl, Mod.refl _ _⟩
  case round =>
    obtain ⟨k, hs, v, hk, rfl, hb, hown, hrows, hrd, hmw⟩ := hrel
    obtain ⟨Av, cv, rfl, hrv, hfv, hlv⟩ := hown.rd FH.cs_len
    have hql : hs.length ≤ k := by
      have h1 := readL_len _ _ _ hrd
      rw [List.length_map, List.length_take] at h1
      simp only [List.length_nil] at h1
      omega
    obtain ⟨q, hq⟩ : ∃ q, q = hs.length := ⟨_, rfl⟩
    have hgood : GoodL (hs.map FH.x) := GoodL.nil.read hrd
    rw [← hq] at hb hown hrv hfv hrows hql
    have HQn := Lib.hid hq
    have HBk := Lib.hid hb
    have HO := Lib.hid hown
    have HRv := Lib.hid hrv
    have HFv := Lib.hid hfv
    have HGd := Lib.hid hgood
    have HR := Lib.hid hrows
    have HRd := Lib.hid hrd
    have HMw := Lib.hid hmw
    have hsz := hmw.size
    clear hb1 hb hown hrows hrd hmw hrv hfv hlv hq hgood
    by_cases hlt : k < m
    · have hkw : k < ws.length := by rw [HWl.out]; exact hlt
      obtain ⟨y, hy⟩ : ∃ y, y = ws[k] := ⟨_, rfl⟩
      have hx : (linesT l)[k]? = some y.pr := by rw [← HWs.out, List.getElem?_map, List.getElem?_eq_getElem hkw, hy]; rfl
      have hls := HLs.out.keep (HMw.out.agree (D := fun b => B + 1 ≤ b ∧ b < w1.heap.size) fun b hb => ⟨hb.2, by have := hb.1; omega⟩)
      obtain ⟨bl, ol, rfl, hbl, hcell⟩ := hls.1 (by omega)
      have d0 : wr.cell? ⟨bl, ol + k * 2, none⟩ = some (.int .i64 (y.N : Int)) := by rw [hy]; exact hcell k hkw 0 _ rfl
      have d1 : wr.cell? ⟨bl, ol + k * 2 + 1, none⟩ = some (.slice y.A y.F.length y.c) := by rw [hy]; exact hcell k hkw 1 _ rfl
      have hF := hls.2 y (by rw [hy]; exact List.getElem_mem _)
      have hFl := HFl.out _ (List.mem_of_getElem? hx)
      obtain ⟨N, A, c, F⟩ := y
      simp only [Ln.pr] at d0 d1 hF hFl hx
      have HX := Lib.hid hx
      have HF := Lib.hid hF
      have HFL := Lib.hid hFl
      clear hy hx hls hcell hF hFl
      have HBad := Lib.hid (show putL (hs.map FH.x) F = none → foldT l = .inr N from fun h => read_stop HRd.out HX.out h)
      by_cases h3 : F.length < 3
      · have HG := Lib.hid (HBad.out (by unfold putL; rw [lineFL_short h3]))
        have MF := Lib.hid (show Mod (fun _ => False) w (wr.alloc (.cells #[.int .i32 0, .string ⟨#[]⟩, .slice none 0 0] 39)) from (HM1.out.trans HMw.out fun b hb => .inr (by have := HB.out; omega)).alloc _)
        obtain ⟨nF, hnF⟩ : ∃ nF, nF = F.length := ⟨_, rfl⟩
        rw [← hnF] at d1 h3
        have hn3d : decide ((3 : Int) ≤ (nF : Int)) = false := by simp; omega
        have hbl1 : bl < wr.heap.size := by omega
        clear hnF
        go_wp2
        go_quiet (fail)
        go_wp2
        go_quiet (fail)
        go_wp2
        refine bodyPost_ret (v := .tuple #[.pointer none, .int .i64 (N : Int), .int .i64 6]) (by simp [results, Tryz.results18, go_sem]) rfl ?_
        rw [HG.out]
        exact ⟨rfl, by (repeat refine Mod.drewN ?_ _); exact MF.out⟩
      · obtain ⟨f0, f1, f2, ft, rfl⟩ : ∃ f0 f1 f2 ft, F = f0 :: f1 :: f2 :: ft := by
          match F, h3 with
          | [], h => exact absurd (by simp) h
          | [_], h => exact absurd (by simp) h
          | [_, _], h => exact absurd (by simp) h
          | a :: b :: c :: t, _ => exact ⟨a, b, c, t, rfl⟩
        obtain ⟨bf, off, rfl, hbf, hcf⟩ := HF.out (by simp)
        have e0 : wr.cell? ⟨bf, off, none⟩ = some (.string ⟨f0.toArray⟩) := by have := hcf 0 (by simp) 0 _ rfl; simpa using this
        have e1 : wr.cell? ⟨bf, off + 1, none⟩ = some (.string ⟨f1.toArray⟩) := by have := hcf 1 (by simp) 0 _ rfl; simpa using this
        have e2 : wr.cell? ⟨bf, off + 2, none⟩ = some (.string ⟨f2.toArray⟩) := by have := hcf 2 (by simp) 0 _ rfl; simpa using this
        have HC := Lib.hid (fun X => rcode_any f0 X (by have := HFL.out f0 (by simp); omega))
        have HRow := Lib.hid (fun X => rrow_any f2 X (by have := HFL.out f2 (by simp); omega))
        obtain ⟨nF, hnF⟩ : ∃ nF, nF = (f0 :: f1 :: f2 :: ft).length := ⟨_, rfl⟩
        have hn3 : 3 ≤ nF := by rw [hnF]; simp
        rw [← hnF] at d1
        have hn3d : decide (3 ≤ nF) = true := by simp [hn3]
        have hbl1 : bl < wr.heap.size := by omega
        have hbf1 : bf < wr.heap.size := by omega
        unfold codeV at HC
        clear hcf hnF h3
        obtain ⟨oc, hoc⟩ : ∃ oc, oc = codeOf f0 := ⟨_, rfl⟩
        obtain ⟨orw, horw⟩ : ∃ orw, orw = rowOf f2 := ⟨_, rfl⟩
        rw [← hoc] at HC
        rw [← horw] at HRow
        have HOC := Lib.hid hoc
        have HOR := Lib.hid horw
        obtain ⟨rc, hrc⟩ : ∃ rc, rc = oc.getD 0 := ⟨_, rfl⟩
        obtain ⟨gd, hgd⟩ : ∃ gd, gd = oc.isSome := ⟨_, rfl⟩
        rw [← hrc, ← hgd] at HC
        clear hoc horw
        have HPut := Lib.hid (show putL (hs.map FH.x) (f0 :: f1 :: f2 :: ft) = if oc.isSome && orw.isSome && mayL (hs.map FH.x) ⟨oc.getD 0, f1, orw.getD []⟩ then some (hs.map FH.x ++ [⟨oc.getD 0, f1, orw.getD []⟩]) else none by
          unfold putL
          rw [HOC.out, HOR.out]
          cases h0 : codeOf f0 with
          | none => simp [lineFL, h0]
          | some r =>
            cases h2 : rowOf f2 with
            | none => simp [lineFL, h0, h2]
            | some row => simp [lineFL, h0, h2])
        rw [← hrc, ← hgd] at HPut
        clear hrc hgd
        cases gd
        · have HG := Lib.hid (HBad.out (by rw [HPut.out]; rfl))
          go_wp2_with (first
            | (go_at_call 32; (with_reducible refine (HC.out _).mono ?_); rintro e w2 ⟨rfl, rfl⟩)
            | (go_at_call 33
               (with_reducible refine (HRow.out _).mono ?_)
               rintro e w4 ⟨v, rfl, hv, hm4⟩
               obtain ⟨Ar, cr, rfl, hRr⟩ := rowV_open hv
               obtain ⟨row, hrow⟩ : ∃ row, row = orw.getD [] := ⟨_, rfl⟩
               obtain ⟨is, his⟩ : ∃ is, is = orw.isSome := ⟨_, rfl⟩
               obtain ⟨n, hn⟩ : ∃ n, n = row.length := ⟨_, rfl⟩
               rw [← hrow] at HPut hRr ⊢
               rw [← his] at HPut ⊢
               rw [← hn]
               have HNr := Lib.hid hn
               have M4 : Mod (fun _ => False) wr w4 := Mod.trans' (by (repeat' (first | exact Mod.refl _ _ | assumption | refine Mod.alloc ?_ _ | refine Mod.drew ?_ | refine Mod.drewN ?_ _ | refine Mod.setCell ?_ (by first | exact Or.inl rfl | (right; simp; done) | (right; simp; omega) | (left; simp; done)) _))) hm4
               have X4 : w4.heap[wr.heap.size]? = some (.cells #[.int .i32 (rc : Int), .string ⟨#[]⟩, .slice none 0 0] 39 (0, 0)) := hp_mod (hp_new _ _) hm4 id
               have x0 := hp_cell X4 0
               have x1 := hp_cell X4 1
               have x2 := hp_cell X4 2
               have xf1 := hp_free X4 1
               have xf2 := hp_free X4 2
               have d04 := cell_mod d0 M4 id
               have d14 := cell_mod d1 M4 id
               have e14 := cell_mod e1 M4 id
               have HX4 := Lib.hid X4
               have HM4 := Lib.hid M4
               have HRr := Lib.hid (hRr.mono (D' := fun b => wr.heap.size + 1 ≤ b ∧ b < w4.heap.size) fun b hb => ⟨by have := hb.1; simpa using this, hb.2⟩)
               have hXl := hp_lt X4
               have hrl : n ≤ 1000000 := by
                 rw [hn, hrow, HOR.out]
                 have h1 := rowOf_len f2
                 have h2 := HFL.out f2 (by simp)
                 omega
               have HRowE := Lib.hid hrow
               have HIs := Lib.hid his
               clear hm4 X4 M4 hRr hn hrow his hv)
            | fail)
          obtain ⟨X, hX⟩ : ∃ X, X = wr.heap.size := ⟨_, rfl⟩
          refine wp_as9 (fun W => W.heap[wr.heap.size]? = some (.cells #[.int .i32 (rc : Int), .string ⟨f1.toArray⟩, .slice Ar n cr] 39 (0, 0)) ∧ Mod (fun b => b = wr.heap.size) w4 W) ⟨hp_eq (hp_set (hp_set HX4.out 2 _) 1 _) (by simp), ((Mod.refl (fun b => b = wr.heap.size) _).setCell (p := ⟨wr.heap.size, 2, none⟩) (.inl rfl) _).setCell (p := ⟨wr.heap.size, 1, none⟩) (.inl rfl) _⟩ ?_
          rintro W5 ⟨X5, M5⟩
          have HX5 := Lib.hid X5
          have HM45 := Lib.hid M5
          have HM5 := Lib.hid (show Mod (fun _ => False) wr W5 from HM4.out.trans M5 fun b hb => .inr (by omega))
          have d0 := cell_mod d0 HM5.out id
          have MF := Lib.hid (show Mod (fun _ => False) w W5 from (HM1.out.trans HMw.out fun b hb => .inr (by have := HB.out; omega)).trans' HM5.out)
          clear x0 x1 x2 xf1 xf2 d04 d14 e14 X5 M5 d1 e0 e1 e2 hX
          go_quiet (fail)
          go_wp2
          go_quiet (fail)
          go_wp2
          refine bodyPost_ret (v := .tuple #[.pointer none, .int .i64 (N : Int), .int .i64 6]) (by simp [results, Tryz.results18, go_sem]) rfl ?_
          rw [HG.out]
          exact ⟨rfl, by (repeat refine Mod.drewN ?_ _); exact MF.out⟩
        · go_wp2_with (first
            | (go_at_call 32; (with_reducible refine (HC.out _).mono ?_); rintro e w2 ⟨rfl, rfl⟩)
            | (go_at_call 33
               (with_reducible refine (HRow.out _).mono ?_)
               rintro e w4 ⟨v, rfl, hv, hm4⟩
               obtain ⟨Ar, cr, rfl, hRr⟩ := rowV_open hv
               obtain ⟨row, hrow⟩ : ∃ row, row = orw.getD [] := ⟨_, rfl⟩
               obtain ⟨is, his⟩ : ∃ is, is = orw.isSome := ⟨_, rfl⟩
               obtain ⟨n, hn⟩ : ∃ n, n = row.length := ⟨_, rfl⟩
               rw [← hrow] at HPut hRr ⊢
               rw [← his] at HPut ⊢
               rw [← hn]
               have HNr := Lib.hid hn
               have M4 : Mod (fun _ => False) wr w4 := Mod.trans' (by (repeat' (first | exact Mod.refl _ _ | assumption | refine Mod.alloc ?_ _ | refine Mod.drew ?_ | refine Mod.drewN ?_ _ | refine Mod.setCell ?_ (by first | exact Or.inl rfl | (right; simp; done) | (right; simp; omega) | (left; simp; done)) _))) hm4
               have X4 : w4.heap[wr.heap.size]? = some (.cells #[.int .i32 (rc : Int), .string ⟨#[]⟩, .slice none 0 0] 39 (0, 0)) := hp_mod (hp_new _ _) hm4 id
               have x0 := hp_cell X4 0
               have x1 := hp_cell X4 1
               have x2 := hp_cell X4 2
               have xf1 := hp_free X4 1
               have xf2 := hp_free X4 2
               have d04 := cell_mod d0 M4 id
               have d14 := cell_mod d1 M4 id
               have e14 := cell_mod e1 M4 id
               have HX4 := Lib.hid X4
               have HM4 := Lib.hid M4
               have HRr := Lib.hid (hRr.mono (D' := fun b => wr.heap.size + 1 ≤ b ∧ b < w4.heap.size) fun b hb => ⟨by have := hb.1; simpa using this, hb.2⟩)
               have hXl := hp_lt X4
               have hrl : n ≤ 1000000 := by
                 rw [hn, hrow, HOR.out]
                 have h1 := rowOf_len f2
                 have h2 := HFL.out f2 (by simp)
                 omega
               have HRowE := Lib.hid hrow
               have HIs := Lib.hid his
               clear hm4 X4 M4 hRr hn hrow his hv)
            | fail)
          cases is
          · have HG := Lib.hid (HBad.out (by rw [HPut.out]; rfl))
            obtain ⟨X, hX⟩ : ∃ X, X = wr.heap.size := ⟨_, rfl⟩
            refine wp_as9 (fun W => W.heap[wr.heap.size]? = some (.cells #[.int .i32 (rc : Int), .string ⟨f1.toArray⟩, .slice Ar n cr] 39 (0, 0)) ∧ Mod (fun b => b = wr.heap.size) w4 W) ⟨hp_eq (hp_set (hp_set HX4.out 2 _) 1 _) (by simp), ((Mod.refl (fun b => b = wr.heap.size) _).setCell (p := ⟨wr.heap.size, 2, none⟩) (.inl rfl) _).setCell (p := ⟨wr.heap.size, 1, none⟩) (.inl rfl) _⟩ ?_
            rintro W5 ⟨X5, M5⟩
            have HX5 := Lib.hid X5
            have HM45 := Lib.hid M5
            have HM5 := Lib.hid (show Mod (fun _ => False) wr W5 from HM4.out.trans M5 fun b hb => .inr (by omega))
            have d0 := cell_mod d0 HM5.out id
            have MF := Lib.hid (show Mod (fun _ => False) w W5 from (HM1.out.trans HMw.out fun b hb => .inr (by have := HB.out; omega)).trans' HM5.out)
            clear x0 x1 x2 xf1 xf2 d04 d14 e14 X5 M5 d1 e0 e1 e2 hX
            go_quiet (fail)
            go_wp2
            go_quiet (fail)
            go_wp2
            refine bodyPost_ret (v := .tuple #[.pointer none, .int .i64 (N : Int), .int .i64 6]) (by simp [results, Tryz.results18, go_sem]) rfl ?_
            rw [HG.out]
            exact ⟨rfl, by (repeat refine Mod.drewN ?_ _); exact MF.out⟩
          · obtain ⟨X, hX⟩ : ∃ X, X = wr.heap.size := ⟨_, rfl⟩
            refine wp_as9 (fun W => W.heap[wr.heap.size]? = some (.cells #[.int .i32 (rc : Int), .string ⟨f1.toArray⟩, .slice Ar n cr] 39 (0, 0)) ∧ Mod (fun b => b = wr.heap.size) w4 W) ⟨hp_eq (hp_set (hp_set HX4.out 2 _) 1 _) (by simp), ((Mod.refl (fun b => b = wr.heap.size) _).setCell (p := ⟨wr.heap.size, 2, none⟩) (.inl rfl) _).setCell (p := ⟨wr.heap.size, 1, none⟩) (.inl rfl) _⟩ ?_
            rintro W5 ⟨X5, M5⟩
            have HX5 := Lib.hid X5
            have HM45 := Lib.hid M5
            have HM5 := Lib.hid (show Mod (fun _ => False) wr W5 from HM4.out.trans M5 fun b hb => .inr (by omega))
            have d0 := cell_mod d0 HM5.out id
            have MF := Lib.hid (show Mod (fun _ => False) w W5 from (HM1.out.trans HMw.out fun b hb => .inr (by have := HB.out; omega)).trans' HM5.out)
            clear x0 x1 x2 xf1 xf2 d04 d14 e14 X5 M5 d1 e0 e1 e2 hX
            have HX5' := HX5.out
            have cX0 := cell_regrown (hp_cell HX5' 0)
            have cX1 := cell_regrown (hp_cell HX5' 1)
            have cX2 := cell_regrown (hp_cell HX5' 2)
            have cB := cell_regrown (hp_cell (hp_mod HBk.out HM5.out id) 0)
            obtain ⟨z, hz⟩ : ∃ z, z = mayL (hs.map FH.x) ⟨rc, f1, row⟩ := ⟨_, rfl⟩
            have HMay := Lib.hid (show ∀ X, Mod (fun _ => False) W5 X → Calls Tryz.prog 34 #[.slice Av q cv, .agg #[.int .i32 (rc : Int), .string ⟨f1.toArray⟩, .slice Ar n cr]] X fun e w' => e = .returned (.bool z) ∧ Mod (fun _ => False) X w' from fun X hX => by
              have h1 := (HRv.out.mod (HM5.out.trans' hX) fun b hb => ⟨(HFv.out b hb).2, id⟩).mono (D' := fun b => b < X.heap.size) fun b hb => by
                have := (HFv.out b hb).2; have := HM5.out.size; have := hX.size; omega
              have h2 := (HRr.out.mod (HM45.out.trans hX fun _ h => h.elim) fun b hb => ⟨hb.2, by have := hb.1; omega⟩).mono (D' := fun b => b < X.heap.size) fun b hb => by
                have := hb.2; have := HM45.out.size; have := hX.size; omega
              have h3 := gmay_any _ Av cv hs rc f1 Ar cr row X h1 h2 (fun b hb => hb) HGd.out.alone (by rw [← HQn.out]; omega) (by rw [← HNr.out]; exact hrl)
              rw [← HQn.out, ← HNr.out, ← hz] at h3
              exact h3)
            rw [← hz] at HPut
            have HZ := Lib.hid hz
            clear hz HX5'
            cases z
            · have HG := Lib.hid (HBad.out (by rw [HPut.out]; rfl))
              refine wp_region_quiet_below (by kernel_rfl) (by kernel_rfl) ?_
              repeat (go_big_quiet_step ((first | (go_at_call 34; exact regM fun X hX => HMay.out X hX) | fail)))
              refine wpQuiet_nil ?_
              intro W1 hW1
              have HQ := mod_of_regrown hW1
              clear hW1
              have d0 := cell_mod d0 HQ id
              have MF := Lib.hid (MF.out.trans' HQ)
              clear cX0 cX1 cX2 cB HQ
              go_wp2
              go_quiet (fail)
              go_wp2
              refine bodyPost_ret (v := .tuple #[.pointer none, .int .i64 (N : Int), .int .i64 6]) (by simp [results, Tryz.results18, go_sem]) rfl ?_
              rw [HG.out]
              exact ⟨rfl, by (repeat refine Mod.drewN ?_ _); exact MF.out⟩
            · skip
              refine wp_region_quiet_below (by kernel_rfl) (by kernel_rfl) ?_
              repeat (go_big_quiet_step ((first | (go_at_call 34; exact regM fun X hX => HMay.out X hX) | fail)))
              refine wpQuiet_nil ?_
              intro W1 hW1
              have HQ := mod_of_regrown hW1
              clear hW1
              have X6 := hp_mod HX5.out HQ id
              have B6 := hp_mod (hp_mod HBk.out HM5.out id) HQ id
              have HM6 := Lib.hid (HM5.out.trans' HQ)
              have HQ5 := Lib.hid (HM45.out.trans HQ fun _ h => h.elim)
              have x0 := hp_cell X6 0
              have x1 := hp_cell X6 1
              have x2 := hp_cell X6 2
              have b0 := hp_cell B6 0
              have bf0 := hp_free B6 0
              have HX6 := Lib.hid X6
              have HB6 := Lib.hid B6
              have HO6 := Lib.hid (HO.out.mod HM6.out fun _ _ => id)
              have hxl := hp_lt X6
              have hbl6 := hp_lt B6
              clear cX0 cX1 cX2 cB HQ d0 X6 B6
              go_wp2
              go_region_law ((
                refine step_app (base := w1.heap.size) (xs := hs) (ys := [⟨Ar, cr, ⟨rc, f1, row⟩⟩]) (D := fun _ => True) (v := .slice Av q cv) rfl (.tmp 89) (.tmp 91) rfl rls_t FH.cs_len FH.cs_one rfl (HO6.out.mod (C := fun _ => False) (by (repeat' (first | exact Mod.refl _ _ | assumption | refine Mod.alloc ?_ _ | refine Mod.drew ?_ | refine Mod.drewN ?_ _ | refine Mod.setCell ?_ (by first | exact Or.inl rfl | (right; simp; done) | (right; simp; omega) | (left; simp; done)) _))) (fun b _ => id)) 1 rfl rfl (rd_oneT (g := W1.heap.size) (c := #[.int .i32 (rc : Int), .string ⟨f1.toArray⟩, .slice Ar n cr]) (t := 39) (fr := (0, 0)) (by (repeat' (first | exact hp_new _ _ | exact hp_at _ _ (by simp; done) | refine hp_alloc ?_ _ | refine hp_drew ?_ | refine hp_drewN ?_ _ | apply hp_set | refine hp_far ?_ (by first | (simp; omega) | (simp; done)) _))) (by rw [HNr.out]; rfl)) ?_ ?_ ?_ ?_
                · rw [← HQn.out]; simp [maxLen]; omega
                · rw [← HQn.out]; simp; omega
                · have := HM6.out.size; simp; omega
                intro v' w' hown' hm' hat'
                obtain ⟨A5, c5, hv5, hr5, hf5, -⟩ := OwnS.rd hown' FH.cs_len
                obtain ⟨m5, hl5⟩ : ∃ m5, m5 = (hs ++ [(⟨Ar, cr, ⟨rc, f1, row⟩⟩ : FH)]).length := ⟨_, rfl⟩
                rw [← hl5] at hv5
                subst hv5
                clear hl5 hr5
                have hb2 : w'.heap[B]? = some (.cells #[.slice Av q cv] 37 (0, 0)) := hp_mod (by (repeat' (first | exact HB6.out | exact hp_new _ _ | refine hp_alloc ?_ _ | refine hp_drew ?_ | refine hp_drewN ?_ _ | apply hp_set | refine hp_far ?_ (by first | (simp; omega) | (simp; done)) _))) hm' (fun h => by have := (HFv.out _ h).1; omega)
                have z2 := hp_cell hb2 0
                have zf2 := hp_free hb2 0
                have HB2 := Lib.hid hb2
                have HM2 := Lib.hid (show Mod (fun b => (Value.slice Av q cv).ownBlock = some b) W1 w' from Mod.trans' (by (repeat' (first | exact Mod.refl _ _ | assumption | refine Mod.alloc ?_ _ | refine Mod.drew ?_ | refine Mod.drewN ?_ _ | refine Mod.setCell ?_ (by first | exact Or.inl rfl | (right; simp; done) | (right; simp; omega) | (left; simp; done)) _))) hm')
                clear hb2 hm'))
              all_goals
                have hs4 := HM4.out.size
                have hs5 := HM45.out.size
                have hs6 := HM6.out.size
                have hs7 := HM2.out.size
                have MT : Mod (fun b => b = B ∨ (Value.slice Av q cv).ownBlock = some b) wr w' := ((HM6.out.mono (C' := fun b => b = B ∨ (Value.slice Av q cv).ownBlock = some b) fun _ _ h => h.elim)).trans HM2.out fun b hb => .inl (.inr hb)
                have HMT := Lib.hid (MT.setCell (p := ⟨B, 0, none⟩) (.inl (.inl rfl)) (.slice A5 m5 c5))
                have HF5 := Lib.hid hf5
                have HAt := Lib.hid hat'
                have HOwn := Lib.hid hown'
                have HEnd := Lib.hid (show readL [] ((linesT l).take (k + 1)) = .inl ((hs ++ [(⟨Ar, cr, ⟨rc, f1, row⟩⟩ : FH)]).map FH.x) from by
                  rw [List.map_append]
                  exact read_step HRd.out HX.out (by rw [HPut.out]; rfl))
                clear MT hf5 hat' hown'
                go_wp2
                refine ⟨⟨k + 1, hs ++ [⟨Ar, cr, ⟨rc, f1, row⟩⟩], .slice A5 m5 c5, by omega, by go_num, hp_eq (hp_set HB2.out 0 _) rfl, ?_, ?_, HEnd.out, ?_⟩, by simp only [intOf]; omega⟩
                · exact HOwn.out.keep ⟨rfl, rfl, rfl, by simp [World.setCell], fun b hb => Below.heap_setCell _ _ _ _ (by have := (HF5.out b hb).1; simp; omega)⟩
                · intro h hh
                  rcases List.mem_append.1 hh with hh | hh
                  · refine ((HR.out h hh).mod HMT.out fun b hb => ⟨hb.2.1, fun hc => ?_⟩).mono fun b hb => ⟨hb.1, Nat.lt_of_lt_of_le hb.2.1 HMT.out.size, fun hc => ?_⟩
                    · rcases hc with rfl | hc
                      · have := hb.1; omega
                      · exact hb.2.2 hc
                    · rcases HAt.out with h1 | h1
                      · exact hb.2.2 (h1.symm.trans hc)
                      · rw [h1] at hc; injection hc with hc; have := hb.2.1; simp at hc; omega
                  · simp at hh; subst hh
                    have hs8 := HQ5.out.size
                    have hlt6 : ∀ b, wr.heap.size + 1 ≤ b ∧ b < w4.heap.size → ¬ (Value.slice Av q cv).ownBlock = some b := fun b hb hc => by
                      have := (HFv.out b hc).2; have := hb.1; omega
                    have hr6 := ((HRr.out.mod HQ5.out fun b hb => ⟨hb.2, by have := hb.1; omega⟩).mod HM2.out fun b hb => ⟨Nat.lt_of_lt_of_le hb.2 hs8, hlt6 b hb⟩).mod ((Mod.refl (fun b => b = B) w').setCell (p := ⟨B, 0, none⟩) (.inl rfl) (.slice A5 m5 c5)) fun b hb => ⟨by have := hb.2; omega, by have := hb.1; omega⟩
                    refine hr6.mono fun b hb => ⟨by have := hb.1; omega, by have := hb.2; simp [World.setCell]; omega, fun hc => ?_⟩
                    rcases HAt.out with h1 | h1
                    · exact hlt6 b hb (h1.symm.trans hc)
                    · rw [h1] at hc; injection hc with hc; have := hb.2; simp at hc; omega
                · exact (HMw.out.trans HMT.out fun b hb => by
                    rcases hb with rfl | hb
                    · exact .inl rfl
                    · right; exact (HFv.out b hb).1)
    · obtain rfl : k = m := by omega
      have HE := Lib.hid (show foldT l = .inl (hs.map FH.x) by
        have h := HRd.out
        rw [HM.out, List.take_length] at h
        exact h)
      have hBl := hp_lt HBk.out
      have c0 := hp_cell HBk.out 0
      go_wp2
      refine bodyPost_ret (v := .tuple #[ptrV B, .int .i64 0, .int .i64 0]) (by simp [results, Tryz.results18, go_sem]) rfl ?_
      rw [HE.out]
      refine ⟨⟨B, hs, rfl, rfl, ⟨⟨by have := HB.out; omega, hBl⟩, ⟨Av, cv, ?_, ?_⟩, fun h hh => (HR.out h hh).mono fun b hb => ⟨by have := HB.out; have := hb.1; omega, hb.2.1⟩, HGd.out⟩⟩, HM1.out.trans HMw.out fun b hb => .inr (by have := HB.out; omega)⟩
      · rw [← HQn.out]; exact hp_cell HBk.out 0
      · exact HRv.out.mono fun b hb => ⟨by have := (HFv.out b hb).1; have := HB.out; omega, (HFv.out b hb).2⟩
end Go.Proofs.YtidbgfmknhlmnaaGreatDoor
/-
  The reference's foldings asked.
-/
namespace Go.Proofs.YtidbgfmknhlmnaaGreatDoor
open Go.RowKit Go.Shelf Go.Sort
attribute [local go_sem] Oper.semAt_some

def GOfV (w w' : World) (e : Ending) : (List FL) ⊕ Nat → Prop
  | .inl ls => ∃ (fb : Nat) (hs : List FH), e = .returned (.tuple #[ptrV fb, .int .i64 0]) ∧ hs.map FH.x = ls ∧ RefIn (fun b => w.heap.size ≤ b ∧ b < w'.heap.size) w' fb hs
  | .inr _ => e = .returned (.tuple #[.pointer none, .int .i64 6])
theorem gfof_any (l : Bs) (w : World) (hl : l.length ≤ 1000000) : Calls Tryz.prog 10 #[.string ⟨l.toArray⟩] w fun e w' => GOfV w w' e (foldT l) ∧ Mod (fun _ => False) w w' := by
  have H := Lib.hid (gread_any l w hl)
  obtain ⟨o, ho⟩ : ∃ o, o = foldT l := ⟨_, rfl⟩
  rw [← ho] at H ⊢
  clear ho
  cases o with
  | inl ls =>
    go_enter Tryz.func10, Tryz.ntmps10
    go_wp2_with (first
      | (go_at_call 18; (with_reducible refine H.out.mono ?_); rintro e w1 ⟨⟨fb, hs, rfl, hls, hR⟩, hm⟩; have HR := Lib.hid (And.intro hls hR); clear hls hR)
      | fail)
    refine bodyPost_ret (v := .tuple #[ptrV fb, .int .i64 0]) (by simp [results, Tryz.results10, go_sem]) rfl ?_
    exact ⟨⟨fb, hs, rfl, HR.out.1, HR.out.2⟩, hm⟩
  | inr n =>
    go_enter Tryz.func10, Tryz.ntmps10
    go_wp2_with (first
      | (go_at_call 18; (with_reducible refine H.out.mono ?_); rintro e w1 ⟨rfl, hm⟩)
      | fail)
    refine bodyPost_ret (v := .tuple #[.pointer none, .int .i64 6]) (by simp [results, Tryz.results10, go_sem]) rfl ?_
    exact ⟨rfl, hm⟩
section
variable {α : Type} {p : α → Bool} {l : List α} {k : Nat}
theorem find_next (h : (l.take k).find? p = none) (hk : k < l.length) (hp : p l[k] = false) : (l.take (k + 1)).find? p = none := by
  rw [List.take_succ_eq_append_getElem hk, List.find?_append, h]
  simp [hp]
theorem find_hit (h : (l.take k).find? p = none) (hk : k < l.length) (hp : p l[k] = true) : l.find? p = some l[k] := by
  have e : (l.take k ++ l.drop k).find? p = some l[k] := by
    rw [List.find?_append, h, Option.none_or, List.drop_eq_getElem_cons hk, List.find?_cons_of_pos hp]
  rwa [List.take_append_drop] at e
end
def cfP (r : Int) (x : FL) : Bool := decide ((x.R : Int) = r) && isCF x
def csP (r : Int) (x : FL) : Bool := decide ((x.R : Int) = r) && isCS x
set_option maxRecDepth 100000 in
set_option maxHeartbeats 8000000 in
theorem gfull_any (D : Nat → Prop) (fb : Nat) (hs : List FH) (r : Int) (w : World) (hF : RefIn D w fb hs) (hl : hs.length ≤ 1000001) :
    Calls Tryz.prog 14 #[ptrV fb, .int .i32 r] w fun e w' => ∃ A c, e = .returned (.slice A (fullL (hs.map FH.x) r).length c) ∧ Rd (fun b => D b ∨ (w.heap.size ≤ b ∧ b < w'.heap.size)) w' 1 csI A (fullL (hs.map FH.x) r) ∧ Mod (fun _ => False) w w' := by
  obtain ⟨A, c, c0, hA⟩ := hF.ls
  obtain ⟨m, hm⟩ : ∃ m, m = hs.length := ⟨_, rfl⟩
  rw [← hm] at hl c0
  obtain ⟨xs, hxs⟩ : ∃ xs, xs = fullL (hs.map FH.x) r := ⟨_, rfl⟩
  rw [← hxs]
  have HXs := Lib.hid (show (match (hs.map FH.x).find? (cfP r) with | some x => natI x.row | none => [r]) = xs by rw [hxs]; rfl)
  have HM := Lib.hid hm
  have HA := Lib.hid hA
  have HF := Lib.hid hF
  clear hm hA hxs hF
  go_enter Tryz.func14, Tryz.ntmps14
  go_wp2
  go_loopw [5] (fun i wr => ∃ k : Nat, k ≤ m ∧ i = .int .i64 k ∧ ((hs.map FH.x).take k).find? (cfP r) = none ∧ wr = w) (fun i _ => m - (intOf i).toNat)
  case atStart => exact ⟨0, Nat.zero_le _, rfl, rfl, rfl⟩
  case round =>
    obtain ⟨k, hk, rfl, hn, hwr⟩ := hrel
    subst hwr
    have HNo := Lib.hid hn
    clear hn
    by_cases hlt : k < m
    · have hkx : k < hs.length := by rw [← HM.out]; exact hlt
      have hkl : k < (hs.map FH.x).length := by rw [List.length_map]; exact hkx
      obtain ⟨bl, ol, rfl, hbl, hcell⟩ := HA.out (by omega)
      obtain ⟨y, hy⟩ : ∃ y, y = hs[k] := ⟨_, rfl⟩
      have d0 : wr.cell? ⟨bl, ol + k * 3, none⟩ = some (.int .i32 (y.x.R : Int)) := by rw [hy]; exact hcell k hkx 0 _ rfl
      have d1 : wr.cell? ⟨bl, ol + k * 3 + 1, none⟩ = some (.string ⟨y.x.S.toArray⟩) := by rw [hy]; exact hcell k hkx 1 _ rfl
      have d2 : wr.cell? ⟨bl, ol + k * 3 + 2, none⟩ = some (.slice y.A y.x.row.length y.c) := by rw [hy]; exact hcell k hkx 2 _ rfl
      have hym : y ∈ hs := by rw [hy]; exact List.getElem_mem _
      have hys := st_one (aloneL_st (HF.out.good.alone y.x (List.mem_map_of_mem hym)))
      have hl3 : (hs.map FH.x)[k] = y.x := by rw [List.getElem_map, hy]
      have HNext := Lib.hid (show cfP r y.x = false → ((hs.map FH.x).take (k + 1)).find? (cfP r) = none from fun h => find_next HNo.out hkl (by rw [hl3]; exact h))
      have HHit := Lib.hid (show cfP r y.x = true → natI y.x.row = xs from fun h => by
        rw [← HXs.out, find_hit HNo.out hkl (by rw [hl3]; exact h), hl3])
      have HRy := Lib.hid (HF.out.rows y hym)
      obtain ⟨yA, yc, ⟨yR, yS, yrow⟩⟩ := y
      simp only at d0 d1 d2 hys HNext HHit HRy
      obtain ⟨n, hn⟩ : ∃ n, n = yrow.length := ⟨_, rfl⟩
      rw [← hn] at d2
      have HN := Lib.hid hn
      clear hcell hy hym hl3 hkl hn
      by_cases hR : (yR : Int) = r
      · subst hR
        have HNext2 := Lib.hid (show isCF ⟨yR, yS, yrow⟩ = false → _ from fun h => HNext.out (by unfold cfP; rw [h]; simp))
        have HHit2 := Lib.hid (show isCF ⟨yR, yS, yrow⟩ = true → _ from fun h => HHit.out (by unfold cfP; rw [h]; simp))
        clear HNext HHit
        rcases hys with rfl | rfl | rfl | rfl
        · have HH := Lib.hid (HHit2.out (by simp only [isCF]; decide))
          go_wp2
          go_ret
          exact ⟨yA, yc, by rw [← HH.out, natI_len, ← HN.out]; rfl, by rw [← HH.out]; exact HRy.out.mono fun b hb => .inl hb, Mod.refl _ _⟩
        · have HH := Lib.hid (HHit2.out (by simp only [isCF]; decide))
          go_wp2
          go_ret
          exact ⟨yA, yc, by rw [← HH.out, natI_len, ← HN.out]; rfl, by rw [← HH.out]; exact HRy.out.mono fun b hb => .inl hb, Mod.refl _ _⟩
        · have HH := Lib.hid (HNext2.out (by simp only [isCF]; decide))
          go_wp2
          exact ⟨⟨k + 1, by omega, by go_num, HH.out, by first | rfl | trivial⟩, by simp only [intOf]; omega⟩
        · have HH := Lib.hid (HNext2.out (by simp only [isCF]; decide))
          go_wp2
          exact ⟨⟨k + 1, by omega, by go_num, HH.out, by first | rfl | trivial⟩, by simp only [intOf]; omega⟩
      · have hRe : ((yR : Int) == r) = false := by simp [hR]
        have HH := Lib.hid (HNext.out (by unfold cfP; simp [hR]))
        clear hys hR
        go_wp2
        exact ⟨⟨k + 1, by omega, by go_num, HH.out, by first | rfl | trivial⟩, by simp only [intOf]; omega⟩
    · obtain rfl : k = m := by omega
      have HE := Lib.hid (show xs = [r] by
        have h := HNo.out
        rw [List.take_of_length_le (by rw [List.length_map, HM.out]; exact Nat.le_refl _)] at h
        rw [← HXs.out, h])
      have hone : Rd (fun b => b = wr.heap.size) (wr.alloc (.cells #[.int .i32 r] 21)) 1 csI (some ⟨wr.heap.size, 0, none⟩) [r] := Rd.one (hp_new _ _) rfl
      have H1 := Lib.hid hone
      clear hone
      go_wp2
      go_ret
      exact ⟨some ⟨wr.heap.size, 0, none⟩, 1, by rw [HE.out]; rfl, by rw [HE.out]; exact H1.out.mono fun b hb => .inr ⟨by rw [hb]; exact Nat.le_refl _, by rw [hb]; simp⟩, by (repeat' (first | exact Mod.refl _ _ | assumption | refine Mod.alloc ?_ _ | refine Mod.drew ?_ | refine Mod.drewN ?_ _ | refine Mod.setCell ?_ (by first | exact Or.inl rfl | (right; simp; done) | (right; simp; omega) | (left; simp; done)) _))⟩
set_option maxRecDepth 100000 in
set_option maxHeartbeats 8000000 in
theorem gsimple_any (D : Nat → Prop) (fb : Nat) (hs : List FH) (r : Int) (w : World) (hF : RefIn D w fb hs) (hl : hs.length ≤ 1000001) :
    Calls Tryz.prog 23 #[ptrV fb, .int .i32 r] w fun e w' => e = .returned (.int .i32 (simpL (hs.map FH.x) r)) ∧ w' = w := by
  obtain ⟨A, c, c0, hA⟩ := hF.ls
  obtain ⟨m, hm⟩ : ∃ m, m = hs.length := ⟨_, rfl⟩
  rw [← hm] at hl c0
  obtain ⟨z, hz⟩ : ∃ z, z = simpL (hs.map FH.x) r := ⟨_, rfl⟩
  rw [← hz]
  have HZ := Lib.hid (show (match (hs.map FH.x).find? (csP r) with | some x => (natI x.row).headD 0 | none => r) = z by rw [hz]; rfl)
  have HM := Lib.hid hm
  have HA := Lib.hid hA
  have HF := Lib.hid hF
  clear hm hA hz hF
  go_enter Tryz.func23, Tryz.ntmps23
  go_wp2
  go_loopw [5] (fun i wr => ∃ k : Nat, k ≤ m ∧ i = .int .i64 k ∧ ((hs.map FH.x).take k).find? (csP r) = none ∧ wr = w) (fun i _ => m - (intOf i).toNat)
  case atStart => exact ⟨0, Nat.zero_le _, rfl, rfl, rfl⟩
  case round =>
    obtain ⟨k, hk, rfl, hn, hwr⟩ := hrel
    subst hwr
    have HNo := Lib.hid hn
    clear hn
    by_cases hlt : k < m
    · have hkx : k < hs.length := by rw [← HM.out]; exact hlt
      have hkl : k < (hs.map FH.x).length := by rw [List.length_map]; exact hkx
      obtain ⟨bl, ol, rfl, hbl, hcell⟩ := HA.out (by omega)
      obtain ⟨y, hy⟩ : ∃ y, y = hs[k] := ⟨_, rfl⟩
      have d0 : wr.cell? ⟨bl, ol + k * 3, none⟩ = some (.int .i32 (y.x.R : Int)) := by rw [hy]; exact hcell k hkx 0 _ rfl
      have d1 : wr.cell? ⟨bl, ol + k * 3 + 1, none⟩ = some (.string ⟨y.x.S.toArray⟩) := by rw [hy]; exact hcell k hkx 1 _ rfl
      have d2 : wr.cell? ⟨bl, ol + k * 3 + 2, none⟩ = some (.slice y.A y.x.row.length y.c) := by rw [hy]; exact hcell k hkx 2 _ rfl
      have hym : y ∈ hs := by rw [hy]; exact List.getElem_mem _
      have hal := HF.out.good.alone y.x (List.mem_map_of_mem hym)
      have hys := st_one (aloneL_st hal)
      have hln := aloneL_len hal
      have hl3 : (hs.map FH.x)[k] = y.x := by rw [List.getElem_map, hy]
      have HNext := Lib.hid (show csP r y.x = false → ((hs.map FH.x).take (k + 1)).find? (csP r) = none from fun h => find_next HNo.out hkl (by rw [hl3]; exact h))
      have HHit := Lib.hid (show csP r y.x = true → (natI y.x.row).headD 0 = z from fun h => by
        rw [← HZ.out, find_hit HNo.out hkl (by rw [hl3]; exact h), hl3])
      have hry := HF.out.rows y hym
      obtain ⟨yA, yc, ⟨yR, yS, yrow⟩⟩ := y
      simp only at d0 d1 d2 hys HNext HHit hry hln
      obtain ⟨bR, oR, rfl, -, qR⟩ := rdI hry (k := 0) (by rw [natI_len]; omega)
      obtain ⟨x0, hx0⟩ : ∃ x0, x0 = (natI yrow)[0]'(by rw [natI_len]; omega) := ⟨_, rfl⟩
      rw [← hx0, Nat.add_zero] at qR
      have hhd : (natI yrow).headD 0 = x0 := by
        rw [hx0]
        cases yrow with
        | nil => simp at hln
        | cons a t => rfl
      rw [hhd] at HHit
      obtain ⟨n, hn⟩ : ∃ n, n = yrow.length := ⟨_, rfl⟩
      rw [← hn] at d2 hln
      have hn0 : 0 < n := by omega
      clear hcell hy hym hl3 hkl hn hal hry hx0 hhd hln
      by_cases hR : (yR : Int) = r
      · subst hR
        have HNext2 := Lib.hid (show isCS ⟨yR, yS, yrow⟩ = false → _ from fun h => HNext.out (by unfold csP; rw [h]; simp))
        have HHit2 := Lib.hid (show isCS ⟨yR, yS, yrow⟩ = true → _ from fun h => HHit.out (by unfold csP; rw [h]; simp))
        clear HNext HHit
        rcases hys with rfl | rfl | rfl | rfl
        · have HH := Lib.hid (HHit2.out (by simp only [isCS]; decide))
          go_wp2
          go_ret
          exact ⟨by rw [← HH.out]; rfl, rfl⟩
        · have HH := Lib.hid (HNext2.out (by simp only [isCS]; decide))
          go_wp2
          exact ⟨⟨k + 1, by omega, by go_num, HH.out, by first | rfl | trivial⟩, by simp only [intOf]; omega⟩
        · have HH := Lib.hid (HHit2.out (by simp only [isCS]; decide))
          go_wp2
          go_ret
          exact ⟨by rw [← HH.out]; rfl, rfl⟩
        · have HH := Lib.hid (HNext2.out (by simp only [isCS]; decide))
          go_wp2
          exact ⟨⟨k + 1, by omega, by go_num, HH.out, by first | rfl | trivial⟩, by simp only [intOf]; omega⟩
      · have hRe : ((yR : Int) == r) = false := by simp [hR]
        have HH := Lib.hid (HNext.out (by unfold csP; simp [hR]))
        clear hys hR
        go_wp2
        exact ⟨⟨k + 1, by omega, by go_num, HH.out, by first | rfl | trivial⟩, by simp only [intOf]; omega⟩
    · obtain rfl : k = m := by omega
      have HE := Lib.hid (show z = r by
        have h := HNo.out
        rw [List.take_of_length_le (by rw [List.length_map, HM.out]; exact Nat.le_refl _)] at h
        rw [← HZ.out, h])
      go_wp2
      go_ret
      exact ⟨by rw [HE.out]; rfl, rfl⟩
theorem ref_len {D : Nat → Prop} {w : World} {fb : Nat} {hs : List FH} (h : RefIn D w fb hs) (r : Int) : (fullL (hs.map FH.x) r).length ≤ 3 := by
  unfold fullL
  split
  · rename_i x hx
    rw [natI_len]
    exact (aloneL_len (h.good.alone x (List.mem_of_find?_eq_some hx))).2
  · simp
set_option maxRecDepth 100000 in
set_option maxHeartbeats 1000000 in
theorem gtext_any (D D2 : Nat → Prop) (fb : Nat) (hs : List FH) (A : Option Addr) (c : Nat) (xs : List Int) (w : World) (hF : RefIn D w fb hs) (hlh : hs.length ≤ 1000001) (hD : ∀ b, D b → b < w.heap.size) (hA : Rd D2 w 1 csI A xs) (hD2 : ∀ b, D2 b → b < w.heap.size) (hl : xs.length ≤ 1000000) :
    Calls Tryz.prog 24 #[ptrV fb, .slice A xs.length c] w fun e w' => ∃ u, e = .returned u ∧ OwnS w.heap.size 21 1 csI w' u (textL (hs.map FH.x) xs) ∧ Mod (fun _ => False) w w' := by
  obtain ⟨n, hn⟩ : ∃ n, n = xs.length := ⟨_, rfl⟩
  obtain ⟨ls, hls⟩ : ∃ ls, ls = hs.map FH.x := ⟨_, rfl⟩
  have HLen := Lib.hid (fun r => ref_len hF r)
  rw [← hls] at HLen ⊢
  rw [← hn] at hl ⊢
  have HN := Lib.hid hn
  have HA := Lib.hid hA
  have HF := Lib.hid hF
  have HD := Lib.hid hD
  have HD2 := Lib.hid hD2
  have HLS := Lib.hid hls
  have H0 := Lib.hid (OwnS.nil w.heap.size 21 1 csI w)
  clear hn hA hF hD hD2 hls
  go_enter Tryz.func24, Tryz.ntmps24
  go_wp2
  go_loopw [5, 6] (fun u i wr => ∃ k : Nat, k ≤ n ∧ i = .int .i64 k ∧ OwnS w.heap.size 21 1 csI wr u (textL ls (xs.take k)) ∧ Mod (fun _ => False) w wr) (fun _ i _ => n - (intOf i).toNat)
  case atStart => exact ⟨0, Nat.zero_le _, rfl, H0.out, Mod.refl _ _⟩
  case round =>
    obtain ⟨k, hk, rfl, ho, hm⟩ := hrel
    have HO := Lib.hid ho
    have HM := Lib.hid hm
    clear ho hm
    by_cases hlt : k < n
    · have hkx : k < xs.length := by rw [← HN.out]; exact hlt
      obtain ⟨b, off, rfl, -, q1⟩ := rdI (HA.out.mod HM.out (fun b hb => ⟨HD2.out b hb, id⟩)) hkx
      obtain ⟨x, hx⟩ : ∃ x, x = xs[k] := ⟨_, rfl⟩
      rw [← hx] at q1
      have HT := Lib.hid (show textL ls (xs.take (k + 1)) = textL ls (xs.take k) ++ fullL ls x by rw [hx]; exact textL_take hkx)
      have HC := Lib.hid (show ∀ r, Calls Tryz.prog 14 #[ptrV fb, .int .i32 r] wr fun e w' => ∃ A c, e = .returned (.slice A (fullL ls r).length c) ∧ Rd (fun b => D b ∨ (wr.heap.size ≤ b ∧ b < w'.heap.size)) w' 1 csI A (fullL ls r) ∧ Mod (fun _ => False) wr w' from fun r => by
        rw [HLS.out]; exact gfull_any D fb hs r wr (HF.out.mod HM.out fun b hb => ⟨HD.out b hb, id⟩) hlh)
      have HL := Lib.hid (show (textL ls (xs.take k)).length + (fullL ls x).length ≤ 6000000 by
        have h1 := textL_le HLen.out (xs.take k)
        have h2 := HLen.out x
        rw [List.length_take] at h1
        have h3 : n ≤ 1000000 := hl
        omega)
      clear hx
      go_wp2_with (first
        | (go_at_call 14
           (with_reducible refine (HC.out _).mono ?_)
           rintro e w2 ⟨A2, c2, rfl, hr2, hm2⟩
           have HO2 := Lib.hid (HO.out.mod hm2 (fun _ _ => id))
           have HM2 := Lib.hid (HM.out.trans' hm2)
           have hs2 := HM2.out.size
           have HR2 := Lib.hid hr2
           clear hm2 hr2)
        | (at_builtin
           refine wpList_app (base := w.heap.size) (xs := textL ls (xs.take k)) (ys := fullL ls x) rfl (.tmp 13) (.tmp 19) rfl i32s_t csI_len csI_one rfl HO2.out _ rfl rfl HR2.out ?_ ?_ ?_ ?_
           · have := HL.out; simp only [maxLen]; omega
           · have := HL.out; omega
           · exact hs2
           intro v' w3 hown3 hm3 _
           have HO3 := Lib.hid hown3
           have HM3 := Lib.hid (HM2.out.trans hm3 (fun b hb => .inr (HO2.out.fresh b hb).1))
           clear hown3 hm3)
        | fail)
      exact ⟨⟨k + 1, by omega, by go_num, by rw [HT.out]; exact HO3.out, HM3.out⟩, by simp only [intOf]; omega⟩
    · obtain rfl : k = n := by omega
      have HE := Lib.hid (show xs.take k = xs by rw [HN.out]; exact List.take_length)
      rw [HE.out] at HO
      go_wp2
      go_ret
      exact ⟨_, rfl, HO.out, HM.out⟩
end Go.Proofs.YtidbgfmknhlmnaaGreatDoor
/-
  The reference's Changed.
-/
namespace Go.Proofs.YtidbgfmknhlmnaaGreatDoor
open Go.RowKit Go.Shelf Go.Sort
attribute [local go_sem] Oper.semAt_some

theorem insI_at : ∀ (L : List Int) (r : Int) (j : Nat), j ≤ L.length → (∀ m (hm : m < L.length), m < j → L[m] < r) → (∀ hm : j < L.length, ¬ L[j] < r) → insI L r = L.take j ++ r :: L.drop j
  | [], r, j, hj, _, _ => by
    have : j = 0 := by simpa using hj
    subst this
    rfl
  | y :: ys, r, 0, _, _, h2 => by
    have := h2 (by simp)
    simp only [List.getElem_cons_zero] at this
    simp [insI, this]
  | y :: ys, r, j + 1, hj, h1, h2 => by
    have h0 := h1 0 (by simp) (by omega)
    simp only [List.getElem_cons_zero] at h0
    have ih := insI_at ys r j (by simpa using hj) (fun m hm hmj => h1 (m + 1) (by simpa using hm) (by omega)) (fun hm => h2 (by simpa using hm))
    unfold insI at ih ⊢
    simp only [List.takeWhile_cons, List.dropWhile_cons, decide_eq_true h0, if_true, List.cons_append, List.take_succ_cons, List.drop_succ_cons]
    rw [ih]
theorem insI_mid (L : List Int) (z x : Int) (j : Nat) (hj : j < L.length) : ((L ++ [z]).take (j + 1) ++ L.drop j ++ (L ++ [z]).drop (j + 1 + (L.drop j).length)).set j x = L.take j ++ x :: L.drop j := by
  apply List.ext_getElem?
  intro i
  grind
theorem insI_end (L : List Int) (z x : Int) : (L ++ [z]).set L.length x = L.take L.length ++ x :: L.drop L.length := by
  simp
theorem chg_take {ls : List FL} {k : Nat} (h : k < ls.length) : chgL (ls.take (k + 1)) = if moves ls[k] then insI (chgL (ls.take k)) ls[k].R else chgL (ls.take k) := by
  unfold chgL
  rw [List.take_succ_eq_append_getElem h, List.foldl_append]
  rfl
set_option maxRecDepth 100000 in
set_option maxHeartbeats 16000000 in
theorem gchg_any (D : Nat → Prop) (fb : Nat) (hs : List FH) (w : World) (hF : RefIn D w fb hs) (hl : hs.length ≤ 1000001) (hD : ∀ b, D b → b < w.heap.size) :
    Calls Tryz.prog 12 #[ptrV fb] w fun e w' => ∃ u, e = .returned u ∧ OwnS w.heap.size 21 1 csI w' u (chgL (hs.map FH.x)) ∧ Mod (fun _ => False) w w' := by
  obtain ⟨A, c, c0, hA⟩ := hF.ls
  obtain ⟨m, hm⟩ : ∃ m, m = hs.length := ⟨_, rfl⟩
  obtain ⟨ls, hls⟩ : ∃ ls, ls = hs.map FH.x := ⟨_, rfl⟩
  rw [← hm] at hl c0
  rw [← hls]
  have HLS := Lib.hid hls
  have HM := Lib.hid hm
  have HA := Lib.hid hA
  have HF := Lib.hid hF
  have HD := Lib.hid hD
  have C0 := Lib.hid c0
  clear hm hA hF hls hD c0
  have H0 := Lib.hid (OwnS.nil w.heap.size 21 1 csI w)
  go_enter Tryz.func12, Tryz.ntmps12
  go_wp2
  go_loopw [3, 4] (fun u i wr => ∃ k : Nat, k ≤ m ∧ i = .int .i64 k ∧ OwnS w.heap.size 21 1 csI wr u (chgL (ls.take k)) ∧ Mod (fun _ => False) w wr) (fun _ i _ => m - (intOf i).toNat)
  case atStart => exact ⟨0, Nat.zero_le _, rfl, H0.out, Mod.refl _ _⟩
  case round =>
    obtain ⟨wo, rfl⟩ : ∃ wo : World, wo = wr := ⟨_, rfl⟩
    obtain ⟨k, hk, rfl, hown, hmw⟩ := hrel
    have HMw := Lib.hid hmw
    have c0 := cell_mod C0.out hmw id
    obtain ⟨L, hL⟩ : ∃ L, L = chgL (ls.take k) := ⟨_, rfl⟩
    have hlk : L.length ≤ k := by
      rw [hL]; have h1 := chgL_len (ls.take k); rw [List.length_take] at h1; omega
    rw [← hL] at hown
    obtain ⟨A4, c4, rfl, hr4, hfr4, hml4⟩ := hown.rd csI_len
    obtain ⟨q, hq⟩ : ∃ q, q = L.length := ⟨_, rfl⟩
    rw [← hq] at hown hr4 hfr4 hlk ⊢
    have HL := Lib.hid hL
    have HLq := Lib.hid hq
    have HO := Lib.hid hown
    have HR := Lib.hid hr4
    have HFr := Lib.hid hfr4
    clear hL hq hown hr4 hfr4 hml4 hmw
    by_cases hlt : k < m
    · have hkx : k < hs.length := by rw [← HM.out]; exact hlt
      have hkl : k < ls.length := by rw [HLS.out, List.length_map]; exact hkx
      obtain ⟨bl, ol, hAe, hbl, hcell⟩ := HA.out.mod HMw.out (fun b hb => ⟨HD.out b hb, id⟩) (by omega)
      subst hAe
      obtain ⟨y, hy⟩ : ∃ y, y = hs[k] := ⟨_, rfl⟩
      have d0 : wo.cell? ⟨bl, ol + k * 3, none⟩ = some (.int .i32 (y.x.R : Int)) := by rw [hy]; exact hcell k hkx 0 _ rfl
      have d1 : wo.cell? ⟨bl, ol + k * 3 + 1, none⟩ = some (.string ⟨y.x.S.toArray⟩) := by rw [hy]; exact hcell k hkx 1 _ rfl
      have d2 : wo.cell? ⟨bl, ol + k * 3 + 2, none⟩ = some (.slice y.A y.x.row.length y.c) := by rw [hy]; exact hcell k hkx 2 _ rfl
      have hym : y ∈ hs := by rw [hy]; exact List.getElem_mem _
      have hal := HF.out.good.alone y.x (List.mem_map_of_mem hym)
      have hys := st_one (aloneL_st hal)
      have hln := aloneL_len hal
      have hlo : lenOk y.x.S y.x.row.length = true := by simp only [aloneL, Bool.and_eq_true] at hal; exact hal.1.2
      have hct := chg_take hkl
      rw [show ls[k] = y.x by subst hy; simp [HLS.out], ← HL.out] at hct
      have hry := (HF.out.mod HMw.out fun b hb => ⟨HD.out b hb, id⟩).rows y hym
      obtain ⟨yA, yc, ⟨yR, yS, yrow⟩⟩ := y
      simp only at d0 d1 d2 hys hry hln hlo hct
      obtain ⟨bR, oR, rfl, hbR, qR⟩ := rdI hry (k := 0) (by rw [natI_len]; omega)
      obtain ⟨r0, hr0⟩ : ∃ r0, r0 = yrow.headD 0 := ⟨_, rfl⟩
      have hx0 : (natI yrow)[0]'(by rw [natI_len]; omega) = (r0 : Int) := by
        rw [hr0]
        cases yrow with
        | nil => simp at hln
        | cons a t => rfl
      rw [hx0, Nat.add_zero] at qR
      have hone : yrow.length = 1 → yrow = [r0] := fun h => by
        rw [hr0]
        match yrow, h with
        | [a], _ => rfl
      obtain ⟨n, hn⟩ : ∃ n, n = yrow.length := ⟨_, rfl⟩
      rw [← hn] at d2 hln hlo hone
      have hn0 : 0 < n := by omega
      have hblw : bl < wo.heap.size := Nat.lt_of_lt_of_le (HD.out _ hbl) HMw.out.size
      have hbRw : bR < wo.heap.size := Nat.lt_of_lt_of_le (HD.out _ hbR) HMw.out.size
      have HCt := Lib.hid hct
      have HOne := Lib.hid hone
      have HNn := Lib.hid hn
      clear hcell hy hym hkl hn hal hry hx0 hr0 hct hone hbl hbR
      rcases hys with rfl | rfl | rfl | rfl
      · have hn1 : n = 1 := by simpa [lenOk, stF] using hlo
        have h1 : ((n : Int) == 1) = true := by simp; omega
        have he := HOne.out hn1
        by_cases hRR : r0 = yR
        · have HT := Lib.hid (show chgL (ls.take (k + 1)) = L by rw [HCt.out, if_neg (by rw [he, hRR]; simp [moves])])
          have h2 : ((r0 : Int) == (yR : Int)) = true := by simp; omega
          clear hn1 he hRR hlo
          go_wp2
          go_quiet (fail)
          go_wp2
          exact ⟨⟨k + 1, by omega, by go_num, by rw [HT.out]; exact HO.out.mod (C := fun _ => False) (by (repeat' (first | exact Mod.refl _ _ | assumption | refine Mod.alloc ?_ _ | refine Mod.drew ?_ | refine Mod.drewN ?_ _ | refine Mod.setCell ?_ (by first | exact Or.inl rfl | (right; simp; done) | (right; simp; omega) | (left; simp; done)) _))) (fun b _ => id), by have := HMw.out; (repeat' (first | exact Mod.refl _ _ | assumption | refine Mod.alloc ?_ _ | refine Mod.drew ?_ | refine Mod.drewN ?_ _ | refine Mod.setCell ?_ (by first | exact Or.inl rfl | (right; simp; done) | (right; simp; omega) | (left; simp; done)) _))⟩, by simp only [intOf]; omega⟩
        · have HT := Lib.hid (show chgL (ls.take (k + 1)) = insI L yR by rw [HCt.out, if_pos (by rw [he]; simp [moves, isCF, stC, hRR])])
          have h2 : ((r0 : Int) == (yR : Int)) = false := by simp; omega
          clear hn1 he hRR hlo
          go_wp2
          go_quiet (fail)
          go_wp2
          refine wp_as9 (fun W => (∃ S sl, W.heap[wo.heap.size]? = some (.cells #[.int .i32 (yR : Int), S, sl] 39 (0, 0))) ∧ Mod (fun _ => False) wo W) ⟨⟨_, _, by (repeat' (first | exact hp_new _ _ | exact hp_at _ _ (by simp; done) | refine hp_alloc ?_ _ | refine hp_drew ?_ | refine hp_drewN ?_ _ | apply hp_set | refine hp_far ?_ (by first | (simp; omega) | (simp; done)) _))⟩, by (repeat' (first | exact Mod.refl _ _ | assumption | refine Mod.alloc ?_ _ | refine Mod.drew ?_ | refine Mod.drewN ?_ _ | refine Mod.setCell ?_ (by first | exact Or.inl rfl | (right; simp; done) | (right; simp; omega) | (left; simp; done)) _))⟩ ?_
          rintro W2 ⟨⟨Sx, slx, hX⟩, hM2⟩
          have xc := hp_cell hX 0
          have hs2 := hM2.size
          have hXl := hp_lt hX
          have HX := Lib.hid hX
          have HM2 := Lib.hid hM2
          have HR2 := Lib.hid (HR.out.mod hM2 fun b hb => ⟨(HFr.out b hb).2, id⟩)
          have HO2 := Lib.hid (HO.out.mod hM2 fun _ _ => id)
          have HMW := Lib.hid (HMw.out.trans' hM2)
          clear hX hM2 d0 d1 d2 qR c0 hblw hbRw h1
          go_loopw [6] (fun i wr => ∃ j : Nat, j ≤ q ∧ i = .int .i64 j ∧ (∀ m (hm : m < L.length), m < j → L[m] < (yR : Int)) ∧ ∃ nq, wr = W2.drewN nq) (fun i _ => q - (intOf i).toNat)
          case atStart => exact ⟨0, Nat.zero_le _, rfl, fun j hj h => by omega, 0, rfl⟩
          case round =>
            obtain ⟨j, hj, rfl, h1, nq, rfl⟩ := hrel
            have H1 := Lib.hid h1
            clear h1
            by_cases hjk : j < q
            · have hjx : j < L.length := by rw [← HLq.out]; exact hjk
              obtain ⟨g4, goff, he4, hgo, l0⟩ := rdI HR2.out hjx
              subst he4
              obtain ⟨z, hz⟩ : ∃ z, z = L[j] := ⟨_, rfl⟩
              rw [← hz] at l0
              have HZ := Lib.hid hz
              clear hz
              by_cases hc1 : z < (yR : Int)
              · go_wp2
                go_quiet (fail)
                go_wp2
                go_roundw
                case rel =>
                  refine ⟨j + 1, by omega, by go_num, fun m hm hmj => ?_, _, rfl⟩
                  rcases Nat.eq_or_lt_of_le (Nat.le_of_lt_succ hmj) with h | h
                  · subst h; rw [← HZ.out]; exact hc1
                  · exact H1.out m hm h
                case measure => simp only [intOf]; omega
              · have HI := Lib.hid (show chgL (ls.take (k + 1)) = L.take j ++ (yR : Int) :: L.drop j by rw [HT.out]; exact insI_at L yR j (by omega) H1.out (fun h => by rw [← HZ.out]; exact hc1))
                go_wp2
                go_quiet (fail)
                go_wp2_with (at_builtin
                             refine wpList_app (base := w.heap.size) (xs := L) (ys := [0]) (D := fun _ => True) (v := .slice (some ⟨g4, goff, none⟩) q c4) rfl (.tmp 61) (.tmp 62) rfl i32s_t csI_len csI_one rfl (HO2.out.mod (C := fun _ => False) (by (repeat' (first | exact Mod.refl _ _ | assumption | refine Mod.alloc ?_ _ | refine Mod.drew ?_ | refine Mod.drewN ?_ _ | refine Mod.setCell ?_ (by first | exact Or.inl rfl | (right; simp; done) | (right; simp; omega) | (left; simp; done)) _))) (fun b _ => id)) 1 rfl rfl (rd_oneT (g := W2.heap.size) (c := #[.int .i32 0]) (t := 21) (fr := (0, 0)) (by (repeat' (first | exact hp_new _ _ | exact hp_at _ _ (by simp; done) | refine hp_alloc ?_ _ | refine hp_drew ?_ | refine hp_drewN ?_ _ | apply hp_set | refine hp_far ?_ (by first | (simp; omega) | (simp; done)) _))) rfl) ?_ ?_ ?_ ?_
                             · rw [← HLq.out]; simp [maxLen]; omega
                             · rw [← HLq.out]; simp; omega
                             · have := HMW.out.size; simp; omega
                             intro v5 w5 hown5 hm5 hat5
                             obtain ⟨g, c5, hv5, hgb, hgl, hgf⟩ := hown5.at_ (by simp)
                             have hl5 : (L ++ [(0 : Int)]).length = q + 1 := by rw [List.length_append, ← HLq.out]; rfl
                             obtain ⟨hcap1, hcap2⟩ := hown5.cap hv5
                             rw [hl5] at hv5 hcap1
                             subst hv5
                             have hgX : ¬ wo.heap.size = g := by
                               rcases hat5 with h | h
                               · have := (HFr.out g (h.symm.trans rfl)).2; omega
                               · injection h with h; simp at h; omega
                             have HX5 := Lib.hid (show w5.heap[wo.heap.size]? = some (.cells #[.int .i32 (yR : Int), Sx, slx] 39 (0, 0)) from hp_mod (by (repeat' (first | exact HX.out | exact hp_new _ _ | refine hp_alloc ?_ _ | refine hp_drew ?_ | refine hp_drewN ?_ _ | apply hp_set | refine hp_far ?_ (by first | (simp; omega) | (simp; done)) _))) hm5 (fun h => by have := (HFr.out _ h).2; omega))
                             have M5 : Mod (fun _ => False) w w5 := (show Mod (fun _ => False) w _ by have := HMW.out; (repeat' (first | exact Mod.refl _ _ | assumption | refine Mod.alloc ?_ _ | refine Mod.drew ?_ | refine Mod.drewN ?_ _ | refine Mod.setCell ?_ (by first | exact Or.inl rfl | (right; simp; done) | (right; simp; omega) | (left; simp; done)) _))).trans hm5 (fun b hb => .inr (HFr.out b hb).1)
                             have HO5 := Lib.hid hown5
                             have HL5 := Lib.hid hl5
                             clear hown5 hm5 hl5 hat5)
                have hj1 : ¬ c5 = j + 1 := by omega
                have hj2 : ¬ c5 = j := by omega
                have hyl : (L.drop j).length = q - j := by rw [List.length_drop, ← HLq.out]
                have HYl := Lib.hid hyl
                have hr5 := rd_of5 HO5.out csI_len
                have hr5' : Rd (fun b => (Value.slice (some ⟨g, 0, none⟩) (q + 1) c5).ownBlock = some b) w5 1 csI (some ⟨g, j * 1, none⟩) (L.drop j) := by
                  have hLq := HLq.out
                  have h := rd_take (rd_drop hr5 (j := j) (by rw [HL5.out]; omega)) (q - j)
                  have e : ((L ++ [(0 : Int)]).drop j).take (q - j) = L.drop j := by
                    rw [List.drop_append_of_le_length (by omega), List.take_append_of_le_length (by omega), List.take_of_length_le (by omega)]
                  rw [e, Nat.zero_add] at h
                  exact h
                have HR5 := Lib.hid (fun X (hX : Mod (fun _ => False) w5 X) => hr5'.mod hX (fun b hb => ⟨(HO5.out.fresh b hb).2, id⟩))
                have HO5' := Lib.hid (fun X (hX : Mod (fun _ => False) w5 X) => HO5.out.mod hX (fun b _ => id))
                have hs1 : (0 : Int) ≤ (j : Int) + 1 := by omega
                have hs2' : (j : Int) + 1 ≤ (q : Int) + 1 := by omega
                have hs5 : (j : Int) ≤ (q : Int) + 1 := by omega
                have hs3 : ((j : Int) + 1).toNat = j + 1 := by omega
                have hs4 : IntKind.i64.wrap ((j : Int) + 1) = (j : Int) + 1 := IntWalk.i64_in _ (by omega)
                clear hyl hr5 hr5' xc l0
                go_region_law ((
                  refine step_copy_own (tgt := j + 1) (xs := L ++ [0]) (ys := L.drop j) (dLen := q - j) (dCap := c5 - (j + 1)) (sLen := q + 1 - j) (sCap := c5 - j) rfl (.tmp 67) (.tmp 70) rfl i32s_t csI_len csI_one ?_ rfl ?_ (HO5'.out _ (by (repeat' (first | exact Mod.refl _ _ | assumption | refine Mod.alloc ?_ _ | refine Mod.drew ?_ | refine Mod.drewN ?_ _ | refine Mod.setCell ?_ (by first | exact Or.inl rfl | (right; simp; done) | (right; simp; omega) | (left; simp; done)) _)))) HL5.out.symm (HR5.out _ (by (repeat' (first | exact Mod.refl _ _ | assumption | refine Mod.alloc ?_ _ | refine Mod.drew ?_ | refine Mod.drewN ?_ _ | refine Mod.setCell ?_ (by first | exact Or.inl rfl | (right; simp; done) | (right; simp; omega) | (left; simp; done)) _)))) ?_ ?_ ?_
                  · go_simp
                  · go_simp
                  · rw [HYl.out]; show _ = min _ _; omega
                  · rw [HYl.out]; omega
                  intro w6 hown6 hm6
                  obtain ⟨N6, hN6⟩ : ∃ N6, N6 = (L ++ [0]).take (j + 1) ++ L.drop j ++ (L ++ [0]).drop (j + 1 + (L.drop j).length) := ⟨_, rfl⟩
                  rw [← hN6] at hown6
                  have hl6 : q + 1 = N6.length := by rw [hN6]; have := HLq.out; simp; omega
                  have HS6 := Lib.hid (show N6.set j (yR : Int) = L.take j ++ (yR : Int) :: L.drop j by rw [hN6]; exact insI_mid L 0 yR j (by have := HLq.out; omega))
                  have hm6' : Mod (fun b => b = g) w5 w6 := Mod.trans' (by (repeat' (first | exact Mod.refl _ _ | assumption | refine Mod.alloc ?_ _ | refine Mod.drew ?_ | refine Mod.drewN ?_ _ | refine Mod.setCell ?_ (by first | exact Or.inl rfl | (right; simp; done) | (right; simp; omega) | (left; simp; done)) _))) hm6
                  have hm6w : Mod (fun _ => False) w w6 := M5.trans hm6' (fun b hb => by subst hb; exact .inr hgb)
                  have p0 := hp_cell (hp_mod HX5.out hm6' hgX) 0
                  obtain ⟨g', c6, hv6, -, -, hgf6⟩ := hown6.at_ (by omega)
                  rw [← hl6] at hv6
                  injection hv6 with hv7 hv8 hv9
                  injection hv7 with hv7
                  injection hv7 with hv7
                  subst hv7 hv9
                  have q0 := hown6.cell csI_len (by rw [← hl6]) (k := j) (j := 0) (by omega) rfl
                  have qf0 := hgf6 j
                  obtain ⟨e, he⟩ : ∃ e, e = N6[j]'(by omega) := ⟨_, rfl⟩
                  rw [← he, Nat.mul_one, Nat.add_zero] at q0
                  have HO6 := Lib.hid hown6
                  have HM6 := Lib.hid hm6w
                  have HL6 := Lib.hid hl6
                  clear hown6 hm6 hm6' hm6w hl6 hN6 hgf6 he))
                all_goals
                  clear hs1 hs2' hs3 hs4 hs5
                  go_wp2
                  refine ⟨⟨k + 1, by omega, by go_num, ?_, ?_⟩, by simp only [intOf]; omega⟩
                  · rw [HI.out, ← HS6.out]
                    have h9 := OwnS.set1 csI_len HO6.out HL6.out (k := j) (by omega) (j := 0) (by omega) (u := .int .i32 (yR : Int)) (y := (yR : Int)) rfl
                    rw [Nat.mul_one, Nat.add_zero] at h9
                    exact h9
                  · exact HM6.out.setCell (p := ⟨g, j, none⟩) (.inr hgb) _
            · obtain rfl : j = q := by omega
              have HI := Lib.hid (show chgL (ls.take (k + 1)) = L.take j ++ (yR : Int) :: L.drop j by rw [HT.out]; exact insI_at L yR j (by rw [← HLq.out]; exact Nat.le_refl _) H1.out (fun h => by have := HLq.out; omega))
              go_wp2
              go_quiet (fail)
              go_wp2_with (at_builtin
                           refine wpList_app (base := w.heap.size) (xs := L) (ys := [0]) (D := fun _ => True) (v := .slice A4 j c4) rfl (.tmp 61) (.tmp 62) rfl i32s_t csI_len csI_one rfl (HO2.out.mod (C := fun _ => False) (by (repeat' (first | exact Mod.refl _ _ | assumption | refine Mod.alloc ?_ _ | refine Mod.drew ?_ | refine Mod.drewN ?_ _ | refine Mod.setCell ?_ (by first | exact Or.inl rfl | (right; simp; done) | (right; simp; omega) | (left; simp; done)) _))) (fun b _ => id)) 1 rfl rfl (rd_oneT (g := W2.heap.size) (c := #[.int .i32 0]) (t := 21) (fr := (0, 0)) (by (repeat' (first | exact hp_new _ _ | exact hp_at _ _ (by simp; done) | refine hp_alloc ?_ _ | refine hp_drew ?_ | refine hp_drewN ?_ _ | apply hp_set | refine hp_far ?_ (by first | (simp; omega) | (simp; done)) _))) rfl) ?_ ?_ ?_ ?_
                           · rw [← HLq.out]; simp [maxLen]; omega
                           · rw [← HLq.out]; simp; omega
                           · have := HMW.out.size; simp; omega
                           intro v5 w5 hown5 hm5 hat5
                           obtain ⟨g, c5, hv5, hgb, hgl, hgf⟩ := hown5.at_ (by simp)
                           have hl5 : (L ++ [(0 : Int)]).length = j + 1 := by rw [List.length_append, ← HLq.out]; rfl
                           obtain ⟨hcap1, hcap2⟩ := hown5.cap hv5
                           rw [hl5] at hv5 hcap1
                           subst hv5
                           have hgX : ¬ wo.heap.size = g := by
                             rcases hat5 with h | h
                             · have := (HFr.out g (h.symm.trans rfl)).2; omega
                             · injection h with h; simp at h; omega
                           have HX5 := Lib.hid (show w5.heap[wo.heap.size]? = some (.cells #[.int .i32 (yR : Int), Sx, slx] 39 (0, 0)) from hp_mod (by (repeat' (first | exact HX.out | exact hp_new _ _ | refine hp_alloc ?_ _ | refine hp_drew ?_ | refine hp_drewN ?_ _ | apply hp_set | refine hp_far ?_ (by first | (simp; omega) | (simp; done)) _))) hm5 (fun h => by have := (HFr.out _ h).2; omega))
                           have M5 : Mod (fun _ => False) w w5 := (show Mod (fun _ => False) w _ by have := HMW.out; (repeat' (first | exact Mod.refl _ _ | assumption | refine Mod.alloc ?_ _ | refine Mod.drew ?_ | refine Mod.drewN ?_ _ | refine Mod.setCell ?_ (by first | exact Or.inl rfl | (right; simp; done) | (right; simp; omega) | (left; simp; done)) _))).trans hm5 (fun b hb => .inr (HFr.out b hb).1)
                           have HO5 := Lib.hid hown5
                           have HL5 := Lib.hid hl5
                           clear hown5 hm5 hl5 hat5)
              have p0 := hp_cell HX5.out 0
              have q0 := HO5.out.cell csI_len (by rw [HL5.out]) (k := j) (j := 0) (by rw [HL5.out]; omega) rfl
              have qf0 := hgf j
              obtain ⟨e, he⟩ : ∃ e, e = (L ++ [(0 : Int)])[j]'(by rw [HL5.out]; omega) := ⟨_, rfl⟩
              rw [← he, Nat.mul_one, Nat.add_zero] at q0
              clear hgf he xc
              have hs1 : (0 : Int) ≤ (j : Int) + 1 := by omega
              have hs5 : (j : Int) ≤ (j : Int) + 1 := by omega
              have hs3 : ((j : Int) + 1).toNat = j + 1 := by omega
              have hs4 : IntKind.i64.wrap ((j : Int) + 1) = (j : Int) + 1 := IntWalk.i64_in _ (by omega)
              have hj2 : ¬ c5 = j := by omega
              by_cases hcc : c5 = j + 1
              · subst hcc
                go_region_law ((
                  refine step_copy_zero (D := some ⟨g, 0, none⟩) (dLen := 0) (dCap := 0) (A := some ⟨g, j, none⟩) (sLen := 1) (sCap := 1) rfl (.tmp 67) (.tmp 70) rfl i32s_t ?_ ?_ rfl ?_
                  · go_simp
                  · go_simp))
                all_goals
                  clear hs1 hs3 hs4 hs5
                  go_wp2
                  refine ⟨⟨k + 1, by omega, by go_num, ?_, ?_⟩, by simp only [intOf]; omega⟩
                  · rw [HI.out]
                    have h := OwnS.set1 csI_len HO5.out HL5.out.symm (k := j) (by omega) (j := 0) (by omega) (u := .int .i32 (yR : Int)) (y := (yR : Int)) rfl
                    rw [Nat.mul_one, Nat.add_zero] at h
                    have e2 := insI_end L 0 (yR : Int)
                    rw [← HLq.out] at e2
                    rw [← e2]
                    exact h.mod (C := fun _ => False) (by (repeat' (first | exact Mod.refl _ _ | assumption | refine Mod.alloc ?_ _ | refine Mod.drew ?_ | refine Mod.drewN ?_ _ | refine Mod.setCell ?_ (by first | exact Or.inl rfl | (right; simp; done) | (right; simp; omega) | (left; simp; done)) _))) (fun b _ => id)
                  · have hm3 := M5.setCell (p := ⟨g, j, none⟩) (.inr hgb) (.int .i32 (yR : Int))
                    first | exact hm3 | exact hm3.drew
              · go_region_law ((
                  refine step_copy_zero (D := some ⟨g, j + 1, none⟩) (dLen := 0) (dCap := c5 - (j + 1)) (A := some ⟨g, j, none⟩) (sLen := 1) (sCap := c5 - j) rfl (.tmp 67) (.tmp 70) rfl i32s_t ?_ ?_ rfl ?_
                  · go_simp
                  · go_simp))
                all_goals
                  clear hs1 hs3 hs4 hs5
                  go_wp2
                  refine ⟨⟨k + 1, by omega, by go_num, ?_, ?_⟩, by simp only [intOf]; omega⟩
                  · rw [HI.out]
                    have h := OwnS.set1 csI_len HO5.out HL5.out.symm (k := j) (by omega) (j := 0) (by omega) (u := .int .i32 (yR : Int)) (y := (yR : Int)) rfl
                    rw [Nat.mul_one, Nat.add_zero] at h
                    have e2 := insI_end L 0 (yR : Int)
                    rw [← HLq.out] at e2
                    rw [← e2]
                    exact h.mod (C := fun _ => False) (by (repeat' (first | exact Mod.refl _ _ | assumption | refine Mod.alloc ?_ _ | refine Mod.drew ?_ | refine Mod.drewN ?_ _ | refine Mod.setCell ?_ (by first | exact Or.inl rfl | (right; simp; done) | (right; simp; omega) | (left; simp; done)) _))) (fun b _ => id)
                  · have hm3 := M5.setCell (p := ⟨g, j, none⟩) (.inr hgb) (.int .i32 (yR : Int))
                    first | exact hm3 | exact hm3.drew
      · have h1 : ((n : Int) == 1) = false := by simp [lenOk, stF] at hlo ⊢; omega
        have HT := Lib.hid (show chgL (ls.take (k + 1)) = insI L yR by
          rw [HCt.out, if_pos]
          have : (yrow == [yR]) = false := by
            rw [beq_eq_false_iff_ne]
            intro e
            have h3 := HNn.out
            rw [e] at h3
            simp at h3
            subst h3
            simp at h1
          simp [moves, isCF, stF, this])
        clear hlo
        go_wp2
        go_quiet (fail)
        go_wp2
        refine wp_as9 (fun W => (∃ S sl, W.heap[wo.heap.size]? = some (.cells #[.int .i32 (yR : Int), S, sl] 39 (0, 0))) ∧ Mod (fun _ => False) wo W) ⟨⟨_, _, by (repeat' (first | exact hp_new _ _ | exact hp_at _ _ (by simp; done) | refine hp_alloc ?_ _ | refine hp_drew ?_ | refine hp_drewN ?_ _ | apply hp_set | refine hp_far ?_ (by first | (simp; omega) | (simp; done)) _))⟩, by (repeat' (first | exact Mod.refl _ _ | assumption | refine Mod.alloc ?_ _ | refine Mod.drew ?_ | refine Mod.drewN ?_ _ | refine Mod.setCell ?_ (by first | exact Or.inl rfl | (right; simp; done) | (right; simp; omega) | (left; simp; done)) _))⟩ ?_
        rintro W2 ⟨⟨Sx, slx, hX⟩, hM2⟩
        have xc := hp_cell hX 0
        have hs2 := hM2.size
        have hXl := hp_lt hX
        have HX := Lib.hid hX
        have HM2 := Lib.hid hM2
        have HR2 := Lib.hid (HR.out.mod hM2 fun b hb => ⟨(HFr.out b hb).2, id⟩)
        have HO2 := Lib.hid (HO.out.mod hM2 fun _ _ => id)
        have HMW := Lib.hid (HMw.out.trans' hM2)
        clear hX hM2 d0 d1 d2 qR c0 hblw hbRw h1
        go_loopw [6] (fun i wr => ∃ j : Nat, j ≤ q ∧ i = .int .i64 j ∧ (∀ m (hm : m < L.length), m < j → L[m] < (yR : Int)) ∧ ∃ nq, wr = W2.drewN nq) (fun i _ => q - (intOf i).toNat)
        case atStart => exact ⟨0, Nat.zero_le _, rfl, fun j hj h => by omega, 0, rfl⟩
        case round =>
          obtain ⟨j, hj, rfl, h1, nq, rfl⟩ := hrel
          have H1 := Lib.hid h1
          clear h1
          by_cases hjk : j < q
          · have hjx : j < L.length := by rw [← HLq.out]; exact hjk
            obtain ⟨g4, goff, he4, hgo, l0⟩ := rdI HR2.out hjx
            subst he4
            obtain ⟨z, hz⟩ : ∃ z, z = L[j] := ⟨_, rfl⟩
            rw [← hz] at l0
            have HZ := Lib.hid hz
            clear hz
            by_cases hc1 : z < (yR : Int)
            · go_wp2
              go_quiet (fail)
              go_wp2
              go_roundw
              case rel =>
                refine ⟨j + 1, by omega, by go_num, fun m hm hmj => ?_, _, rfl⟩
                rcases Nat.eq_or_lt_of_le (Nat.le_of_lt_succ hmj) with h | h
                · subst h; rw [← HZ.out]; exact hc1
                · exact H1.out m hm h
              case measure => simp only [intOf]; omega
            · have HI := Lib.hid (show chgL (ls.take (k + 1)) = L.take j ++ (yR : Int) :: L.drop j by rw [HT.out]; exact insI_at L yR j (by omega) H1.out (fun h => by rw [← HZ.out]; exact hc1))
              go_wp2
              go_quiet (fail)
              go_wp2_with (at_builtin
                           refine wpList_app (base := w.heap.size) (xs := L) (ys := [0]) (D := fun _ => True) (v := .slice (some ⟨g4, goff, none⟩) q c4) rfl (.tmp 61) (.tmp 62) rfl i32s_t csI_len csI_one rfl (HO2.out.mod (C := fun _ => False) (by (repeat' (first | exact Mod.refl _ _ | assumption | refine Mod.alloc ?_ _ | refine Mod.drew ?_ | refine Mod.drewN ?_ _ | refine Mod.setCell ?_ (by first | exact Or.inl rfl | (right; simp; done) | (right; simp; omega) | (left; simp; done)) _))) (fun b _ => id)) 1 rfl rfl (rd_oneT (g := W2.heap.size) (c := #[.int .i32 0]) (t := 21) (fr := (0, 0)) (by (repeat' (first | exact hp_new _ _ | exact hp_at _ _ (by simp; done) | refine hp_alloc ?_ _ | refine hp_drew ?_ | refine hp_drewN ?_ _ | apply hp_set | refine hp_far ?_ (by first | (simp; omega) | (simp; done)) _))) rfl) ?_ ?_ ?_ ?_
                           · rw [← HLq.out]; simp [maxLen]; omega
                           · rw [← HLq.out]; simp; omega
                           · have := HMW.out.size; simp; omega
                           intro v5 w5 hown5 hm5 hat5
                           obtain ⟨g, c5, hv5, hgb, hgl, hgf⟩ := hown5.at_ (by simp)
                           have hl5 : (L ++ [(0 : Int)]).length = q + 1 := by rw [List.length_append, ← HLq.out]; rfl
                           obtain ⟨hcap1, hcap2⟩ := hown5.cap hv5
                           rw [hl5] at hv5 hcap1
                           subst hv5
                           have hgX : ¬ wo.heap.size = g := by
                             rcases hat5 with h | h
                             · have := (HFr.out g (h.symm.trans rfl)).2; omega
                             · injection h with h; simp at h; omega
                           have HX5 := Lib.hid (show w5.heap[wo.heap.size]? = some (.cells #[.int .i32 (yR : Int), Sx, slx] 39 (0, 0)) from hp_mod (by (repeat' (first | exact HX.out | exact hp_new _ _ | refine hp_alloc ?_ _ | refine hp_drew ?_ | refine hp_drewN ?_ _ | apply hp_set | refine hp_far ?_ (by first | (simp; omega) | (simp; done)) _))) hm5 (fun h => by have := (HFr.out _ h).2; omega))
                           have M5 : Mod (fun _ => False) w w5 := (show Mod (fun _ => False) w _ by have := HMW.out; (repeat' (first | exact Mod.refl _ _ | assumption | refine Mod.alloc ?_ _ | refine Mod.drew ?_ | refine Mod.drewN ?_ _ | refine Mod.setCell ?_ (by first | exact Or.inl rfl | (right; simp; done) | (right; simp; omega) | (left; simp; done)) _))).trans hm5 (fun b hb => .inr (HFr.out b hb).1)
                           have HO5 := Lib.hid hown5
                           have HL5 := Lib.hid hl5
                           clear hown5 hm5 hl5 hat5)
              have hj1 : ¬ c5 = j + 1 := by omega
              have hj2 : ¬ c5 = j := by omega
              have hyl : (L.drop j).length = q - j := by rw [List.length_drop, ← HLq.out]
              have HYl := Lib.hid hyl
              have hr5 := rd_of5 HO5.out csI_len
              have hr5' : Rd (fun b => (Value.slice (some ⟨g, 0, none⟩) (q + 1) c5).ownBlock = some b) w5 1 csI (some ⟨g, j * 1, none⟩) (L.drop j) := by
                have hLq := HLq.out
                have h := rd_take (rd_drop hr5 (j := j) (by rw [HL5.out]; omega)) (q - j)
                have e : ((L ++ [(0 : Int)]).drop j).take (q - j) = L.drop j := by
                  rw [List.drop_append_of_le_length (by omega), List.take_append_of_le_length (by omega), List.take_of_length_le (by omega)]
                rw [e, Nat.zero_add] at h
                exact h
              have HR5 := Lib.hid (fun X (hX : Mod (fun _ => False) w5 X) => hr5'.mod hX (fun b hb => ⟨(HO5.out.fresh b hb).2, id⟩))
              have HO5' := Lib.hid (fun X (hX : Mod (fun _ => False) w5 X) => HO5.out.mod hX (fun b _ => id))
              have hs1 : (0 : Int) ≤ (j : Int) + 1 := by omega
              have hs2' : (j : Int) + 1 ≤ (q : Int) + 1 := by omega
              have hs5 : (j : Int) ≤ (q : Int) + 1 := by omega
              have hs3 : ((j : Int) + 1).toNat = j + 1 := by omega
              have hs4 : IntKind.i64.wrap ((j : Int) + 1) = (j : Int) + 1 := IntWalk.i64_in _ (by omega)
              clear hyl hr5 hr5' xc l0
              go_region_law ((
                refine step_copy_own (tgt := j + 1) (xs := L ++ [0]) (ys := L.drop j) (dLen := q - j) (dCap := c5 - (j + 1)) (sLen := q + 1 - j) (sCap := c5 - j) rfl (.tmp 67) (.tmp 70) rfl i32s_t csI_len csI_one ?_ rfl ?_ (HO5'.out _ (by (repeat' (first | exact Mod.refl _ _ | assumption | refine Mod.alloc ?_ _ | refine Mod.drew ?_ | refine Mod.drewN ?_ _ | refine Mod.setCell ?_ (by first | exact Or.inl rfl | (right; simp; done) | (right; simp; omega) | (left; simp; done)) _)))) HL5.out.symm (HR5.out _ (by (repeat' (first | exact Mod.refl _ _ | assumption | refine Mod.alloc ?_ _ | refine Mod.drew ?_ | refine Mod.drewN ?_ _ | refine Mod.setCell ?_ (by first | exact Or.inl rfl | (right; simp; done) | (right; simp; omega) | (left; simp; done)) _)))) ?_ ?_ ?_
                · go_simp
                · go_simp
                · rw [HYl.out]; show _ = min _ _; omega
                · rw [HYl.out]; omega
                intro w6 hown6 hm6
                obtain ⟨N6, hN6⟩ : ∃ N6, N6 = (L ++ [0]).take (j + 1) ++ L.drop j ++ (L ++ [0]).drop (j + 1 + (L.drop j).length) := ⟨_, rfl⟩
                rw [← hN6] at hown6
                have hl6 : q + 1 = N6.length := by rw [hN6]; have := HLq.out; simp; omega
                have HS6 := Lib.hid (show N6.set j (yR : Int) = L.take j ++ (yR : Int) :: L.drop j by rw [hN6]; exact insI_mid L 0 yR j (by have := HLq.out; omega))
                have hm6' : Mod (fun b => b = g) w5 w6 := Mod.trans' (by (repeat' (first | exact Mod.refl _ _ | assumption | refine Mod.alloc ?_ _ | refine Mod.drew ?_ | refine Mod.drewN ?_ _ | refine Mod.setCell ?_ (by first | exact Or.inl rfl | (right; simp; done) | (right; simp; omega) | (left; simp; done)) _))) hm6
                have hm6w : Mod (fun _ => False) w w6 := M5.trans hm6' (fun b hb => by subst hb; exact .inr hgb)
                have p0 := hp_cell (hp_mod HX5.out hm6' hgX) 0
                obtain ⟨g', c6, hv6, -, -, hgf6⟩ := hown6.at_ (by omega)
                rw [← hl6] at hv6
                injection hv6 with hv7 hv8 hv9
                injection hv7 with hv7
                injection hv7 with hv7
                subst hv7 hv9
                have q0 := hown6.cell csI_len (by rw [← hl6]) (k := j) (j := 0) (by omega) rfl
                have qf0 := hgf6 j
                obtain ⟨e, he⟩ : ∃ e, e = N6[j]'(by omega) := ⟨_, rfl⟩
                rw [← he, Nat.mul_one, Nat.add_zero] at q0
                have HO6 := Lib.hid hown6
                have HM6 := Lib.hid hm6w
                have HL6 := Lib.hid hl6
                clear hown6 hm6 hm6' hm6w hl6 hN6 hgf6 he))
              all_goals
                clear hs1 hs2' hs3 hs4 hs5
                go_wp2
                refine ⟨⟨k + 1, by omega, by go_num, ?_, ?_⟩, by simp only [intOf]; omega⟩
                · rw [HI.out, ← HS6.out]
                  have h9 := OwnS.set1 csI_len HO6.out HL6.out (k := j) (by omega) (j := 0) (by omega) (u := .int .i32 (yR : Int)) (y := (yR : Int)) rfl
                  rw [Nat.mul_one, Nat.add_zero] at h9
                  exact h9
                · exact HM6.out.setCell (p := ⟨g, j, none⟩) (.inr hgb) _
          · obtain rfl : j = q := by omega
            have HI := Lib.hid (show chgL (ls.take (k + 1)) = L.take j ++ (yR : Int) :: L.drop j by rw [HT.out]; exact insI_at L yR j (by rw [← HLq.out]; exact Nat.le_refl _) H1.out (fun h => by have := HLq.out; omega))
            go_wp2
            go_quiet (fail)
            go_wp2_with (at_builtin
                         refine wpList_app (base := w.heap.size) (xs := L) (ys := [0]) (D := fun _ => True) (v := .slice A4 j c4) rfl (.tmp 61) (.tmp 62) rfl i32s_t csI_len csI_one rfl (HO2.out.mod (C := fun _ => False) (by (repeat' (first | exact Mod.refl _ _ | assumption | refine Mod.alloc ?_ _ | refine Mod.drew ?_ | refine Mod.drewN ?_ _ | refine Mod.setCell ?_ (by first | exact Or.inl rfl | (right; simp; done) | (right; simp; omega) | (left; simp; done)) _))) (fun b _ => id)) 1 rfl rfl (rd_oneT (g := W2.heap.size) (c := #[.int .i32 0]) (t := 21) (fr := (0, 0)) (by (repeat' (first | exact hp_new _ _ | exact hp_at _ _ (by simp; done) | refine hp_alloc ?_ _ | refine hp_drew ?_ | refine hp_drewN ?_ _ | apply hp_set | refine hp_far ?_ (by first | (simp; omega) | (simp; done)) _))) rfl) ?_ ?_ ?_ ?_
                         · rw [← HLq.out]; simp [maxLen]; omega
                         · rw [← HLq.out]; simp; omega
                         · have := HMW.out.size; simp; omega
                         intro v5 w5 hown5 hm5 hat5
                         obtain ⟨g, c5, hv5, hgb, hgl, hgf⟩ := hown5.at_ (by simp)
                         have hl5 : (L ++ [(0 : Int)]).length = j + 1 := by rw [List.length_append, ← HLq.out]; rfl
                         obtain ⟨hcap1, hcap2⟩ := hown5.cap hv5
                         rw [hl5] at hv5 hcap1
                         subst hv5
                         have hgX : ¬ wo.heap.size = g := by
                           rcases hat5 with h | h
                           · have := (HFr.out g (h.symm.trans rfl)).2; omega
                           · injection h with h; simp at h; omega
                         have HX5 := Lib.hid (show w5.heap[wo.heap.size]? = some (.cells #[.int .i32 (yR : Int), Sx, slx] 39 (0, 0)) from hp_mod (by (repeat' (first | exact HX.out | exact hp_new _ _ | refine hp_alloc ?_ _ | refine hp_drew ?_ | refine hp_drewN ?_ _ | apply hp_set | refine hp_far ?_ (by first | (simp; omega) | (simp; done)) _))) hm5 (fun h => by have := (HFr.out _ h).2; omega))
                         have M5 : Mod (fun _ => False) w w5 := (show Mod (fun _ => False) w _ by have := HMW.out; (repeat' (first | exact Mod.refl _ _ | assumption | refine Mod.alloc ?_ _ | refine Mod.drew ?_ | refine Mod.drewN ?_ _ | refine Mod.setCell ?_ (by first | exact Or.inl rfl | (right; simp; done) | (right; simp; omega) | (left; simp; done)) _))).trans hm5 (fun b hb => .inr (HFr.out b hb).1)
                         have HO5 := Lib.hid hown5
                         have HL5 := Lib.hid hl5
                         clear hown5 hm5 hl5 hat5)
            have p0 := hp_cell HX5.out 0
            have q0 := HO5.out.cell csI_len (by rw [HL5.out]) (k := j) (j := 0) (by rw [HL5.out]; omega) rfl
            have qf0 := hgf j
            obtain ⟨e, he⟩ : ∃ e, e = (L ++ [(0 : Int)])[j]'(by rw [HL5.out]; omega) := ⟨_, rfl⟩
            rw [← he, Nat.mul_one, Nat.add_zero] at q0
            clear hgf he xc
            have hs1 : (0 : Int) ≤ (j : Int) + 1 := by omega
            have hs5 : (j : Int) ≤ (j : Int) + 1 := by omega
            have hs3 : ((j : Int) + 1).toNat = j + 1 := by omega
            have hs4 : IntKind.i64.wrap ((j : Int) + 1) = (j : Int) + 1 := IntWalk.i64_in _ (by omega)
            have hj2 : ¬ c5 = j := by omega
            by_cases hcc : c5 = j + 1
            · subst hcc
              go_region_law ((
                refine step_copy_zero (D := some ⟨g, 0, none⟩) (dLen := 0) (dCap := 0) (A := some ⟨g, j, none⟩) (sLen := 1) (sCap := 1) rfl (.tmp 67) (.tmp 70) rfl i32s_t ?_ ?_ rfl ?_
                · go_simp
                · go_simp))
              all_goals
                clear hs1 hs3 hs4 hs5
                go_wp2
                refine ⟨⟨k + 1, by omega, by go_num, ?_, ?_⟩, by simp only [intOf]; omega⟩
                · rw [HI.out]
                  have h := OwnS.set1 csI_len HO5.out HL5.out.symm (k := j) (by omega) (j := 0) (by omega) (u := .int .i32 (yR : Int)) (y := (yR : Int)) rfl
                  rw [Nat.mul_one, Nat.add_zero] at h
                  have e2 := insI_end L 0 (yR : Int)
                  rw [← HLq.out] at e2
                  rw [← e2]
                  exact h.mod (C := fun _ => False) (by (repeat' (first | exact Mod.refl _ _ | assumption | refine Mod.alloc ?_ _ | refine Mod.drew ?_ | refine Mod.drewN ?_ _ | refine Mod.setCell ?_ (by first | exact Or.inl rfl | (right; simp; done) | (right; simp; omega) | (left; simp; done)) _))) (fun b _ => id)
                · have hm3 := M5.setCell (p := ⟨g, j, none⟩) (.inr hgb) (.int .i32 (yR : Int))
                  first | exact hm3 | exact hm3.drew
            · go_region_law ((
                refine step_copy_zero (D := some ⟨g, j + 1, none⟩) (dLen := 0) (dCap := c5 - (j + 1)) (A := some ⟨g, j, none⟩) (sLen := 1) (sCap := c5 - j) rfl (.tmp 67) (.tmp 70) rfl i32s_t ?_ ?_ rfl ?_
                · go_simp
                · go_simp))
              all_goals
                clear hs1 hs3 hs4 hs5
                go_wp2
                refine ⟨⟨k + 1, by omega, by go_num, ?_, ?_⟩, by simp only [intOf]; omega⟩
                · rw [HI.out]
                  have h := OwnS.set1 csI_len HO5.out HL5.out.symm (k := j) (by omega) (j := 0) (by omega) (u := .int .i32 (yR : Int)) (y := (yR : Int)) rfl
                  rw [Nat.mul_one, Nat.add_zero] at h
                  have e2 := insI_end L 0 (yR : Int)
                  rw [← HLq.out] at e2
                  rw [← e2]
                  exact h.mod (C := fun _ => False) (by (repeat' (first | exact Mod.refl _ _ | assumption | refine Mod.alloc ?_ _ | refine Mod.drew ?_ | refine Mod.drewN ?_ _ | refine Mod.setCell ?_ (by first | exact Or.inl rfl | (right; simp; done) | (right; simp; omega) | (left; simp; done)) _))) (fun b _ => id)
                · have hm3 := M5.setCell (p := ⟨g, j, none⟩) (.inr hgb) (.int .i32 (yR : Int))
                  first | exact hm3 | exact hm3.drew
      · have HT := Lib.hid (show chgL (ls.take (k + 1)) = L by rw [HCt.out, if_neg (by simp [moves, isCF, stC, stF])])
        clear hlo
        go_wp2
        go_quiet (fail)
        go_wp2
        exact ⟨⟨k + 1, by omega, by go_num, by rw [HT.out]; exact HO.out.mod (C := fun _ => False) (by (repeat' (first | exact Mod.refl _ _ | assumption | refine Mod.alloc ?_ _ | refine Mod.drew ?_ | refine Mod.drewN ?_ _ | refine Mod.setCell ?_ (by first | exact Or.inl rfl | (right; simp; done) | (right; simp; omega) | (left; simp; done)) _))) (fun b _ => id), by have := HMw.out; (repeat' (first | exact Mod.refl _ _ | assumption | refine Mod.alloc ?_ _ | refine Mod.drew ?_ | refine Mod.drewN ?_ _ | refine Mod.setCell ?_ (by first | exact Or.inl rfl | (right; simp; done) | (right; simp; omega) | (left; simp; done)) _))⟩, by simp only [intOf]; omega⟩
      · have HT := Lib.hid (show chgL (ls.take (k + 1)) = L by rw [HCt.out, if_neg (by simp [moves, isCF, stC, stF])])
        clear hlo
        go_wp2
        go_quiet (fail)
        go_wp2
        exact ⟨⟨k + 1, by omega, by go_num, by rw [HT.out]; exact HO.out.mod (C := fun _ => False) (by (repeat' (first | exact Mod.refl _ _ | assumption | refine Mod.alloc ?_ _ | refine Mod.drew ?_ | refine Mod.drewN ?_ _ | refine Mod.setCell ?_ (by first | exact Or.inl rfl | (right; simp; done) | (right; simp; omega) | (left; simp; done)) _))) (fun b _ => id), by have := HMw.out; (repeat' (first | exact Mod.refl _ _ | assumption | refine Mod.alloc ?_ _ | refine Mod.drew ?_ | refine Mod.drewN ?_ _ | refine Mod.setCell ?_ (by first | exact Or.inl rfl | (right; simp; done) | (right; simp; omega) | (left; simp; done)) _))⟩, by simp only [intOf]; omega⟩
    · obtain rfl : k = m := by omega
      have HE := Lib.hid (show L = chgL ls by rw [HL.out, List.take_of_length_le (by rw [HLS.out, List.length_map, HM.out]; exact Nat.le_refl _)])
      go_wp2
      go_ret
      exact ⟨_, rfl, by rw [← HE.out]; exact HO.out, HMw.out⟩
end Go.Proofs.YtidbgfmknhlmnaaGreatDoor
