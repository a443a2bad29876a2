/-
  The reference's foldings, read.
-/
import Derived.Test.YtidbgfmknhlmnaaGreatDoorFoldH
import Derived.Test.YtidbgfmknhlmnaaGreatDoorFieldsC
namespace Go.Proofs.YtidbgfmknhlmnaaGreatDoor
open Go.RowKit Go.Shelf Go.Sort
attribute [local go_sem] Oper.semAt_some

theorem wp_as9 {P : Program} {c : Code} {Q : Exit → Act → World → Prop} {a : Act} {w : World} (Φ : World → Prop) (hΦ : Φ w) (h : ∀ W, Φ W → c.wp P Q a W) : c.wp P Q a w := h w hΦ
theorem rls_t : SliceT Tryz.prog 35 39 3 48 := SliceT.mk' (z := .agg #[.int .i32 0, .string ⟨#[]⟩, .slice none 0 0]) Tryz.underlying35 (by kernel_rfl) rfl (by decide)
/-- The reference's foldings, in memory. -/
structure RefIn (D : Nat → Prop) (w : World) (fb : Nat) (hs : List FH) : Prop where
  own : D fb
  ls : ∃ A c, w.cell? ⟨fb, 0, none⟩ = some (.slice A hs.length c) ∧ Rd D w 3 FH.cs A hs
  rows : ∀ h ∈ hs, Rd D w 1 csI h.A (natI h.x.row)
  good : GoodL (hs.map FH.x)
theorem RefIn.keep {D : Nat → Prop} {w w' : World} {fb : Nat} {hs : List FH} (h : RefIn D w fb hs) (hA : Agree D w w') : RefIn D w' fb hs := by
  obtain ⟨A, c, h1, h2⟩ := h.ls
  exact ⟨h.own, ⟨A, c, (hA.cell (p := ⟨fb, 0, none⟩) h.own).trans h1, h2.keep hA⟩, fun x hx => (h.rows x hx).keep hA, h.good⟩
theorem RefIn.mod {D C : Nat → Prop} {w w' : World} {fb : Nat} {hs : List FH} (h : RefIn D w fb hs) (hm : Mod C w w') (hd : ∀ b, D b → b < w.heap.size ∧ ¬ C b) : RefIn D w' fb hs := h.keep (hm.agree hd)
theorem RefIn.mono {D D' : Nat → Prop} {w : World} {fb : Nat} {hs : List FH} (h : RefIn D w fb hs) (hd : ∀ b, D b → D' b) : RefIn D' w fb hs := by
  obtain ⟨A, c, h1, h2⟩ := h.ls
  exact ⟨hd _ h.own, ⟨A, c, h1, h2.mono hd⟩, fun x hx => (h.rows x hx).mono hd, h.good⟩
def GReadV (w w' : World) (e : Ending) : (List FL) ⊕ Nat → Prop
  | .inl ls => ∃ (fb : Nat) (hs : List FH), e = .returned (.tuple #[ptrV fb, .int .i64 0, .int .i64 0]) ∧ hs.map FH.x = ls ∧ RefIn (fun b => w.heap.size ≤ b ∧ b < w'.heap.size) w' fb hs
  | .inr n => e = .returned (.tuple #[.pointer none, .int .i64 n, .int .i64 6])
set_option maxRecDepth 100000 in
set_option maxHeartbeats 8000000 in
theorem gread_any (l : Bs) (w : World) (hl : l.length ≤ 1000000) : Calls Tryz.prog 18 #[.string ⟨l.toArray⟩] w fun e w' => GReadV w w' e (foldT l) ∧ Mod (fun _ => False) w w' := by
  have hlen : decide (8388608 < (l.length : Int)) = false := by simp; omega
  have HLn := Lib.hid (fun X => rlines_any l X hl)
  have HFl := Lib.hid (linesT_el l)
  obtain ⟨m, hm⟩ : ∃ m, m = (linesT l).length := ⟨_, rfl⟩
  have hml : m ≤ 1000001 := by rw [hm]; unfold linesT; have := linesL_len 0 (splitC 10 l); have := splitC_len 10 l; omega
  rw [← hm] at HLn
  have HM := Lib.hid hm
  clear hm
  go_enter Tryz.func18, Tryz.ntmps18
  go_wp2_with (first
    | (go_at_call 31
       (with_reducible refine (HLn.out _).mono ?_)
       rintro e w1 ⟨A1, c1, ws, rfl, hws, hls, hm1⟩)
    | fail)
  obtain ⟨B, hB⟩ : ∃ B, B = w.heap.size := ⟨_, rfl⟩
  have hb1 : w1.heap[w.heap.size]? = some (.cells #[.slice none 0 0] 37 (0, 0)) := hp_mod (by (repeat' (first | exact hp_new _ _ | exact hp_at _ _ (by simp; done) | refine hp_alloc ?_ _ | refine hp_drew ?_ | refine hp_drewN ?_ _ | apply hp_set | refine hp_far ?_ (by first | (simp; omega) | (simp; done)) _))) hm1 id
  have hM1 : Mod (fun _ => False) w w1 := Mod.trans' (by (repeat' (first | exact Mod.refl _ _ | assumption | refine Mod.alloc ?_ _ | refine Mod.drew ?_ | refine Mod.drewN ?_ _ | refine Mod.setCell ?_ (by first | exact Or.inl rfl | (right; simp; done) | (right; simp; omega) | (left; simp; done)) _))) hm1
  have hs1 := hm1.size
  simp only [World.size_alloc] at hs1 hls
  rw [← hB] at hb1 hs1 hls ⊢
  have HB := Lib.hid hB
  have HM1 := Lib.hid hM1
  have HLs := Lib.hid hls
  have HWs := Lib.hid hws
  have hwl : ws.length = m := by rw [HM.out, ← hws, List.length_map]
  have HWl := Lib.hid hwl
  clear hB hm1 hls hws hM1 hwl
  go_loopw [7] (fun i wr => ∃ (k : Nat) (hs : List FH) (v : Value), k ≤ m ∧ i = .int .i64 k ∧ wr.heap[B]? = some (.cells #[v] 37 (0, 0)) ∧ OwnS w1.heap.size 39 3 FH.cs wr v hs ∧
      (∀ h ∈ hs, Rd (fun b => w1.heap.size ≤ b ∧ b < wr.heap.size ∧ v.ownBlock ≠ some b) wr 1 csI h.A (natI h.x.row)) ∧ readL [] ((linesT l).take k) = .inl (hs.map FH.x) ∧ Mod (fun b => b = B) w1 wr) (fun i _ => m - (intOf i).toNat)
  case atStart => exact ⟨0, [], _, Nat.zero_le _, rfl, hb1, OwnS.nil _ _ _ _ _, fun h hh => by simp at hh, rfl, Mod.refl _ _⟩
  case round =>
    obtain ⟨k, hs, v, hk, rfl, hb, hown, hrows, hrd, hmw⟩ := hrel
    obtain ⟨Av, cv, rfl, hrv, hfv, hlv⟩ := hown.rd FH.cs_len
    have hql : hs.length ≤ k := by
      have h1 := readL_len _ _ _ hrd
      rw [List.length_map, List.length_take] at h1
      simp only [List.length_nil] at h1
      omega
    obtain ⟨q, hq⟩ : ∃ q, q = hs.length := ⟨_, rfl⟩
    have hgood : GoodL (hs.map FH.x) := GoodL.nil.read hrd
    rw [← hq] at hb hown hrv hfv hrows hql
    have HQn := Lib.hid hq
    have HBk := Lib.hid hb
    have HO := Lib.hid hown
    have HRv := Lib.hid hrv
    have HFv := Lib.hid hfv
    have HGd := Lib.hid hgood
    have HR := Lib.hid hrows
    have HRd := Lib.hid hrd
    have HMw := Lib.hid hmw
    have hsz := hmw.size
    clear hb1 hb hown hrows hrd hmw hrv hfv hlv hq hgood
    by_cases hlt : k < m
    · have hkw : k < ws.length := by rw [HWl.out]; exact hlt
      obtain ⟨y, hy⟩ : ∃ y, y = ws[k] := ⟨_, rfl⟩
      have hx : (linesT l)[k]? = some y.pr := by rw [← HWs.out, List.getElem?_map, List.getElem?_eq_getElem hkw, hy]; rfl
      have hls := HLs.out.keep (HMw.out.agree (D := fun b => B + 1 ≤ b ∧ b < w1.heap.size) fun b hb => ⟨hb.2, by have := hb.1; omega⟩)
      obtain ⟨bl, ol, rfl, hbl, hcell⟩ := hls.1 (by omega)
      have d0 : wr.cell? ⟨bl, ol + k * 2, none⟩ = some (.int .i64 (y.N : Int)) := by rw [hy]; exact hcell k hkw 0 _ rfl
      have d1 : wr.cell? ⟨bl, ol + k * 2 + 1, none⟩ = some (.slice y.A y.F.length y.c) := by rw [hy]; exact hcell k hkw 1 _ rfl
      have hF := hls.2 y (by rw [hy]; exact List.getElem_mem _)
      have hFl := HFl.out _ (List.mem_of_getElem? hx)
      obtain ⟨N, A, c, F⟩ := y
      simp only [Ln.pr] at d0 d1 hF hFl hx
      have HX := Lib.hid hx
      have HF := Lib.hid hF
      have HFL := Lib.hid hFl
      clear hy hx hls hcell hF hFl
      have HBad := Lib.hid (show putL (hs.map FH.x) F = none → foldT l = .inr N from fun h => read_stop HRd.out HX.out h)
      by_cases h3 : F.length < 3
      · have HG := Lib.hid (HBad.out (by unfold putL; rw [lineFL_short h3]))
        have MF := Lib.hid (show Mod (fun _ => False) w (wr.alloc (.cells #[.int .i32 0, .string ⟨#[]⟩, .slice none 0 0] 39)) from (HM1.out.trans HMw.out fun b hb => .inr (by have := HB.out; omega)).alloc _)
        obtain ⟨nF, hnF⟩ : ∃ nF, nF = F.length := ⟨_, rfl⟩
        rw [← hnF] at d1 h3
        have hn3d : decide ((3 : Int) ≤ (nF : Int)) = false := by simp; omega
        have hbl1 : bl < wr.heap.size := by omega
        clear hnF
        go_wp2
        go_quiet (fail)
        go_wp2
        go_quiet (fail)
        go_wp2
        refine bodyPost_ret (v := .tuple #[.pointer none, .int .i64 (N : Int), .int .i64 6]) (by simp [results, Tryz.results18, go_sem]) rfl ?_
        rw [HG.out]
        exact ⟨rfl, by (repeat refine Mod.drewN ?_ _); exact MF.out⟩
      · obtain ⟨f0, f1, f2, ft, rfl⟩ : ∃ f0 f1 f2 ft, F = f0 :: f1 :: f2 :: ft := by
          match F, h3 with
          | [], h => exact absurd (by simp) h
          | [_], h => exact absurd (by simp) h
          | [_, _], h => exact absurd (by simp) h
          | a :: b :: c :: t, _ => exact ⟨a, b, c, t, rfl⟩
        obtain ⟨bf, off, rfl, hbf, hcf⟩ := HF.out (by simp)
        have e0 : wr.cell? ⟨bf, off, none⟩ = some (.string ⟨f0.toArray⟩) := by have := hcf 0 (by simp) 0 _ rfl; simpa using this
        have e1 : wr.cell? ⟨bf, off + 1, none⟩ = some (.string ⟨f1.toArray⟩) := by have := hcf 1 (by simp) 0 _ rfl; simpa using this
        have e2 : wr.cell? ⟨bf, off + 2, none⟩ = some (.string ⟨f2.toArray⟩) := by have := hcf 2 (by simp) 0 _ rfl; simpa using this
        have HC := Lib.hid (fun X => rcode_any f0 X (by have := HFL.out f0 (by simp); omega))
        have HRow := Lib.hid (fun X => rrow_any f2 X (by have := HFL.out f2 (by simp); omega))
        obtain ⟨nF, hnF⟩ : ∃ nF, nF = (f0 :: f1 :: f2 :: ft).length := ⟨_, rfl⟩
        have hn3 : 3 ≤ nF := by rw [hnF]; simp
        rw [← hnF] at d1
        have hn3d : decide (3 ≤ nF) = true := by simp [hn3]
        have hbl1 : bl < wr.heap.size := by omega
        have hbf1 : bf < wr.heap.size := by omega
        unfold codeV at HC
        clear hcf hnF h3
        obtain ⟨oc, hoc⟩ : ∃ oc, oc = codeOf f0 := ⟨_, rfl⟩
        obtain ⟨orw, horw⟩ : ∃ orw, orw = rowOf f2 := ⟨_, rfl⟩
        rw [← hoc] at HC
        rw [← horw] at HRow
        have HOC := Lib.hid hoc
        have HOR := Lib.hid horw
        obtain ⟨rc, hrc⟩ : ∃ rc, rc = oc.getD 0 := ⟨_, rfl⟩
        obtain ⟨gd, hgd⟩ : ∃ gd, gd = oc.isSome := ⟨_, rfl⟩
        rw [← hrc, ← hgd] at HC
        clear hoc horw
        have HPut := Lib.hid (show putL (hs.map FH.x) (f0 :: f1 :: f2 :: ft) = if oc.isSome && orw.isSome && mayL (hs.map FH.x) ⟨oc.getD 0, f1, orw.getD []⟩ then some (hs.map FH.x ++ [⟨oc.getD 0, f1, orw.getD []⟩]) else none by
          unfold putL
          rw [HOC.out, HOR.out]
          cases h0 : codeOf f0 with
          | none => simp [lineFL, h0]
          | some r =>
            cases h2 : rowOf f2 with
            | none => simp [lineFL, h0, h2]
            | some row => simp [lineFL, h0, h2])
        rw [← hrc, ← hgd] at HPut
        clear hrc hgd
        cases gd
        · have HG := Lib.hid (HBad.out (by rw [HPut.out]; rfl))
          go_wp2_with (first
            | (go_at_call 32; (with_reducible refine (HC.out _).mono ?_); rintro e w2 ⟨rfl, rfl⟩)
            | (go_at_call 33
               (with_reducible refine (HRow.out _).mono ?_)
               rintro e w4 ⟨v, rfl, hv, hm4⟩
               obtain ⟨Ar, cr, rfl, hRr⟩ := rowV_open hv
               obtain ⟨row, hrow⟩ : ∃ row, row = orw.getD [] := ⟨_, rfl⟩
               obtain ⟨is, his⟩ : ∃ is, is = orw.isSome := ⟨_, rfl⟩
               obtain ⟨n, hn⟩ : ∃ n, n = row.length := ⟨_, rfl⟩
               rw [← hrow] at HPut hRr ⊢
               rw [← his] at HPut ⊢
               rw [← hn]
               have HNr := Lib.hid hn
               have M4 : Mod (fun _ => False) wr w4 := Mod.trans' (by (repeat' (first | exact Mod.refl _ _ | assumption | refine Mod.alloc ?_ _ | refine Mod.drew ?_ | refine Mod.drewN ?_ _ | refine Mod.setCell ?_ (by first | exact Or.inl rfl | (right; simp; done) | (right; simp; omega) | (left; simp; done)) _))) hm4
               have X4 : w4.heap[wr.heap.size]? = some (.cells #[.int .i32 (rc : Int), .string ⟨#[]⟩, .slice none 0 0] 39 (0, 0)) := hp_mod (hp_new _ _) hm4 id
               have x0 := hp_cell X4 0
               have x1 := hp_cell X4 1
               have x2 := hp_cell X4 2
               have xf1 := hp_free X4 1
               have xf2 := hp_free X4 2
               have d04 := cell_mod d0 M4 id
               have d14 := cell_mod d1 M4 id
               have e14 := cell_mod e1 M4 id
               have HX4 := Lib.hid X4
               have HM4 := Lib.hid M4
               have HRr := Lib.hid (hRr.mono (D' := fun b => wr.heap.size + 1 ≤ b ∧ b < w4.heap.size) fun b hb => ⟨by have := hb.1; simpa using this, hb.2⟩)
               have hXl := hp_lt X4
               have hrl : n ≤ 1000000 := by
                 rw [hn, hrow, HOR.out]
                 have h1 := rowOf_len f2
                 have h2 := HFL.out f2 (by simp)
                 omega
               have HRowE := Lib.hid hrow
               have HIs := Lib.hid his
               clear hm4 X4 M4 hRr hn hrow his hv)
            | fail)
          obtain ⟨X, hX⟩ : ∃ X, X = wr.heap.size := ⟨_, rfl⟩
          refine wp_as9 (fun W => W.heap[wr.heap.size]? = some (.cells #[.int .i32 (rc : Int), .string ⟨f1.toArray⟩, .slice Ar n cr] 39 (0, 0)) ∧ Mod (fun b => b = wr.heap.size) w4 W) ⟨hp_eq (hp_set (hp_set HX4.out 2 _) 1 _) (by simp), ((Mod.refl (fun b => b = wr.heap.size) _).setCell (p := ⟨wr.heap.size, 2, none⟩) (.inl rfl) _).setCell (p := ⟨wr.heap.size, 1, none⟩) (.inl rfl) _⟩ ?_
          rintro W5 ⟨X5, M5⟩
          have HX5 := Lib.hid X5
          have HM45 := Lib.hid M5
          have HM5 := Lib.hid (show Mod (fun _ => False) wr W5 from HM4.out.trans M5 fun b hb => .inr (by omega))
          have d0 := cell_mod d0 HM5.out id
          have MF := Lib.hid (show Mod (fun _ => False) w W5 from (HM1.out.trans HMw.out fun b hb => .inr (by have := HB.out; omega)).trans' HM5.out)
          clear x0 x1 x2 xf1 xf2 d04 d14 e14 X5 M5 d1 e0 e1 e2 hX
          go_quiet (fail)
          go_wp2
          go_quiet (fail)
          go_wp2
          refine bodyPost_ret (v := .tuple #[.pointer none, .int .i64 (N : Int), .int .i64 6]) (by simp [results, Tryz.results18, go_sem]) rfl ?_
          rw [HG.out]
          exact ⟨rfl, by (repeat refine Mod.drewN ?_ _); exact MF.out⟩
        · go_wp2_with (first
            | (go_at_call 32; (with_reducible refine (HC.out _).mono ?_); rintro e w2 ⟨rfl, rfl⟩)
            | (go_at_call 33
               (with_reducible refine (HRow.out _).mono ?_)
               rintro e w4 ⟨v, rfl, hv, hm4⟩
               obtain ⟨Ar, cr, rfl, hRr⟩ := rowV_open hv
               obtain ⟨row, hrow⟩ : ∃ row, row = orw.getD [] := ⟨_, rfl⟩
               obtain ⟨is, his⟩ : ∃ is, is = orw.isSome := ⟨_, rfl⟩
               obtain ⟨n, hn⟩ : ∃ n, n = row.length := ⟨_, rfl⟩
               rw [← hrow] at HPut hRr ⊢
               rw [← his] at HPut ⊢
               rw [← hn]
               have HNr := Lib.hid hn
               have M4 : Mod (fun _ => False) wr w4 := Mod.trans' (by (repeat' (first | exact Mod.refl _ _ | assumption | refine Mod.alloc ?_ _ | refine Mod.drew ?_ | refine Mod.drewN ?_ _ | refine Mod.setCell ?_ (by first | exact Or.inl rfl | (right; simp; done) | (right; simp; omega) | (left; simp; done)) _))) hm4
               have X4 : w4.heap[wr.heap.size]? = some (.cells #[.int .i32 (rc : Int), .string ⟨#[]⟩, .slice none 0 0] 39 (0, 0)) := hp_mod (hp_new _ _) hm4 id
               have x0 := hp_cell X4 0
               have x1 := hp_cell X4 1
               have x2 := hp_cell X4 2
               have xf1 := hp_free X4 1
               have xf2 := hp_free X4 2
               have d04 := cell_mod d0 M4 id
               have d14 := cell_mod d1 M4 id
               have e14 := cell_mod e1 M4 id
               have HX4 := Lib.hid X4
               have HM4 := Lib.hid M4
               have HRr := Lib.hid (hRr.mono (D' := fun b => wr.heap.size + 1 ≤ b ∧ b < w4.heap.size) fun b hb => ⟨by have := hb.1; simpa using this, hb.2⟩)
               have hXl := hp_lt X4
               have hrl : n ≤ 1000000 := by
                 rw [hn, hrow, HOR.out]
                 have h1 := rowOf_len f2
                 have h2 := HFL.out f2 (by simp)
                 omega
               have HRowE := Lib.hid hrow
               have HIs := Lib.hid his
               clear hm4 X4 M4 hRr hn hrow his hv)
            | fail)
          cases is
          · have HG := Lib.hid (HBad.out (by rw [HPut.out]; rfl))
            obtain ⟨X, hX⟩ : ∃ X, X = wr.heap.size := ⟨_, rfl⟩
            refine wp_as9 (fun W => W.heap[wr.heap.size]? = some (.cells #[.int .i32 (rc : Int), .string ⟨f1.toArray⟩, .slice Ar n cr] 39 (0, 0)) ∧ Mod (fun b => b = wr.heap.size) w4 W) ⟨hp_eq (hp_set (hp_set HX4.out 2 _) 1 _) (by simp), ((Mod.refl (fun b => b = wr.heap.size) _).setCell (p := ⟨wr.heap.size, 2, none⟩) (.inl rfl) _).setCell (p := ⟨wr.heap.size, 1, none⟩) (.inl rfl) _⟩ ?_
            rintro W5 ⟨X5, M5⟩
            have HX5 := Lib.hid X5
            have HM45 := Lib.hid M5
            have HM5 := Lib.hid (show Mod (fun _ => False) wr W5 from HM4.out.trans M5 fun b hb => .inr (by omega))
            have d0 := cell_mod d0 HM5.out id
            have MF := Lib.hid (show Mod (fun _ => False) w W5 from (HM1.out.trans HMw.out fun b hb => .inr (by have := HB.out; omega)).trans' HM5.out)
            clear x0 x1 x2 xf1 xf2 d04 d14 e14 X5 M5 d1 e0 e1 e2 hX
            go_quiet (fail)
            go_wp2
            go_quiet (fail)
            go_wp2
            refine bodyPost_ret (v := .tuple #[.pointer none, .int .i64 (N : Int), .int .i64 6]) (by simp [results, Tryz.results18, go_sem]) rfl ?_
            rw [HG.out]
            exact ⟨rfl, by (repeat refine Mod.drewN ?_ _); exact MF.out⟩
          · obtain ⟨X, hX⟩ : ∃ X, X = wr.heap.size := ⟨_, rfl⟩
            refine wp_as9 (fun W => W.heap[wr.heap.size]? = some (.cells #[.int .i32 (rc : Int), .string ⟨f1.toArray⟩, .slice Ar n cr] 39 (0, 0)) ∧ Mod (fun b => b = wr.heap.size) w4 W) ⟨hp_eq (hp_set (hp_set HX4.out 2 _) 1 _) (by simp), ((Mod.refl (fun b => b = wr.heap.size) _).setCell (p := ⟨wr.heap.size, 2, none⟩) (.inl rfl) _).setCell (p := ⟨wr.heap.size, 1, none⟩) (.inl rfl) _⟩ ?_
            rintro W5 ⟨X5, M5⟩
            have HX5 := Lib.hid X5
            have HM45 := Lib.hid M5
            have HM5 := Lib.hid (show Mod (fun _ => False) wr W5 from HM4.out.trans M5 fun b hb => .inr (by omega))
            have d0 := cell_mod d0 HM5.out id
            have MF := Lib.hid (show Mod (fun _ => False) w W5 from (HM1.out.trans HMw.out fun b hb => .inr (by have := HB.out; omega)).trans' HM5.out)
            clear x0 x1 x2 xf1 xf2 d04 d14 e14 X5 M5 d1 e0 e1 e2 hX
            have HX5' := HX5.out
            have cX0 := cell_regrown (hp_cell HX5' 0)
            have cX1 := cell_regrown (hp_cell HX5' 1)
            have cX2 := cell_regrown (hp_cell HX5' 2)
            have cB := cell_regrown (hp_cell (hp_mod HBk.out HM5.out id) 0)
            obtain ⟨z, hz⟩ : ∃ z, z = mayL (hs.map FH.x) ⟨rc, f1, row⟩ := ⟨_, rfl⟩
            have HMay := Lib.hid (show ∀ X, Mod (fun _ => False) W5 X → Calls Tryz.prog 34 #[.slice Av q cv, .agg #[.int .i32 (rc : Int), .string ⟨f1.toArray⟩, .slice Ar n cr]] X fun e w' => e = .returned (.bool z) ∧ Mod (fun _ => False) X w' from fun X hX => by
              have h1 := (HRv.out.mod (HM5.out.trans' hX) fun b hb => ⟨(HFv.out b hb).2, id⟩).mono (D' := fun b => b < X.heap.size) fun b hb => by
                have := (HFv.out b hb).2; have := HM5.out.size; have := hX.size; omega
              have h2 := (HRr.out.mod (HM45.out.trans hX fun _ h => h.elim) fun b hb => ⟨hb.2, by have := hb.1; omega⟩).mono (D' := fun b => b < X.heap.size) fun b hb => by
                have := hb.2; have := HM45.out.size; have := hX.size; omega
              have h3 := gmay_any _ Av cv hs rc f1 Ar cr row X h1 h2 (fun b hb => hb) HGd.out.alone (by rw [← HQn.out]; omega) (by rw [← HNr.out]; exact hrl)
              rw [← HQn.out, ← HNr.out, ← hz] at h3
              exact h3)
            rw [← hz] at HPut
            have HZ := Lib.hid hz
            clear hz HX5'
            cases z
            · have HG := Lib.hid (HBad.out (by rw [HPut.out]; rfl))
              refine wp_region_quiet_below (by kernel_rfl) (by kernel_rfl) ?_
              repeat (go_big_quiet_step ((first | (go_at_call 34; exact regM fun X hX => HMay.out X hX) | fail)))
              refine wpQuiet_nil ?_
              intro W1 hW1
              have HQ := mod_of_regrown hW1
              clear hW1
              have d0 := cell_mod d0 HQ id
              have MF := Lib.hid (MF.out.trans' HQ)
              clear cX0 cX1 cX2 cB HQ
              go_wp2
              go_quiet (fail)
              go_wp2
              refine bodyPost_ret (v := .tuple #[.pointer none, .int .i64 (N : Int), .int .i64 6]) (by simp [results, Tryz.results18, go_sem]) rfl ?_
              rw [HG.out]
              exact ⟨rfl, by (repeat refine Mod.drewN ?_ _); exact MF.out⟩
            · skip
              refine wp_region_quiet_below (by kernel_rfl) (by kernel_rfl) ?_
              repeat (go_big_quiet_step ((first | (go_at_call 34; exact regM fun X hX => HMay.out X hX) | fail)))
              refine wpQuiet_nil ?_
              intro W1 hW1
              have HQ := mod_of_regrown hW1
              clear hW1
              have X6 := hp_mod HX5.out HQ id
              have B6 := hp_mod (hp_mod HBk.out HM5.out id) HQ id
              have HM6 := Lib.hid (HM5.out.trans' HQ)
              have HQ5 := Lib.hid (HM45.out.trans HQ fun _ h => h.elim)
              have x0 := hp_cell X6 0
              have x1 := hp_cell X6 1
              have x2 := hp_cell X6 2
              have b0 := hp_cell B6 0
              have bf0 := hp_free B6 0
              have HX6 := Lib.hid X6
              have HB6 := Lib.hid B6
              have HO6 := Lib.hid (HO.out.mod HM6.out fun _ _ => id)
              have hxl := hp_lt X6
              have hbl6 := hp_lt B6
              clear cX0 cX1 cX2 cB HQ d0 X6 B6
              go_wp2
              go_region_law ((
                refine step_app (base := w1.heap.size) (xs := hs) (ys := [⟨Ar, cr, ⟨rc, f1, row⟩⟩]) (D := fun _ => True) (v := .slice Av q cv) rfl (.tmp 89) (.tmp 91) rfl rls_t FH.cs_len FH.cs_one rfl (HO6.out.mod (C := fun _ => False) (by (repeat' (first | exact Mod.refl _ _ | assumption | refine Mod.alloc ?_ _ | refine Mod.drew ?_ | refine Mod.drewN ?_ _ | refine Mod.setCell ?_ (by first | exact Or.inl rfl | (right; simp; done) | (right; simp; omega) | (left; simp; done)) _))) (fun b _ => id)) 1 rfl rfl (rd_oneT (g := W1.heap.size) (c := #[.int .i32 (rc : Int), .string ⟨f1.toArray⟩, .slice Ar n cr]) (t := 39) (fr := (0, 0)) (by (repeat' (first | exact hp_new _ _ | exact hp_at _ _ (by simp; done) | refine hp_alloc ?_ _ | refine hp_drew ?_ | refine hp_drewN ?_ _ | apply hp_set | refine hp_far ?_ (by first | (simp; omega) | (simp; done)) _))) (by rw [HNr.out]; rfl)) ?_ ?_ ?_ ?_
                · rw [← HQn.out]; simp [maxLen]; omega
                · rw [← HQn.out]; simp; omega
                · have := HM6.out.size; simp; omega
                intro v' w' hown' hm' hat'
                obtain ⟨A5, c5, hv5, hr5, hf5, -⟩ := OwnS.rd hown' FH.cs_len
                obtain ⟨m5, hl5⟩ : ∃ m5, m5 = (hs ++ [(⟨Ar, cr, ⟨rc, f1, row⟩⟩ : FH)]).length := ⟨_, rfl⟩
                rw [← hl5] at hv5
                subst hv5
                clear hl5 hr5
                have hb2 : w'.heap[B]? = some (.cells #[.slice Av q cv] 37 (0, 0)) := hp_mod (by (repeat' (first | exact HB6.out | exact hp_new _ _ | refine hp_alloc ?_ _ | refine hp_drew ?_ | refine hp_drewN ?_ _ | apply hp_set | refine hp_far ?_ (by first | (simp; omega) | (simp; done)) _))) hm' (fun h => by have := (HFv.out _ h).1; omega)
                have z2 := hp_cell hb2 0
                have zf2 := hp_free hb2 0
                have HB2 := Lib.hid hb2
                have HM2 := Lib.hid (show Mod (fun b => (Value.slice Av q cv).ownBlock = some b) W1 w' from Mod.trans' (by (repeat' (first | exact Mod.refl _ _ | assumption | refine Mod.alloc ?_ _ | refine Mod.drew ?_ | refine Mod.drewN ?_ _ | refine Mod.setCell ?_ (by first | exact Or.inl rfl | (right; simp; done) | (right; simp; omega) | (left; simp; done)) _))) hm')
                clear hb2 hm'))
              all_goals
                have hs4 := HM4.out.size
                have hs5 := HM45.out.size
                have hs6 := HM6.out.size
                have hs7 := HM2.out.size
                have MT : Mod (fun b => b = B ∨ (Value.slice Av q cv).ownBlock = some b) wr w' := ((HM6.out.mono (C' := fun b => b = B ∨ (Value.slice Av q cv).ownBlock = some b) fun _ _ h => h.elim)).trans HM2.out fun b hb => .inl (.inr hb)
                have HMT := Lib.hid (MT.setCell (p := ⟨B, 0, none⟩) (.inl (.inl rfl)) (.slice A5 m5 c5))
                have HF5 := Lib.hid hf5
                have HAt := Lib.hid hat'
                have HOwn := Lib.hid hown'
                have HEnd := Lib.hid (show readL [] ((linesT l).take (k + 1)) = .inl ((hs ++ [(⟨Ar, cr, ⟨rc, f1, row⟩⟩ : FH)]).map FH.x) from by
                  rw [List.map_append]
                  exact read_step HRd.out HX.out (by rw [HPut.out]; rfl))
                clear MT hf5 hat' hown'
                go_wp2
                refine ⟨⟨k + 1, hs ++ [⟨Ar, cr, ⟨rc, f1, row⟩⟩], .slice A5 m5 c5, by omega, by go_num, hp_eq (hp_set HB2.out 0 _) rfl, ?_, ?_, HEnd.out, ?_⟩, by simp only [intOf]; omega⟩
                · exact HOwn.out.keep ⟨rfl, rfl, rfl, by simp [World.setCell], fun b hb => Below.heap_setCell _ _ _ _ (by have := (HF5.out b hb).1; simp; omega)⟩
                · intro h hh
                  rcases List.mem_append.1 hh with hh | hh
                  · refine ((HR.out h hh).mod HMT.out fun b hb => ⟨hb.2.1, fun hc => ?_⟩).mono fun b hb => ⟨hb.1, Nat.lt_of_lt_of_le hb.2.1 HMT.out.size, fun hc => ?_⟩
                    · rcases hc with rfl | hc
                      · have := hb.1; omega
                      · exact hb.2.2 hc
                    · rcases HAt.out with h1 | h1
                      · exact hb.2.2 (h1.symm.trans hc)
                      · rw [h1] at hc; injection hc with hc; have := hb.2.1; simp at hc; omega
                  · simp at hh; subst hh
                    have hs8 := HQ5.out.size
                    have hlt6 : ∀ b, wr.heap.size + 1 ≤ b ∧ b < w4.heap.size → ¬ (Value.slice Av q cv).ownBlock = some b := fun b hb hc => by
                      have := (HFv.out b hc).2; have := hb.1; omega
                    have hr6 := ((HRr.out.mod HQ5.out fun b hb => ⟨hb.2, by have := hb.1; omega⟩).mod HM2.out fun b hb => ⟨Nat.lt_of_lt_of_le hb.2 hs8, hlt6 b hb⟩).mod ((Mod.refl (fun b => b = B) w').setCell (p := ⟨B, 0, none⟩) (.inl rfl) (.slice A5 m5 c5)) fun b hb => ⟨by have := hb.2; omega, by have := hb.1; omega⟩
                    refine hr6.mono fun b hb => ⟨by have := hb.1; omega, by have := hb.2; simp [World.setCell]; omega, fun hc => ?_⟩
                    rcases HAt.out with h1 | h1
                    · exact hlt6 b hb (h1.symm.trans hc)
                    · rw [h1] at hc; injection hc with hc; have := hb.2; simp at hc; omega
                · exact (HMw.out.trans HMT.out fun b hb => by
                    rcases hb with rfl | hb
                    · exact .inl rfl
                    · right; exact (HFv.out b hb).1)
    · obtain rfl : k = m := by omega
      have HE := Lib.hid (show foldT l = .inl (hs.map FH.x) by
        have h := HRd.out
        rw [HM.out, List.take_length] at h
        exact h)
      have hBl := hp_lt HBk.out
      have c0 := hp_cell HBk.out 0
      go_wp2
      refine bodyPost_ret (v := .tuple #[ptrV B, .int .i64 0, .int .i64 0]) (by simp [results, Tryz.results18, go_sem]) rfl ?_
      rw [HE.out]
      refine ⟨⟨B, hs, rfl, rfl, ⟨⟨by have := HB.out; omega, hBl⟩, ⟨Av, cv, ?_, ?_⟩, fun h hh => (HR.out h hh).mono fun b hb => ⟨by have := HB.out; have := hb.1; omega, hb.2.1⟩, HGd.out⟩⟩, HM1.out.trans HMw.out fun b hb => .inr (by have := HB.out; omega)⟩
      · rw [← HQn.out]; exact hp_cell HBk.out 0
      · exact HRv.out.mono fun b hb => ⟨by have := (HFv.out b hb).1; have := HB.out; omega, (HFv.out b hb).2⟩
end Go.Proofs.YtidbgfmknhlmnaaGreatDoor
