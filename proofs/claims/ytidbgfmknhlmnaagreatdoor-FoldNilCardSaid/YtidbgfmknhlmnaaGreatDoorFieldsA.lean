/-
  The package fields and its reference: trimmed, split.
-/
import Derived.Test.YtidbgfmknhlmnaaGreatDoorProg
import Derived.Test.YtidbgfmknhlmnaaGreatDoorOwn
import Derived.Test.YtidbgfmknhlmnaaGreatDoorApp1
import Derived.Test.YtidbgfmknhlmnaaGreatDoorIter
import Derived.Test.YtidbgfmknhlmnaaGreatDoorFieldsP
import Derived.Test.YtidbgfmknhlmnaaGreatDoorFdShelf
import Derived.Shelf.Vars
namespace Go.Proofs.YtidbgfmknhlmnaaGreatDoor
open Go.RowKit Go.Shelf
attribute [local go_sem] Oper.semAt_some

theorem strs_t : SliceT Tryz.prog 73 9 1 16 := SliceT.mk' (z := .string ⟨#[]⟩) Tryz.underlying73 (by kernel_rfl) rfl (by decide)

/-- The library's variable. -/
def MaxVar (w : World) : Prop := ∃ m, w.cell? ⟨1, 0, none⟩ = some (.int .i64 m)
theorem MaxVar.mod {C : Nat → Prop} {w w' : World} (h : MaxVar w) (hm : Mod C w w') (hC : ¬ C 1) : MaxVar w' := by
  obtain ⟨m, hc⟩ := h
  exact ⟨m, (hm.cell (p := ⟨1, 0, none⟩) (World.block_lt_of_cell? w _ hc) hC).trans hc⟩

theorem MaxVar.of {w : World} (h : w.ShapedOpen Tryz.prog) : MaxVar w :=
  cell_of_shapedOpen_int (zero := #[.int .i64 0]) (t := 3) h (of_decide_eq_true (by kernel_rfl)) (by kernel_rfl) rfl (by kernel_rfl) (by kernel_rfl) Tryz.underlying3

/-! ### Strings -/
theorem rblank_any (b : UInt8) (w : World) : Calls Tryz.prog 54 #[.int .u8 b.toNat] w fun e w' => e = .returned (.bool (blankB b)) ∧ w = w' := by
  obtain ⟨x1, e1⟩ : ∃ x, ((b.toNat : Int) == 9) = x := ⟨_, rfl⟩
  obtain ⟨x2, e2⟩ : ∃ x, ((b.toNat : Int) == 13) = x := ⟨_, rfl⟩
  obtain ⟨x3, e3⟩ : ∃ x, ((b.toNat : Int) == 32) = x := ⟨_, rfl⟩
  have hk : ∀ n : Nat, n < 256 → (b == (UInt8.ofNat n)) = ((b.toNat : Int) == (n : Int)) := fun n hn => by
    rw [Bool.eq_iff_iff, beq_iff_eq, beq_iff_eq, ← UInt8.toNat_inj]
    have : (UInt8.ofNat n).toNat = n := by simp; omega
    rw [this]; omega
  have hb : blankB b = (x1 || x2 || x3) := by
    have h1 := hk 9 (by decide)
    have h2 := hk 13 (by decide)
    have h3 := hk 32 (by decide)
    unfold blankB
    rw [show (9 : UInt8) = UInt8.ofNat 9 from rfl, show (13 : UInt8) = UInt8.ofNat 13 from rfl, show (32 : UInt8) = UInt8.ofNat 32 from rfl, h1, h2, h3]
    rw [← e1, ← e2, ← e3]; rfl
  rw [hb]
  clear hb hk
  cases x1 <;> cases x2 <;> cases x3
  all_goals
    go_enter Tryz.func54, Tryz.ntmps54
    go_wp2
    go_ret
    exact ⟨rfl, rfl⟩
set_option maxHeartbeats 1000000 in
theorem rtrim_any (l : Bs) (w : World) (hl : l.length ≤ 9223372036854775807) : Calls Tryz.prog 53 #[.string ⟨l.toArray⟩] w fun e w' => e = .returned (.string ⟨(trimB l).toArray⟩) ∧ w = w' := by
  go_enter Tryz.func53, Tryz.ntmps53
  go_wp2
  go_loop [0] (fun s => ∃ r : Bs, s = .string ⟨r.toArray⟩ ∧ trimL r = trimL l ∧ r.length ≤ l.length) (fun s => lenS s)
  case atStart => exact ⟨l, rfl, rfl, Nat.le_refl _⟩
  case round =>
    obtain ⟨r, rfl, h1, h2⟩ := hrel
    have H1 := Lib.hid h1
    clear h1
    by_cases hbl : ∃ b t, r = b :: t ∧ blankB b = true
    · obtain ⟨b, r, rfl, hb⟩ := hbl
      have h3 : (b :: r).length = r.length + 1 := rfl
      have HR := Lib.hid (fun W => rblank_any b W)
      rw [hb] at HR
      have h0 : trimL r = trimL l := by rw [← H1.out, trimL_hit r hb]
      have H0 := Lib.hid h0
      clear h0 hb
      go_wp2_with (go_at_call 54; refine (HR.out _).mono ?_; rintro e w' ⟨rfl, rfl⟩)
      exact ⟨⟨r, by rw [mk_ext]; simp, H0.out, by omega⟩, by rw [mk_ext]; simp [lenS, mk_size]⟩
    · have h0 : trimR r = trimB l := by
        unfold trimB
        rw [← H1.out]
        rcases r with _ | ⟨b, r⟩
        · rfl
        · cases hb : blankB b
          · rw [trimL_miss r hb]
          · exact absurd ⟨b, r, rfl, hb⟩ hbl
      have H0 := Lib.hid h0
      clear h0
      rcases r with _ | ⟨b, r⟩
      case' nil =>
        clear hbl
        go_wp2
      case' cons =>
        have h3 : (b :: r).length = r.length + 1 := rfl
        have hb : blankB b = false := by
          cases hb : blankB b
          · rfl
          · exact absurd ⟨b, r, rfl, hb⟩ hbl
        have HR := Lib.hid (fun W => rblank_any b W)
        rw [hb] at HR
        clear hb hbl
        go_wp2_with (go_at_call 54; refine (HR.out _).mono ?_; rintro e w' ⟨rfl, rfl⟩)
      all_goals
        go_loop [0] (fun s => ∃ r : Bs, s = .string ⟨r.toArray⟩ ∧ trimR r = trimB l ∧ r.length ≤ l.length) (fun s => lenS s)
        case atStart => exact ⟨_, rfl, H0.out, h2⟩
        case round =>
          obtain ⟨r', rfl, h4, h5⟩ := hrel
          clear H0 H1
          have H4 := Lib.hid h4
          clear h4
          rcases List.eq_nil_or_concat r' with rfl | ⟨t, c, rfl⟩
          · go_wp2
            go_ret
            exact ⟨ret_str (a := []) (by rw [← H4.out]; rfl), rfl⟩
          · rw [List.concat_eq_append] at *
            have h6 : (t ++ [c]).length = t.length + 1 := by simp
            have h7 : ∀ h, (⟨(t ++ [c]).toArray⟩ : ByteArray)[t.length]'h = c := fun h => by
              show (t ++ [c])[t.length] = c
              simp
            cases hc : blankB c
            · have HR := Lib.hid (fun W => rblank_any c W)
              rw [hc] at HR
              have H8 := Lib.hid (trimR_miss t hc)
              clear hc
              go_wp2_with (go_at_call 54; refine (HR.out _).mono ?_; rintro e w' ⟨rfl, rfl⟩)
              go_ret
              exact ⟨ret_str (a := t ++ [c]) (by rw [← H4.out, H8.out]), rfl⟩
            · have HR := Lib.hid (fun W => rblank_any c W)
              rw [hc] at HR
              have H8 := Lib.hid (trimR_hit t hc)
              clear hc
              go_wp2_with (go_at_call 54; refine (HR.out _).mono ?_; rintro e w' ⟨rfl, rfl⟩)
              exact ⟨⟨t, by rw [mk_ext]; simp, by rw [← H4.out, H8.out], by omega⟩, by rw [mk_ext]; simp [lenS, mk_size]⟩

set_option maxRecDepth 100000 in
set_option maxHeartbeats 1000000 in
theorem rsplit_any (l : Bs) (c : UInt8) (nc : Int) (hnc : nc = c.toNat) (w : World) (hl : l.length ≤ 1099511627776) : Calls Tryz.prog 52 #[.string ⟨l.toArray⟩, .int .u8 nc] w fun e w' =>
    ∃ v, e = .returned v ∧ OwnS w.heap.size 9 1 csB w' v (splitC c l) ∧ Mod (fun _ => False) w w' := by
  subst hnc
  have H0 := Lib.hid (OwnS.nil w.heap.size 9 1 csB w)
  go_enter Tryz.func52, Tryz.ntmps52
  go_wp2
  go_loopw [5, 6, 7] (fun v f i wr => ∃ (k j : Nat) (xs : List Bs), j ≤ k ∧ k ≤ l.length ∧ i = .int .i64 k ∧ f = .int .i64 j ∧ OwnS w.heap.size 9 1 csB wr v xs ∧ Mod (fun _ => False) w wr ∧
      xs.length ≤ k ∧ xs ++ hdApp ((l.take k).drop j) (splitC c (l.drop k)) = splitC c l) (fun _ _ i _ => l.length - (intOf i).toNat)
  case atStart => exact ⟨0, 0, [], Nat.le_refl _, Nat.zero_le _, rfl, rfl, H0.out, Mod.refl _ _, Nat.le_refl _, by simp [hdApp_nil (splitC_ne c l)]⟩
  case round =>
    obtain ⟨k, j, xs, hjk, hk, rfl, rfl, hown, hm, hxs, hsp⟩ := hrel
    have HO := Lib.hid hown
    have HM := Lib.hid hm
    have HS := Lib.hid hsp
    clear hown hm hsp H0
    have hs := HM.out.size
    by_cases hlt : k < l.length
    · obtain ⟨b, hb⟩ : ∃ b, b = l[k] := ⟨_, rfl⟩
      have h7 : ∀ h, (⟨l.toArray⟩ : ByteArray)[k]'h = b := fun h => by rw [hb]; rfl
      have HD := Lib.hid (show l.drop k = b :: l.drop (k + 1) by rw [hb]; exact List.drop_eq_getElem_cons hlt)
      have HT := Lib.hid (show l.take (k + 1) = l.take k ++ [b] by rw [hb]; exact List.take_succ_eq_append_getElem hlt)
      clear hb
      by_cases hc : b = c
      · have hc1 : ((b.toNat : Int) == (c.toNat : Int)) = true := by simp [hc]
        have HC := Lib.hid hc
        clear hc
        go_wp2_with (at_builtin
                     refine wpList_app1 (w0 := w) (xs := xs) (y := (l.drop j).take (k - j)) rfl (.tmp 19) (.tmp 24) rfl strs_t csB_len csB_one rfl HO.out HM.out rfl ?_ ?_ ?_ ?_
                     · rw [mk_ext]; rfl
                     · simp [maxLen]; omega
                     · first | omega | (simp; omega)
                     intro v' w2 hown2 hm2 _ _
                     have HO2 := Lib.hid hown2
                     have HM2 := Lib.hid hm2
                     clear hown2 hm2)
        go_roundw
        case rel =>
          refine ⟨k + 1, k + 1, xs ++ [(l.drop j).take (k - j)], Nat.le_refl _, by omega, by go_num, by go_num, HO2.out, HM2.out, by simp; omega, ?_⟩
          rw [← HS.out, HD.out, HC.out, split_hit, List.append_assoc]
          simp [hdApp_nil (splitC_ne c _), List.drop_take]
        case measure => simp only [intOf]; omega
      · have hc1 : ((b.toNat : Int) == (c.toNat : Int)) = false := by
          rw [beq_eq_false_iff_ne]; intro e; exact hc (UInt8.toNat_inj.1 (by omega))
        have HC := Lib.hid hc
        clear hc
        go_wp2
        go_roundw
        case rel =>
          refine ⟨k + 1, j, xs, by omega, by omega, by go_num, rfl, HO.out, HM.out, by omega, ?_⟩
          rw [← HS.out, HD.out, split_miss HC.out, HT.out, List.drop_append_of_le_length (by simp; omega)]
        case measure => simp only [intOf]; omega
    · obtain rfl : k = l.length := by omega
      go_wp2_with (at_builtin
                   refine wpList_app1 (w0 := w) (xs := xs) (y := (l.drop j).take (l.length - j)) rfl (.tmp 28) (.tmp 32) rfl strs_t csB_len csB_one rfl HO.out HM.out rfl ?_ ?_ ?_ ?_
                   · rw [mk_ext]; rfl
                   · simp [maxLen]; omega
                   · first | omega | (simp; omega)
                   intro v' w2 hown2 hm2 _ _
                   have HO2 := Lib.hid hown2
                   have HM2 := Lib.hid hm2
                   clear hown2 hm2)
      go_ret
      refine ⟨_, rfl, ?_, HM2.out⟩
      have h := HS.out
      rw [List.drop_length, split_end, List.drop_take] at h
      rw [← h]
      exact HO2.out

/-! ### The package -/
theorem ftrim_any (l : Bs) (w : World) (hl : l.length ≤ 9223372036854775807) : Calls Tryz.prog 69 #[.string ⟨l.toArray⟩] w fun e w' => e = .returned (.string ⟨(trimB l).toArray⟩) ∧ Mod (fun _ => False) w w' := by
  have hcon := Any.strings_Trim_laid Tryz.lays160 (by kernel_rfl) ⟨l.toArray⟩ ⟨#[32, 9, 13]⟩ w hl (by decide) (ascii_of_all (by decide))
  change Calls Tryz.prog 79 _ _ (fun e w' => e = .returned (.string ⟨(Lib.trimS l [32, 9, 13]).toArray⟩) ∧ Below w.heap.size w w') at hcon
  rw [trimS_eq] at hcon
  generalize (⟨(trimB l).toArray⟩ : ByteArray) = r at hcon ⊢
  have HC := Lib.hid hcon
  clear hcon
  go_enter Tryz.func69, Tryz.ntmps69
  go_wp2_with (go_at_call 79; refine HC.out.mono ?_; rintro e w' ⟨rfl, hB⟩)
  go_ret
  exact ⟨rfl, Mod.of_below hB _ (fun _ h1 h2 => by omega)⟩
theorem cut_any (l : Bs) (c : UInt8) (w : World) (hm : MaxVar w) (hl : l.length < 4294967281) :
    Calls Tryz.prog 68 #[.string ⟨l.toArray⟩, .string ⟨#[c]⟩] w fun e w' => (∃ b, e = .returned (.tuple #[.string ⟨(upC c l).toArray⟩, .string ⟨(offC c l).toArray⟩, .bool b])) ∧ Mod (fun _ => False) w w' := by
  obtain ⟨m, hm⟩ := hm
  have hcon := Any.strings_Cut Tryz.lays145 ⟨l.toArray⟩ ⟨#[c]⟩ m w hl hm
  change Calls Tryz.prog 68 _ _ (fun e w' => e = .returned (.tuple #[.string ⟨(Lib.cut l [c]).1.toArray⟩, .string ⟨(Lib.cut l [c]).2.1.toArray⟩, .bool (Lib.cut l [c]).2.2]) ∧ ∃ n, w' = w.drewN n) at hcon
  rw [cut_c] at hcon
  refine hcon.mono ?_
  rintro e w' ⟨rfl, n, rfl⟩
  exact ⟨⟨_, rfl⟩, (Mod.refl _ w).drewN n⟩
theorem split_any (l : Bs) (c : UInt8) (w : World) (hm : MaxVar w) (hl : l.length < 4294967281) :
    Calls Tryz.prog 70 #[.string ⟨l.toArray⟩, .string ⟨#[c]⟩] w fun e w' => e = .returned (.slice (some ⟨w.heap.size, 0, none⟩) (splitC c l).length (splitC c l).length) ∧ w.alloc (.cells ((splitC c l).flatMap csB).toArray 9) = w' := by
  obtain ⟨m, hm⟩ := hm
  have hcon := Any.strings_Split Tryz.lays146 (by kernel_rfl) ⟨l.toArray⟩ ⟨#[c]⟩ m w hl hm (Nat.le_refl 1)
  change Calls Tryz.prog 70 _ _ (fun e w' => e = .returned (.slice (some ⟨w.heap.size, 0, none⟩) (Lib.countB ⟨l.toArray⟩ ⟨#[c]⟩ + 1) (Lib.countB ⟨l.toArray⟩ ⟨#[c]⟩ + 1)) ∧ w' = w.alloc (.cells ((Lib.splitB ⟨#[c]⟩ 0 (Lib.countB ⟨l.toArray⟩ ⟨#[c]⟩) ⟨l.toArray⟩).map Value.string).toArray 9)) at hcon
  have hk : Lib.countB ⟨l.toArray⟩ ⟨#[c]⟩ = l.count c := Lib.count_one c l
  have hd := Lib.splitB_data ⟨#[c]⟩ 0 (l.count c) ⟨l.toArray⟩
  have hd : (Lib.splitB ⟨#[c]⟩ 0 (l.count c) ⟨l.toArray⟩).map (·.data.toList) = splitC c l := hd.trans (splitK_c c _ l rfl)
  have hn : (splitC c l).length = l.count c + 1 := by
    rw [← hd, List.length_map, ← hk]; exact Lib.splitB_all ⟨#[c]⟩ (Nat.le_refl 1) 0 _ _ rfl
  rw [hk] at hcon
  have hc : (splitC c l).flatMap csB = (Lib.splitB ⟨#[c]⟩ 0 (l.count c) ⟨l.toArray⟩).map Value.string := by
    rw [← hd, List.flatMap_map]
    induction Lib.splitB ⟨#[c]⟩ 0 (l.count c) ⟨l.toArray⟩ with
    | nil => rfl
    | cons x r ih => simp only [List.flatMap_cons, List.map_cons, ih]; rfl
  rw [hn, hc]
  refine hcon.mono ?_
  rintro e w' ⟨rfl, rfl⟩
  exact ⟨rfl, rfl⟩
theorem raw_any (l : Bs) (w : World) : Calls Tryz.prog 67 #[.string ⟨l.toArray⟩] w fun e w' => e = .returned (.func (.func 77) #[] #[.pointer (some ⟨w.heap.size, 0, none⟩)]) ∧ w.alloc (.cells #[.string ⟨l.toArray⟩] 9) = w' := by
  go_enter Tryz.func67, Tryz.ntmps67
  go_wp2
  go_ret
  exact ⟨rfl, rfl⟩
theorem flines_any (l : Bs) (w : World) : Calls Tryz.prog 46 #[.string ⟨l.toArray⟩] w fun e w' => e = .returned (.func (.func 66) #[] #[.pointer (some ⟨w.heap.size, 0, none⟩)]) ∧ w.alloc (.cells #[.string ⟨l.toArray⟩] 9) = w' := by
  go_enter Tryz.func46, Tryz.ntmps46
  go_wp2
  go_ret
  exact ⟨rfl, rfl⟩

def rawEncs (l : Bs) : List (Array Value) := (rawL l).mapIdx fun k x => #[.int .i64 ((k : Int) + 1), .string ⟨x.toArray⟩]
theorem offC_lt (c : UInt8) {l : Bs} (h : l ≠ []) : (offC c l).length < l.length := by
  have h1 := (List.dropWhile_sublist (l := l) (· != c)).length_le
  have h2 : 0 < l.length := List.length_pos_iff.2 h
  unfold offC
  rw [List.length_drop]
  omega
set_option maxRecDepth 100000 in
set_option maxHeartbeats 1000000 in
theorem raw1_iter (Bt : Nat) (l : Bs) (D : Nat → Prop) (w : World) (hl : l.length ≤ 4294967000)
    (hBt : w.cell? ⟨Bt, 0, none⟩ = some (.string ⟨l.toArray⟩)) (hD : D Bt) (hDm : D 1) (hDl : ∀ b, D b → b < w.heap.size) (hmx : MaxVar w) :
    Iter Tryz.prog 77 #[.pointer (some ⟨Bt, 0, none⟩)] (rawEncs l) D w := by
  intro y J Jx C0 W hAg hC hJ hJx hY h0
  have hBt' := (hAg.cell (p := ⟨Bt, 0, none⟩) hD).trans hBt
  have hmx' : MaxVar W := by obtain ⟨m, hc⟩ := hmx; exact ⟨m, (hAg.cell (p := ⟨1, 0, none⟩) hDm).trans hc⟩
  have HMx := Lib.hid hmx'
  have HG := Lib.hid (show ¬ C0 1 from fun h => (hC _ h).2 hDm)
  have hlen : (rawEncs l).length = (rawL l).length := by simp [rawEncs]
  obtain ⟨n, hn⟩ : ∃ n, n = (rawL l).length := ⟨_, rfl⟩
  have hnl : n ≤ l.length := by rw [hn]; exact rawL_len l
  have HN := Lib.hid hn
  have HL := Lib.hid hlen
  clear hBt hmx hmx' hn hlen
  refine callsIn_wide.1 (callsIn_of_wp (n := 0) (F := Fence.wide) Tryz.func77 rfl trivial ?_ rfl)
  simp only [Tryz.ntmps77, List.size_toArray, List.length_cons, List.length_nil, Nat.reduceAdd, Nat.reduceSub, Array.replicate_succ, Array.replicate_zero, List.push_toArray, List.append_toArray, List.nil_append, List.cons_append]
  gi_wp2
  gi_loopw [3, 4] (fun i s wr => ∃ (k : Nat) (r : Bs) (C : Nat → Prop), k ≤ n ∧ i = .int .i64 k ∧ s = .string ⟨r.toArray⟩ ∧ r.length ≤ l.length ∧ rawL r = (rawL l).drop k ∧ J k C wr ∧ Mod C0 W wr ∧ (∀ b, C b → b < wr.heap.size ∧ (C0 b ∨ W.heap.size ≤ b)))
    (fun _ s _ => lenS s)
  case atStart => exact ⟨0, l, C0, Nat.zero_le _, rfl, rfl, Nat.le_refl _, rfl, h0, Mod.refl _ _, fun b hb => ⟨(hC b hb).1, .inl hb⟩⟩
  case round =>
    obtain ⟨k, r, C, hk, rfl, rfl, hr, hrw, hJs, hm, hb⟩ := hrel
    have HRW := Lib.hid hrw
    clear hrw
    by_cases hre : r = []
    · subst hre
      gi_wp2
      go_end0
      have h2 := HRW.out
      have h3 : k = n := by
        have h4 := congrArg List.length h2
        simp [rawL, ← HN.out] at h4
        omega
      refine ⟨⟨_, rfl⟩, .inl ⟨C, ?_, hm, hb⟩⟩
      rw [HL.out, ← HN.out, ← h3]
      exact hJs
    · have hrl : 0 < r.length := List.length_pos_iff.2 hre
      have hst := rawL_step hre
      rw [HRW.out] at hst
      have hkn : k < (rawL l).length := by
        have h4 := congrArg List.length hst
        simp at h4
        omega
      have hx : (rawL l)[k] = upC 10 r := by
        have := congrArg (fun z => z[0]?) hst
        simp at this
        rw [List.getElem?_eq_getElem hkn] at this
        simpa using this
      have hdr : rawL (offC 10 r) = (rawL l).drop (k + 1) := by
        have := congrArg (List.drop 1) hst
        simpa using this.symm
      have HDR := Lib.hid hdr
      have hlt := offC_lt 10 hre
      have hle := upC_len 10 r
      have hk2 : k < (rawEncs l).length := by rw [HL.out]; exact hkn
      have hen : (rawEncs l)[k] = #[.int .i64 ((k : Int) + 1), .string ⟨(upC 10 r).toArray⟩] := by simp [rawEncs, hx]
      have hne : (Value.string ⟨r.toArray⟩) ≠ .string ⟨#[]⟩ := by
        intro e
        have : r.toArray = #[] := by injection e with e; injection e
        exact hre (by simpa using this)
      have HCut := Lib.hid (cut_any r 10 wr (HMx.out.mod hm HG.out) (by omega))
      have hrt : r.toArray.toList.isEmpty = false := by simp [hre]
      clear hBt' hst hx hdr hre hkn HG
      have HM := Lib.hid hm
      clear hm
      gi_wp2_with ((refine ⟨trivial, rfl, ?_⟩; gi_at_call 68)
                   refine ci HCut.out ?_
                   rintro e w1 ⟨⟨fb, rfl⟩, hm1⟩
                   obtain ⟨fn, tmps, assign, body, hy, hR⟩ := hY k hk2 C w1 (hJ _ _ _ _ hJs (hm1.agree fun b h => ⟨(hb b h).1, id⟩)) (HM.out.trans hm1 (fun b h => h.elim)) (fun b h => ⟨Nat.lt_of_lt_of_le (hb b h).1 hm1.size, (hb b h).2⟩)
                   simp only [hen] at hy
                   have HM1 := Lib.hid hm1
                   clear hm1 hY)
      refine ⟨rfl, (hR _).mono ?_⟩
      have hs1 := HM1.out.size
      have hs2 := HM.out.size
      rintro e W3 (⟨rfl, C', hJ3, hm3, hb3⟩ | ⟨rfl, C', hJ3, hm3, hb3⟩)
      all_goals
        have M3 := (HM.out.trans HM1.out (fun b h => h.elim)).trans hm3 (fun b h => (hb b h).2)
        have B3 : ∀ b, C' b → b < W3.heap.size ∧ (C0 b ∨ W.heap.size ≤ b) := fun b h => ⟨(hb3 b h).1, (hb3 b h).2.elim (fun h => (hb b h).2) (fun h => .inr (by omega))⟩
      · gi_wp2
        go_roundw
        case rel => exact ⟨k + 1, offC 10 r, C', by have := HL.out; have := HN.out; omega, by go_num, rfl, by omega, HDR.out, hJ3, M3, B3⟩
        case measure => exact hlt
      · gi_wp2
        refine bodyPost_ret (results_none rfl _ _ _) rfl ?_
        exact ⟨⟨_, rfl⟩, .inr ⟨k + 1, by omega, by omega, C', hJ3, M3, B3⟩⟩
end Go.Proofs.YtidbgfmknhlmnaaGreatDoor
