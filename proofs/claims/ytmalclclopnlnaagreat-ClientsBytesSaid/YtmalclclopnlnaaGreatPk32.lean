/-
  Texts of this claim, one behind the other: CliG, RefQ, RefI, RefJ.
-/
import Derived.Test.YtmalclclopnlnaaGreatPk08
import Derived.Test.YtmalclclopnlnaaGreatPk09
import Derived.Test.YtmalclclopnlnaaGreatPk10
import Derived.Test.YtmalclclopnlnaaGreatPk14
import Derived.Test.YtmalclclopnlnaaGreatPk31
import Derived.Deep.RegionLaw
/-
  The package clients: numbers as bytes, put and taken.
-/
namespace Go.Proofs.YtmalclclopnlnaaGreat
open Go.RowKit Go.Shelf
attribute [local go_sem] Oper.semAt_some

theorem be_take (K n i : Nat) (h : i < K) : (be K n).take (i + 1) = (be K n).take i ++ [UInt8.ofNat (n / 256 ^ (K - 1 - i) % 256)] := by
  have hl : i < (be K n).length := by rw [be_len]; exact h
  rw [List.take_succ_eq_append_getElem hl, be_at K n i h]
theorem byte_cs (z : Int) (m : Nat) (h : z = ((m % 256 : Nat) : Int)) : #[Value.int .u8 z].toList = csU (UInt8.ofNat (m % 256)) := by
  rw [h]
  show [Value.int .u8 _] = [Value.int .u8 _]
  rw [UInt8.toNat_ofNat', Nat.mod_mod]
def NumbEnds (base : Nat) (v : Value) (l : Bs) (w : World) (e : Ending) (w' : World) : Prop :=
  ∃ A c, e = .returned (.slice A l.length c) ∧ OwnS base 5 1 csU w' (.slice A l.length c) l ∧ Mod (fun b => v.ownBlock = some b) w w' ∧ ((Value.slice A l.length c).ownBlock = v.ownBlock ∨ ∀ b, (Value.slice A l.length c).ownBlock = some b → w.heap.size ≤ b)
set_option maxRecDepth 100000 in
set_option maxHeartbeats 2000000 in
theorem tnumber_any (base K n : Nat) (hK : K = 4 ∨ K = 8) (A : Option Addr) (l : Bs) (c : Nat) (w : World) (hv : OwnS base 5 1 csU w (.slice A l.length c) l) (hl : l.length ≤ 1099511627776) (hb : base ≤ w.heap.size) :
    Calls Tryz.prog 36 #[.slice A l.length c, .int .u64 (n : Int), .int .i64 (K : Int)] w (NumbEnds base (.slice A l.length c) (l ++ be K n) w) := by
  obtain ⟨v, hv0⟩ : ∃ v, v = Value.slice A l.length c := ⟨_, rfl⟩
  rw [← hv0] at hv ⊢
  have HV := Lib.hid hv
  have HL := Lib.hid hl
  have HB := Lib.hid hb
  clear hv hl hv0 hb
  have hK8 : K ≤ 8 := by omega
  rcases hK with rfl | rfl
  · show Calls Tryz.prog 36 #[v, .int .u64 (n : Int), .int .i64 4] w _
    go_enter Tryz.func36, Tryz.ntmps36
    go_wp2
    go_loopw [0, 9] (fun u i wr => ∃ k : Nat, i = .int .i64 (k : Int) ∧ k ≤ 4 ∧ OwnS base 5 1 csU wr u (l ++ (be 4 n).take k) ∧ Mod (fun b => v.ownBlock = some b) w wr ∧ (u.ownBlock = v.ownBlock ∨ ∀ b, u.ownBlock = some b → w.heap.size ≤ b)) (fun _ i _ => 4 - (intOf i).toNat)
    case atStart => exact ⟨0, rfl, by omega, by simpa using HV.out, Mod.refl _ _, .inl rfl⟩
    case round =>
      obtain ⟨k, rfl, hk, ho, hm, hat⟩ := hrel
      have HO := Lib.hid ho
      have HM := Lib.hid hm
      have HAt := Lib.hid hat
      clear ho hm hat
      by_cases hk8 : k = 4
      · subst hk8
        go_wp2
        go_ret
        obtain ⟨A1, c1, hv1, -, -, -⟩ := HO.out.rd csU_len
        have e : (be 4 n).take 4 = be 4 n := List.take_of_length_le (by rw [be_len]; exact Nat.le_refl _)
        have ho := HO.out
        have hat := HAt.out
        rw [e] at hv1 ho
        subst hv1
        exact ⟨A1, c1, rfl, ho, HM.out, hat⟩
      · have hl : decide ((k : Int) < 4) = true := by rw [decide_eq_true_eq]; omega
        have hk7 : k < 4 := by omega
        have HT := Lib.hid (be_take 4 n k hk7)
        have HSB := Lib.hid (shr_byte n (3 - k))
        have hlen : (l ++ (be 4 n).take k).length ≤ 1099511627784 := by rw [List.length_append, List.length_take, be_len]; have := HL.out; omega
        have HLen := Lib.hid hlen
        have hs := HM.out.size
        clear hlen
        go_wp2_with (first
          | (at_builtin
             refine wpList_app (base := base) (xs := l ++ (be 4 n).take k) (ys := [UInt8.ofNat (n / 256 ^ (4 - 1 - k) % 256)]) rfl (.tmp 12) (.tmp 21) rfl u8s_t csU_len csU_one rfl (HO.out.mod (C := fun _ => False) (by (repeat' (first | exact Mod.refl _ _ | assumption | refine Mod.alloc ?_ _ | refine Mod.drew ?_ | refine Mod.drewN ?_ _ | refine Mod.setCell ?_ (by first | exact Or.inl rfl | (right; simp; done) | (right; simp; omega) | (left; simp; done)) _))) fun _ _ => id) 1 rfl rfl (Rd.one (hp_new _ _) ?_) ?_ ?_ ?_ ?_
             · exact byte_cs _ _ HSB.out
             · have := HLen.out; simp [maxLen] at *; omega
             · have := HLen.out; simp at *; omega
             · have := HB.out; simp; omega
             intro v' w4 hown4 hm4 hat4
             have HO4 := Lib.hid hown4
             have HM4 := Lib.hid hm4
             have HAt4 := Lib.hid hat4
             clear hown4 hm4 hat4)
          | fail)
        have hown5 := HO4.out
        rw [List.append_assoc, ← HT.out] at hown5
        have hm5 : Mod (fun b => v.ownBlock = some b) w w4 := (HM.out.alloc _).trans HM4.out fun b hb => by
          rcases HAt.out with e | e
          · exact .inl (e ▸ hb)
          · exact .inr (e b hb)
        have hat5 : v'.ownBlock = v.ownBlock ∨ ∀ b, v'.ownBlock = some b → w.heap.size ≤ b := by
          rcases HAt4.out with e | e
          · rcases HAt.out with e2 | e2
            · exact .inl (e.trans e2)
            · exact .inr fun b hb => e2 b (e ▸ hb)
          · refine .inr fun b hb => ?_
            rw [e] at hb
            injection hb with hb
            simp at hb
            omega
        go_roundw
        case rel => exact ⟨k + 1, by go_num, by omega, hown5, hm5, hat5⟩
        case measure => simp only [intOf]; omega
  · show Calls Tryz.prog 36 #[v, .int .u64 (n : Int), .int .i64 8] w _
    go_enter Tryz.func36, Tryz.ntmps36
    go_wp2
    go_loopw [0, 9] (fun u i wr => ∃ k : Nat, i = .int .i64 (k : Int) ∧ k ≤ 8 ∧ OwnS base 5 1 csU wr u (l ++ (be 8 n).take k) ∧ Mod (fun b => v.ownBlock = some b) w wr ∧ (u.ownBlock = v.ownBlock ∨ ∀ b, u.ownBlock = some b → w.heap.size ≤ b)) (fun _ i _ => 8 - (intOf i).toNat)
    case atStart => exact ⟨0, rfl, by omega, by simpa using HV.out, Mod.refl _ _, .inl rfl⟩
    case round =>
      obtain ⟨k, rfl, hk, ho, hm, hat⟩ := hrel
      have HO := Lib.hid ho
      have HM := Lib.hid hm
      have HAt := Lib.hid hat
      clear ho hm hat
      by_cases hk8 : k = 8
      · subst hk8
        go_wp2
        go_ret
        obtain ⟨A1, c1, hv1, -, -, -⟩ := HO.out.rd csU_len
        have e : (be 8 n).take 8 = be 8 n := List.take_of_length_le (by rw [be_len]; exact Nat.le_refl _)
        have ho := HO.out
        have hat := HAt.out
        rw [e] at hv1 ho
        subst hv1
        exact ⟨A1, c1, rfl, ho, HM.out, hat⟩
      · have hl : decide ((k : Int) < 8) = true := by rw [decide_eq_true_eq]; omega
        have hk7 : k < 8 := by omega
        have HT := Lib.hid (be_take 8 n k hk7)
        have HSB := Lib.hid (shr_byte n (7 - k))
        have hlen : (l ++ (be 8 n).take k).length ≤ 1099511627784 := by rw [List.length_append, List.length_take, be_len]; have := HL.out; omega
        have HLen := Lib.hid hlen
        have hs := HM.out.size
        clear hlen
        go_wp2_with (first
          | (at_builtin
             refine wpList_app (base := base) (xs := l ++ (be 8 n).take k) (ys := [UInt8.ofNat (n / 256 ^ (8 - 1 - k) % 256)]) rfl (.tmp 12) (.tmp 21) rfl u8s_t csU_len csU_one rfl (HO.out.mod (C := fun _ => False) (by (repeat' (first | exact Mod.refl _ _ | assumption | refine Mod.alloc ?_ _ | refine Mod.drew ?_ | refine Mod.drewN ?_ _ | refine Mod.setCell ?_ (by first | exact Or.inl rfl | (right; simp; done) | (right; simp; omega) | (left; simp; done)) _))) fun _ _ => id) 1 rfl rfl (Rd.one (hp_new _ _) ?_) ?_ ?_ ?_ ?_
             · exact byte_cs _ _ HSB.out
             · have := HLen.out; simp [maxLen] at *; omega
             · have := HLen.out; simp at *; omega
             · have := HB.out; simp; omega
             intro v' w4 hown4 hm4 hat4
             have HO4 := Lib.hid hown4
             have HM4 := Lib.hid hm4
             have HAt4 := Lib.hid hat4
             clear hown4 hm4 hat4)
          | fail)
        have hown5 := HO4.out
        rw [List.append_assoc, ← HT.out] at hown5
        have hm5 : Mod (fun b => v.ownBlock = some b) w w4 := (HM.out.alloc _).trans HM4.out fun b hb => by
          rcases HAt.out with e | e
          · exact .inl (e ▸ hb)
          · exact .inr (e b hb)
        have hat5 : v'.ownBlock = v.ownBlock ∨ ∀ b, v'.ownBlock = some b → w.heap.size ≤ b := by
          rcases HAt4.out with e | e
          · rcases HAt.out with e2 | e2
            · exact .inl (e.trans e2)
            · exact .inr fun b hb => e2 b (e ▸ hb)
          · refine .inr fun b hb => ?_
            rw [e] at hb
            injection hb with hb
            simp at hb
            omega
        go_roundw
        case rel => exact ⟨k + 1, by go_num, by omega, hown5, hm5, hat5⟩
        case measure => simp only [intOf]; omega
end Go.Proofs.YtmalclclopnlnaaGreat
/-
  The document's results: a list of values.
-/
namespace Go.Proofs.YtmalclclopnlnaaGreat
open Go.RowKit Go.Shelf
attribute [local go_sem] Oper.semAt_some

/-- Bytes as they lie. -/
structure BC where
  A : Option Addr
  c : Nat
  b : Bs
def BC.cs (x : BC) : List Value := [.slice x.A x.b.length x.c]
theorem BC.cs_len (x : BC) : x.cs.length = 1 := rfl
theorem BC.cs_one (x : BC) : ∀ u ∈ x.cs, u.oneCell' = true := by simp [BC.cs, Value.oneCell']
theorem u8ss_t : SliceT Tryz.prog 96 35 1 24 := SliceT.mk' (z := .slice none 0 0) Tryz.underlying96 (by kernel_rfl) rfl (by decide)
def bcV (l : List BC) : Bs := l.flatMap fun x => valV 1 x.b
theorem bcV_snoc (l : List BC) (x : BC) : bcV (l ++ [x]) = bcV l ++ valV 1 x.b := by unfold bcV; rw [List.flatMap_append]; simp
theorem bcV_take {l : List BC} {k : Nat} (h : k < l.length) : bcV (l.take (k + 1)) = bcV (l.take k) ++ valV 1 l[k].b := by rw [List.take_succ_eq_append_getElem h, bcV_snoc]
theorem bcV_take_len (l : List BC) (k : Nat) : (bcV (l.take k)).length ≤ (bcV l).length := by
  conv => rhs; rw [← List.take_append_drop k l]
  unfold bcV
  rw [List.flatMap_append, List.length_append]
  omega
theorem rdBC {D : Nat → Prop} {w : World} {A : Option Addr} {xs : List BC} (h : Rd D w 1 BC.cs A xs) {k : Nat} (hk : k < xs.length) :
    ∃ b off, A = some ⟨b, off, none⟩ ∧ D b ∧ w.cell? ⟨b, off + k, none⟩ = some (.slice xs[k].A xs[k].b.length xs[k].c) := by
  obtain ⟨b, off, rfl, hd, hc⟩ := h (by omega)
  refine ⟨b, off, rfl, hd, ?_⟩
  have := hc k hk 0 _ rfl
  simpa using this
set_option maxRecDepth 100000 in
set_option maxHeartbeats 2000000 in
theorem rlist23_any (t : UInt8) (A : Option Addr) (c : Nat) (l : List BC) (w : World) (hA : Rd (fun b => b < w.heap.size) w 1 BC.cs A l) (hl : ∀ x ∈ l, Rd (fun b => b < w.heap.size) w 1 csU x.A x.b) (hb : (bcV l).length ≤ 4194304) :
    Calls Tryz.prog 41 #[.int .u8 (t.toNat : Int), .slice A l.length c] w fun e w' => ∃ A' c' k, e = .returned (.tuple #[.slice A' k c', .bool true]) ∧ k = (valV t (bcV l)).length ∧ OwnS w.heap.size 5 1 csU w' (.slice A' k c') (valV t (bcV l)) ∧ Mod (fun _ => False) w w' := by
  obtain ⟨n, hn⟩ : ∃ n, n = l.length := ⟨_, rfl⟩
  rw [← hn]
  have hnl : n ≤ 4194304 := by
    rw [hn]
    have : ∀ l : List BC, l.length ≤ (bcV l).length := fun l => by
      induction l with
      | nil => simp [bcV]
      | cons a l ih =>
        have : bcV (a :: l) = valV 1 a.b ++ bcV l := rfl
        rw [this, List.length_append, valV_len, List.length_cons]
        omega
    exact Nat.le_trans (this l) hb
  have HN := Lib.hid hn
  have HA := Lib.hid (fun X (hX : Mod (fun _ => False) w X) => hA.mod hX fun b hb => ⟨hb, id⟩)
  have HL := Lib.hid (fun X (hX : Mod (fun _ => False) w X) x hx => (hl x hx).mod hX fun b hb => ⟨hb, id⟩)
  have HB := Lib.hid hb
  clear hn hA hl hb
  go_enter Tryz.func41, Tryz.ntmps41
  go_wp2
  go_loopw [6, 7] (fun u i wr => ∃ k : Nat, k ≤ n ∧ i = .int .i64 (k : Int) ∧ OwnS w.heap.size 5 1 csU wr u (bcV (l.take k)) ∧ Mod (fun _ => False) w wr) (fun _ i _ => n - (intOf i).toNat)
  case atStart => exact ⟨0, Nat.zero_le _, rfl, OwnS.nil _ _ _ _ _, Mod.refl _ _⟩
  case round =>
    obtain ⟨k, hk, rfl, ho, hm⟩ := hrel
    have hkl := bcV_take_len l k
    have HO := Lib.hid ho
    have HM := Lib.hid hm
    have hs := hm.size
    clear ho hm
    by_cases hkn : k < n
    · have hkx : k < l.length := by rw [← HN.out]; exact hkn
      obtain ⟨b1, o1, rfl, -, p0⟩ := rdBC (HA.out _ HM.out) hkx
      obtain ⟨x, hx⟩ : ∃ x, x = l[k] := ⟨_, rfl⟩
      have ht := bcV_take hkx
      rw [← hx] at p0 ht
      have hkl2 := bcV_take_len l (k + 1)
      rw [ht, List.length_append, valV_len] at hkl2
      have hxl : x.b.length ≤ 4194304 := by have := HB.out; omega
      have hv := fvalue_any 1 _ x.A x.c x.b wr (HL.out _ HM.out x (by rw [hx]; exact List.getElem_mem _)) hxl
      rw [show (((1 : UInt8).toNat : Nat) : Int) = 1 from rfl] at hv
      obtain ⟨j, hj⟩ : ∃ j, j = (valV 1 x.b).length := ⟨_, rfl⟩
      obtain ⟨xl, hxl'⟩ : ∃ j, j = x.b.length := ⟨_, rfl⟩
      rw [← hxl'] at p0 hv
      rw [← hj] at hv
      have HV := Lib.hid hv
      have HJ := Lib.hid hj
      have HT := Lib.hid ht
      have HK2 := Lib.hid (show (bcV (l.take k)).length + j ≤ 4194304 by rw [hj, valV_len]; have := HB.out; omega)
      clear hv hj ht hx hkl2 hxl hxl'
      go_wp2_with (first
        | (go_at_call 44
           (with_reducible refine HV.out.mono ?_)
           rintro e w2 ⟨A2, c2, rfl, ho2, hm2⟩
           have HR2 := Lib.hid (rd_of5 ho2 csU_len)
           have HO2 := Lib.hid (HO.out.mod hm2 fun _ _ => id)
           have HM2 := Lib.hid (HM.out.trans' hm2)
           have hs2 := hm2.size
           clear ho2 hm2)
        | (at_builtin
           refine wpList_app (base := w.heap.size) (xs := bcV (l.take k)) (ys := valV 1 x.b) rfl (.tmp 14) (.tmp 19) rfl u8s_t csU_len csU_one rfl HO2.out c2 rfl HJ.out HR2.out ?_ ?_ (by omega) ?_
           · have := HK2.out; rw [← HJ.out]; simp [maxLen]; omega
           · have := HK2.out; rw [← HJ.out]; omega
           intro v' w4 hown4 hm4 _
           have HO4 := Lib.hid hown4
           have HM4 := Lib.hid (HM2.out.trans hm4 fun b hb => .inr (HO2.out.fresh b hb).1)
           clear hown4 hm4)
        | fail)
      have ho4 := HO4.out
      rw [← HT.out] at ho4
      go_roundw
      case rel => exact ⟨k + 1, by omega, by go_num, ho4, HM4.out⟩
      case measure => simp only [intOf]; omega
    · obtain rfl : k = n := by omega
      have hlk : bcV (l.take k) = bcV l := by rw [HN.out, List.take_length]
      rw [hlk] at HO
      obtain ⟨A1, c1, hv1, hr1, -, -⟩ := OwnS.rd HO.out csU_len
      obtain ⟨z, hz⟩ : ∃ z, z = (bcV l).length := ⟨_, rfl⟩
      rw [← hz] at hv1
      subst hv1
      have hv := fvalue_any t _ A1 c1 (bcV l) wr hr1 HB.out
      obtain ⟨j, hj⟩ : ∃ j, j = (valV t (bcV l)).length := ⟨_, rfl⟩
      rw [← hz, ← hj] at hv
      have HV := Lib.hid hv
      have HJ := Lib.hid hj
      have hz1 : decide (z ≤ 4194304) = true := decide_eq_true (by rw [hz]; exact HB.out)
      have hz2 : decide ((z : Int) ≤ 4194304) = true := decide_eq_true (by have := of_decide_eq_true hz1; omega)
      clear hv hj hr1 hz hlk
      go_wp2_with (first
        | (go_at_call 44
           (with_reducible refine HV.out.mono ?_)
           rintro e w2 ⟨A2, c2, rfl, ho2, hm2⟩
           have HO2 := Lib.hid ho2
           have HM2 := Lib.hid (HM.out.trans' hm2)
           clear ho2 hm2)
        | fail)
      refine bodyPost_ret (v := .tuple #[.slice A2 j c2, .bool true]) (by simp [results, Tryz.results41, go_sem]) rfl ⟨A2, c2, j, rfl, HJ.out, HO2.out.less hs, HM2.out⟩
end Go.Proofs.YtmalclclopnlnaaGreat
/-
  The reference of the package entry: the bytes of attributes.
-/
namespace Go.Proofs.YtmalclclopnlnaaGreat
open Go.RowKit Go.Shelf
attribute [local go_sem] Oper.semAt_some

def cvG (l : Bs) (w : World) : Nat := grownCap w (ByteArray.size ⟨l.toArray⟩) 0 5
def cvW (l : Bs) (w : World) : World := w.drew.alloc (.cells (bytesRow ⟨l.toArray⟩ (cvG l w)) 5 ((bytesRow ⟨l.toArray⟩ (cvG l w)).size, (bytesRow ⟨l.toArray⟩ (cvG l w)).size + 1))
theorem cv_run (l : Bs) (w : World) : (convert 9 35 (.string ⟨l.toArray⟩)).run Tryz.prog w = .ok (.slice (some ⟨w.heap.size, 0, none⟩) l.length (cvG l w)) (cvW l w) :=
  run_bytes_of_string w 9 35 5 ⟨l.toArray⟩ Tryz.underlying9 Tryz.underlying35 Tryz.underlying5
theorem cv_mod (l : Bs) (w : World) : Mod (fun _ => False) w (cvW l w) := by unfold cvW; (repeat' (first | exact Mod.refl _ _ | assumption | refine Mod.alloc ?_ _ | refine Mod.drew ?_ | refine Mod.drewN ?_ _ | refine Mod.setCell ?_ (by first | exact Or.inl rfl | (right; simp; done) | (right; simp; omega) | (left; simp; done)) _))
theorem cv_size (l : Bs) (w : World) : (cvW l w).heap.size = w.heap.size + 1 := by unfold cvW; simp
theorem cv_rd (l : Bs) (w : World) : Rd (fun b => b = w.heap.size) (cvW l w) 1 csU (some ⟨w.heap.size, 0, none⟩) l := by
  intro _
  refine ⟨w.heap.size, 0, rfl, rfl, fun k hk j u hu => ?_⟩
  have hj : j < 1 := (List.getElem?_eq_some_iff.1 hu).1
  have hj0 : j = 0 := by omega
  subst hj0
  unfold cvW
  rw [hp_cell (b := w.heap.size) (hp_at (n := w.heap.size) w.drew _ rfl)]
  have := bytesRow_at ⟨l.toArray⟩ (cvG l w) k (by simpa using hk)
  simp [csU] at hu
  subst hu
  simpa using this
/-- How many bytes attributes take. -/
theorem attrsV_take (xs : List At) (k : Nat) (h : k < xs.length) : attrsV (xs.take (k + 1)) = attrsV (xs.take k) ++ attrV xs[k] := by
  unfold attrsV
  rw [List.take_succ_eq_append_getElem h, List.flatMap_append]
  simp
theorem attrsV_take_len (xs : List At) (k : Nat) : (attrsV (xs.take k)).length ≤ (attrsV xs).length := by
  conv => rhs; rw [← List.take_append_drop k xs]
  unfold attrsV
  rw [List.flatMap_append, List.length_append]
  omega
set_option maxRecDepth 100000 in
set_option maxHeartbeats 16000000 in
theorem gattrs_any (t : UInt8) (A : Option Addr) (c : Nat) (xs : List At) (w : World) (hA : Rd (fun b => b < w.heap.size) w 2 At.cs A xs) (hx : xs.length ≤ 1099511627776) (hl : (attrsV xs).length ≤ 4194304) :
    Calls Tryz.prog 62 #[.int .u8 (t.toNat : Int), .slice A xs.length c] w fun e w' => ∃ A' c', e = .returned (.slice A' (valV t (attrsV xs)).length c') ∧ OwnS w.heap.size 5 1 csU w' (.slice A' (valV t (attrsV xs)).length c') (valV t (attrsV xs)) ∧ Mod (fun _ => False) w w' := by
  obtain ⟨n, hn⟩ : ∃ n, n = xs.length := ⟨_, rfl⟩
  have H0 := Lib.hid (OwnS.nil w.heap.size 5 1 csU w)
  have HA := Lib.hid hA
  have HN := Lib.hid hn
  have HL := Lib.hid hl
  rw [← hn] at hx ⊢
  clear hA hn hl
  go_enter Tryz.func62, Tryz.ntmps62
  go_wp2
  go_loopw [5, 6] (fun v i wr => ∃ k : Nat, k ≤ n ∧ i = .int .i64 k ∧ OwnS w.heap.size 5 1 csU wr v (attrsV (xs.take k)) ∧ Mod (fun _ => False) w wr) (fun _ i _ => n - (intOf i).toNat)
  case atStart => exact ⟨0, Nat.zero_le _, rfl, H0.out, Mod.refl _ _⟩
  case round =>
    obtain ⟨k, hk, rfl, hown, hm⟩ := hrel
    have HO := Lib.hid hown
    have HM := Lib.hid hm
    by_cases hkn : k < n
    · have hki : k < xs.length := by rw [← HN.out]; exact hkn
      obtain ⟨g, o, rfl, hg, p0, p1⟩ := rd2 (HA.out.keep (hm.agree fun b hb => ⟨hb, id⟩)) hki
      obtain ⟨a, ha⟩ : ∃ a, a = xs[k] := ⟨_, rfl⟩
      rw [← ha] at p0 p1
      have HT := Lib.hid (show attrsV (xs.take (k + 1)) = attrsV (xs.take k) ++ attrV a by rw [ha]; exact attrsV_take xs k hki)
      have hal : (attrsV (xs.take k)).length + (15 + a.T.length + a.V.length) ≤ 4194304 := by
        have h1 := congrArg List.length HT.out
        have h2 := attrsV_take_len xs (k + 1)
        rw [List.length_append, attrV_len] at h1
        have := HL.out
        omega
      have HAl := Lib.hid hal
      have qT := fun X => cv_run a.T X
      have qV := fun X => cv_run a.V X
      have hgl : g < wr.heap.size := Nat.lt_of_lt_of_le hg hm.size
      have hK := fun X (M : Mod (fun _ => False) wr X) => (show X.cell? ⟨g, o + k * 2, none⟩ = some (.string ⟨a.T.toArray⟩) ∧ X.cell? ⟨g, o + k * 2 + 1, none⟩ = some (.string ⟨a.V.toArray⟩) ∧ True from ⟨(M.cell (p := ⟨g, o + k * 2, none⟩) hgl id).trans p0, (M.cell (p := ⟨g, o + k * 2 + 1, none⟩) hgl id).trans p1, trivial⟩)
      have HK := Lib.hid hK
      have hK5 := fun X (M : Mod (fun b => w.heap.size ≤ b) wr X) => (show X.cell? ⟨g, o + k * 2, none⟩ = some (.string ⟨a.T.toArray⟩) ∧ X.cell? ⟨g, o + k * 2 + 1, none⟩ = some (.string ⟨a.V.toArray⟩) ∧ True from ⟨(M.cell (p := ⟨g, o + k * 2, none⟩) hgl (by show ¬ w.heap.size ≤ g; omega)).trans p0, (M.cell (p := ⟨g, o + k * 2 + 1, none⟩) hgl (by show ¬ w.heap.size ≤ g; omega)).trans p1, trivial⟩)
      have HK5 := Lib.hid hK5
      obtain ⟨n1, hn1⟩ : ∃ z, z = (valV 1 a.T).length := ⟨_, rfl⟩
      obtain ⟨n2, hn2⟩ : ∃ z, z = (valV 2 a.V).length := ⟨_, rfl⟩
      obtain ⟨n3, hn3⟩ : ∃ z, z = (attrI a).length := ⟨_, rfl⟩
      obtain ⟨n4, hn4⟩ : ∃ z, z = (valV 3 (attrI a)).length := ⟨_, rfl⟩
      have l1 : n1 ≤ 4194304 := by rw [hn1, valV_len]; omega
      have l2 : n2 ≤ 4194304 := by rw [hn2, valV_len]; omega
      have l3 : n3 ≤ 4194304 := by rw [hn3, attrI_len]; omega
      have l4 : (attrsV (xs.take k)).length + n4 ≤ 4194304 := by rw [hn4, valV_len, attrI_len]; omega
      have HN1 := Lib.hid hn1
      have HN2 := Lib.hid hn2
      have HN3 := Lib.hid hn3
      have HN4 := Lib.hid hn4
      have m0 : Mod (fun _ => False) wr wr.drew := (Mod.refl _ _).drew
      have mT := m0.trans' (cv_mod a.T wr.drew)
      have mV := m0.trans' (cv_mod a.V wr.drew)
      have mTV := mT.trans' (cv_mod a.V (cvW a.T wr.drew))
      have mVT := mV.trans' (cv_mod a.T (cvW a.V wr.drew))
      have HMT := Lib.hid mT
      have HMTV := Lib.hid mTV
      have HMVT := Lib.hid mVT
      have hal1 : a.T.length ≤ 4194304 ∧ a.V.length ≤ 4194304 := by omega
      have HA2 := Lib.hid hal1.2
      have c1i := fvalue_any 1 _ (some ⟨wr.heap.size, 0, none⟩) (cvG a.T wr.drew) a.T (cvW a.V (cvW a.T wr.drew)) ((cv_rd a.T wr.drew).keep ((cv_mod a.V _).agree fun b hb => ⟨by rw [cv_size]; omega, id⟩)) hal1.1
      have c1ii := fvalue_any 1 _ (some ⟨wr.heap.size, 0, none⟩) (cvG a.T wr.drew) a.T (cvW a.T wr.drew) (cv_rd a.T wr.drew) hal1.1
      have c1iii := fvalue_any 1 _ (some ⟨(cvW a.V wr.drew).heap.size, 0, none⟩) (cvG a.T (cvW a.V wr.drew)) a.T (cvW a.T (cvW a.V wr.drew)) (cv_rd a.T (cvW a.V wr.drew)) hal1.1
      rw [show (((1 : UInt8).toNat : Nat) : Int) = 1 from rfl] at c1i c1ii c1iii
      have C1i := Lib.hid c1i
      have C1ii := Lib.hid c1ii
      have C1iii := Lib.hid c1iii
      obtain ⟨ka0, ka1, -⟩ := HK.out _ mT
      obtain ⟨kb0, kb1, -⟩ := HK.out _ mV
      obtain ⟨kc0, kc1, -⟩ := HK.out _ mTV
      obtain ⟨kd0, kd1, -⟩ := HK.out _ mVT
      clear hown hm ha hal H0 m0 mT mV mTV mVT hal1 c1i c1ii c1iii hK hK5 hn1 hn2 hn3 hn4
      go_wp2
      go_region_law (first
        | (go_simp; go_at_call 44
           (with_reducible refine C1i.out.mono ?_)
           rintro e w1 ⟨A1, c1, he, hown1, hm1⟩
           rw [← HN1.out] at he hown1
           subst he
           have M1 := HMTV.out.trans' hm1
           obtain ⟨ke0, ke1, -⟩ := HK.out _ M1
           obtain ⟨kf0, kf1, -⟩ := HK.out _ (M1.trans' (cv_mod a.V w1))
           have hc2 := fvalue_any 2 _ (some ⟨(cvW a.T wr.drew).heap.size, 0, none⟩) (cvG a.V (cvW a.T wr.drew)) a.V w1 ((cv_rd a.V (cvW a.T wr.drew)).keep (hm1.agree fun b hb => ⟨by rw [cv_size]; omega, id⟩)) HA2.out
           rw [show (((2 : UInt8).toNat : Nat) : Int) = 2 from rfl] at hc2
           have C2 := Lib.hid hc2
           have O1 := Lib.hid (hown1.less (base' := wr.heap.size) (by rw [cv_size, cv_size]; show wr.heap.size ≤ wr.heap.size + 1 + 1; omega))
           have MB := M1
           clear hc2
           clear hown1 hm1)
        | (go_simp; go_at_call 44
           (with_reducible refine C1ii.out.mono ?_)
           rintro e w1 ⟨A1, c1, he, hown1, hm1⟩
           rw [← HN1.out] at he hown1
           subst he
           have M1 := HMT.out.trans' hm1
           obtain ⟨ke0, ke1, -⟩ := HK.out _ M1
           obtain ⟨kf0, kf1, -⟩ := HK.out _ (M1.trans' (cv_mod a.V w1))
           have hc2 := fvalue_any 2 _ (some ⟨w1.heap.size, 0, none⟩) (cvG a.V w1) a.V (cvW a.V w1) (cv_rd a.V w1) HA2.out
           rw [show (((2 : UInt8).toNat : Nat) : Int) = 2 from rfl] at hc2
           have C2 := Lib.hid hc2
           have O1 := Lib.hid ((hown1.mod (cv_mod a.V w1) fun _ _ => id).less (base' := wr.heap.size) (by rw [cv_size]; show wr.heap.size ≤ wr.heap.size + 1; omega))
           have MB := M1.trans' (cv_mod a.V w1)
           clear hc2
           clear hown1 hm1)
        | (go_simp; go_at_call 44
           (with_reducible refine C1iii.out.mono ?_)
           rintro e w1 ⟨A1, c1, he, hown1, hm1⟩
           rw [← HN1.out] at he hown1
           subst he
           have M1 := HMVT.out.trans' hm1
           obtain ⟨ke0, ke1, -⟩ := HK.out _ M1
           obtain ⟨kf0, kf1, -⟩ := HK.out _ (M1.trans' (cv_mod a.V w1))
           have hc2 := fvalue_any 2 _ (some ⟨wr.heap.size, 0, none⟩) (cvG a.V wr.drew) a.V w1 (((cv_rd a.V wr.drew).keep ((cv_mod a.T (cvW a.V wr.drew)).agree fun b hb => ⟨by rw [cv_size]; omega, id⟩)).keep (hm1.agree fun b hb => ⟨by rw [cv_size, cv_size]; omega, id⟩)) HA2.out
           rw [show (((2 : UInt8).toNat : Nat) : Int) = 2 from rfl] at hc2
           have C2 := Lib.hid hc2
           have O1 := Lib.hid (hown1.less (base' := wr.heap.size) (by rw [cv_size, cv_size]; show wr.heap.size ≤ wr.heap.size + 1 + 1; omega))
           have MB := M1
           clear hc2
           clear hown1 hm1)
        | (go_simp; go_at_call 44
           (with_reducible refine C2.out.mono ?_)
           rintro e w2 ⟨A2, c2, he, hown2, hm2⟩
           rw [← HN2.out] at he hown2
           subst he
           have M2 := MB.trans' hm2
           have O2 := Lib.hid (O1.out.mod hm2 fun _ _ => id)
           have R2 := Lib.hid (rd_of5 hown2 csU_len)
           clear hown2 hm2)
        | (refine step_app (base := wr.heap.size) (xs := valV 1 a.T) (ys := valV 2 a.V) (v := .slice A1 n1 c1) rfl (.tmp 20) (.tmp 27) rfl u8s_t csU_len csU_one rfl O2.out c2 rfl HN2.out R2.out ?_ ?_ M2.size ?_
           · rw [← HN1.out, ← HN2.out]; simp [maxLen]; omega
           · rw [← HN1.out, ← HN2.out]; omega
           intro v3 w3 hown3 hm3 _
           have hown3 : OwnS wr.heap.size 5 1 csU w3 v3 (attrI a) := hown3
           obtain ⟨A3, c3, hv3, -, -, -⟩ := OwnS.rd hown3 csU_len
           rw [← HN3.out] at hv3
           subst hv3
           have M3 := M2.trans hm3 fun b hb => .inr (O2.out.fresh b hb).1
           have hc3 := fvalue_any 3 _ A3 c3 (attrI a) w3 (rd_of5 hown3 csU_len) (by rw [← HN3.out]; omega)
           rw [show (((3 : UInt8).toNat : Nat) : Int) = 3 from rfl, ← HN3.out] at hc3
           have C3 := Lib.hid hc3
           clear hown3 hm3 hc3)
        | (go_simp; go_at_call 44
           (with_reducible refine C3.out.mono ?_)
           rintro e w4 ⟨A4, c4, he, hown4, hm4⟩
           rw [← HN4.out] at he hown4
           subst he
           have M4 := M3.trans' hm4
           have R4 := Lib.hid (rd_of5 hown4 csU_len)
           have O4 := Lib.hid (HO.out.mod M4 fun _ _ => id)
           clear hown4 hm4)
        | (refine step_app (base := w.heap.size) (xs := attrsV (xs.take k)) (ys := attrV a) rfl (.tmp 13) (.tmp 29) rfl u8s_t csU_len csU_one rfl O4.out c4 rfl HN4.out R4.out ?_ ?_ (Nat.le_trans HM.out.size M4.size) ?_
           · rw [show (attrV a).length = n4 from HN4.out.symm]; simp [maxLen]; omega
           · rw [show (attrV a).length = n4 from HN4.out.symm]; omega
           intro v5 w5 hown5 hm5 _
           have O5 := Lib.hid hown5
           have M5 := (HM.out.trans' M4).trans hm5 fun b hb => .inr (O4.out.fresh b hb).1
           have M5' : Mod (fun b => w.heap.size ≤ b) wr w5 := (M4.mono fun _ _ h => h.elim).trans hm5 fun b hb => .inl (O4.out.fresh b hb).1
           clear hown5 hm5)
        | fail)
      all_goals
        go_wp2
        exact ⟨⟨k + 1, by omega, by go_num, by rw [HT.out]; exact O5.out, M5⟩, by simp only [intOf]; omega⟩
    · have hkl : xs.take k = xs := List.take_of_length_le (by rw [← HN.out]; omega)
      rw [hkl] at hown
      obtain ⟨A6, c6, hv6, -, -, -⟩ := OwnS.rd hown csU_len
      obtain ⟨n6, hn6⟩ : ∃ z, z = (attrsV xs).length := ⟨_, rfl⟩
      rw [← hn6] at hv6
      subst hv6
      have hc6 := fvalue_any t _ A6 c6 (attrsV xs) wr (rd_of5 hown csU_len) HL.out
      rw [← hn6] at hc6
      have C6 := Lib.hid hc6
      clear hc6 hown hm hkl hn6 H0
      go_wp2_with (first
        | (go_at_call 44
           (with_reducible refine C6.out.mono ?_)
           rintro e w7 ⟨A7, c7, rfl, hown7, hm7⟩
           have HO7 := Lib.hid hown7
           have HM7 := Lib.hid hm7
           clear hown7 hm7)
        | fail)
      go_ret
      exact ⟨A7, c7, rfl, HO7.out.less HM.out.size, HM.out.trans' HM7.out⟩
end Go.Proofs.YtmalclclopnlnaaGreat
/-
  The reference of the package entry: an entry's bytes.
-/
namespace Go.Proofs.YtmalclclopnlnaaGreat
open Go.RowKit Go.Shelf
attribute [local go_sem] Oper.semAt_some

set_option maxRecDepth 100000 in
set_option maxHeartbeats 16000000 in
theorem gpack_any (nm : Bs) (A : Option Addr) (c : Nat) (xs : List At) (w : World) (hA : Rd (fun b => b < w.heap.size) w 2 At.cs A xs) (hx : xs.length ≤ 1099511627776) (hl : (attrsV xs).length ≤ 4000000) (hn1 : nm.length ≤ 100000) :
    Calls Tryz.prog 40 #[.agg #[.string ⟨nm.toArray⟩, .slice A xs.length c]] w fun e w' => ∃ A' c', e = .returned (.slice A' (packV nm xs).length c') ∧ OwnS w.heap.size 5 1 csU w' (.slice A' (packV nm xs).length c') (packV nm xs) ∧ Mod (fun _ => False) w w' := by
  obtain ⟨n, hn⟩ : ∃ n, n = xs.length := ⟨_, rfl⟩
  obtain ⟨W1, hW1⟩ : ∃ W1, W1 = w.alloc (.cells #[.string ⟨nm.toArray⟩, .slice A n c] 68) := ⟨_, rfl⟩
  have hm1 : Mod (fun _ => False) w W1 := by rw [hW1]; (repeat' (first | exact Mod.refl _ _ | assumption | refine Mod.alloc ?_ _ | refine Mod.drew ?_ | refine Mod.drewN ?_ _ | refine Mod.setCell ?_ (by first | exact Or.inl rfl | (right; simp; done) | (right; simp; omega) | (left; simp; done)) _))
  have hb1 : W1.heap[w.heap.size]? = some (.cells #[.string ⟨nm.toArray⟩, .slice A n c] 68 (0, 0)) := by rw [hW1]; exact hp_new _ _
  have hs1 : W1.heap.size = w.heap.size + 1 := by rw [hW1]; simp
  have hK := fun X (M : Mod (fun _ => False) W1 X) => (show X.cell? ⟨w.heap.size, 0, none⟩ = some (.string ⟨nm.toArray⟩) ∧ X.cell? ⟨w.heap.size, 1, none⟩ = some (.slice A n c) from ⟨by rw [hp_cell (hp_mod hb1 M id)]; rfl, by rw [hp_cell (hp_mod hb1 M id)]; rfl⟩)
  have HK := Lib.hid hK
  have HA := Lib.hid (fun X (hX : Mod (fun _ => False) w X) => (hA.mod hX (fun b hb => ⟨hb, id⟩)).mono (D' := fun b => b < X.heap.size) fun b hb => Nat.lt_of_lt_of_le hb hX.size)
  have HN := Lib.hid hn
  have HX := Lib.hid hx
  have HL := Lib.hid hl
  have HNm := Lib.hid hn1
  have HM1 := Lib.hid hm1
  have qN := fun X => cv_run nm X
  obtain ⟨n1, hn1'⟩ : ∃ z, z = (valV 1 nm).length := ⟨_, rfl⟩
  obtain ⟨n2, hn2'⟩ : ∃ z, z = (valV 2 (attrsV xs)).length := ⟨_, rfl⟩
  have l1 : n1 ≤ 100005 := by rw [hn1', valV_len]; omega
  have l2 : n2 ≤ 4000005 := by rw [hn2', valV_len]; omega
  have HN1 := Lib.hid hn1'
  have HN2 := Lib.hid hn2'
  have m0 : Mod (fun _ => False) W1 W1.drew := (Mod.refl _ _).drew
  have mT := m0.trans' (cv_mod nm W1.drew)
  have c1 := fvalue_any 1 _ (some ⟨W1.heap.size, 0, none⟩) (cvG nm W1.drew) nm (cvW nm W1.drew) (cv_rd nm W1.drew) (by omega)
  rw [show (((1 : UInt8).toNat : Nat) : Int) = 1 from rfl] at c1
  have C1 := Lib.hid c1
  have HMT := Lib.hid mT
  obtain ⟨ka0, ka1⟩ := HK.out _ (Mod.refl _ _)
  obtain ⟨kb0, kb1⟩ := HK.out _ m0
  obtain ⟨kc0, kc1⟩ := HK.out _ mT
  rw [← hn]
  have HW1 := Lib.hid hW1
  clear hA hx hl hn1 hn hm1 hb1 hK hn1' hn2' m0 mT c1 hs1 hW1
  go_enter Tryz.func40, Tryz.ntmps40
  go_wp2
  rw [← HW1.out]
  go_region_law (first
    | (go_simp; go_at_call 44
       (with_reducible refine C1.out.mono ?_)
       rintro e w1 ⟨A1, c1, he, hown1, hm1⟩
       rw [← HN1.out] at he hown1
       subst he
       have M1 := HMT.out.trans' hm1
       obtain ⟨ke0, ke1⟩ := HK.out _ M1
       have hc2 := gattrs_any 2 A c xs w1 (HA.out _ (HM1.out.trans' M1)) HX.out (Nat.le_trans HL.out (by omega))
       rw [show (((2 : UInt8).toNat : Nat) : Int) = 2 from rfl, ← HN.out] at hc2
       have C2 := Lib.hid hc2
       have O1 := Lib.hid (hown1.less (base' := w.heap.size) (Nat.le_trans HM1.out.size HMT.out.size))
       clear hown1 hm1 hc2)
    | (go_simp; go_at_call 62
       (with_reducible refine C2.out.mono ?_)
       rintro e w2 ⟨A2, c2, he, hown2, hm2⟩
       rw [← HN2.out] at he hown2
       subst he
       have M2 := M1.trans' hm2
       have O2 := Lib.hid (O1.out.mod hm2 fun _ _ => id)
       have R2 := Lib.hid (rd_of5 hown2 csU_len)
       clear hown2 hm2)
    | (refine step_app (base := w.heap.size) (xs := valV 1 nm) (ys := valV 2 (attrsV xs)) (v := .slice A1 n1 c1) rfl (.tmp 6) (.tmp 9) rfl u8s_t csU_len csU_one rfl O2.out c2 rfl HN2.out R2.out ?_ ?_ (Nat.le_trans HM1.out.size M2.size) ?_
       · rw [← HN1.out, ← HN2.out]; simp [maxLen]; omega
       · rw [← HN1.out, ← HN2.out]; omega
       intro v3 w3 hown3 hm3 _
       have hown3 : OwnS w.heap.size 5 1 csU w3 v3 (packV nm xs) := hown3
       have O3 := Lib.hid hown3
       have M3 := Lib.hid ((HM1.out.trans' M2).trans hm3 fun b hb => .inr (O2.out.fresh b hb).1)
       clear hown3 hm3)
    | fail)
  all_goals
    go_wp2
    go_ret
    obtain ⟨A3, c3, hv3, -, -, -⟩ := OwnS.rd O3.out csU_len
    subst hv3
    exact ⟨A3, c3, rfl, O3.out, M3.out⟩
end Go.Proofs.YtmalclclopnlnaaGreat
