/-
  Texts of this claim, one behind the other: TlvI, ResA.
-/
import Derived.Test.YtmalclclopnlnaaGreatPk02
import Derived.Test.YtmalclclopnlnaaGreatPk05
import Derived.Test.YtmalclclopnlnaaGreatPk13
import Derived.Laws.IdiomStrings
import Derived.Laws.ShiftsVarLaws
import Derived.Deep.DeepFit
/-
  The package tlv: a writer takes a text.
-/
namespace Go.Proofs.YtmalclclopnlnaaGreat
open Go.RowKit Go.Shelf
attribute [local go_sem] Oper.semAt_some

theorem WrAt.tight {O : Nat → Prop} {p T : Nat} {w : World} {x : Wt} (h : WrAt O p T w x) : WrAt (fun b => O b ∧ b < w.heap.size) p T w x := by
  obtain ⟨A, n, c, h1, h2, h3, h4, h5⟩ := h
  exact ⟨A, n, c, h1, h2, h3, fun b hb => ⟨h4 b hb, (h2.fresh b hb).2⟩, fun h => h5 h.1⟩
theorem WrAt.keep {O C : Nat → Prop} {p T : Nat} {w w' : World} {x : Wt} (h : WrAt O p T w x) (hm : Mod C w w') (hn : ∀ b, O b → ¬ C b) (hp : ¬ C p) : WrAt O p T w' x := by
  obtain ⟨A, n, c, h1, h2, h3, h4, h5⟩ := h
  exact ⟨A, n, c, hp_mod h1 hm hp, h2.mod hm fun b hb => hn b (h4 b hb), h3, h4, h5⟩
theorem conv_bytes (l : Bs) (w : World) : ∃ g w1, (convert 9 35 (.string ⟨l.toArray⟩)).run Tryz.prog w = .ok (.slice (some ⟨w.heap.size, 0, none⟩) l.length g) w1 ∧ Rd (fun b => b = w.heap.size) w1 1 csU (some ⟨w.heap.size, 0, none⟩) l ∧ Mod (fun _ => False) w w1 := by
  refine ⟨_, _, run_bytes_of_string w 9 35 5 ⟨l.toArray⟩ Tryz.underlying9 Tryz.underlying35 Tryz.underlying5, ?_, by (repeat' (first | exact Mod.refl _ _ | assumption | refine Mod.alloc ?_ _ | refine Mod.drew ?_ | refine Mod.drewN ?_ _ | refine Mod.setCell ?_ (by first | exact Or.inl rfl | (right; simp; done) | (right; simp; omega) | (left; simp; done)) _))⟩
  intro _
  refine ⟨w.heap.size, 0, rfl, rfl, fun k hk j u hu => ?_⟩
  have hj : j < 1 := (List.getElem?_eq_some_iff.1 hu).1
  have hj0 : j = 0 := by omega
  subst hj0
  rw [hp_cell (b := w.heap.size) (hp_at (n := w.heap.size) w.drew _ rfl)]
  have := bytesRow_at ⟨l.toArray⟩ (grownCap w (ByteArray.size ⟨l.toArray⟩) 0 5) k (by simpa using hk)
  simp [csU] at hu
  subst hu
  simpa using this
theorem wtext_any (O : Nat → Prop) (p T : Nat) (x : Wt) (t : UInt8) (l : Bs) (w : World) (hx : WrAt O p T w x) (hsz : x.b.length ≤ 1099511627776) (hml : l.length ≤ 1099511627776) :
    Calls Tryz.prog 94 #[.pointer (some ⟨p, 0, none⟩), .int .u8 (t.toNat : Int), .string ⟨l.toArray⟩] w (WrEnds O p T w (x.bytes t l)) := by
  obtain ⟨g, w1, hq, hr, hm⟩ := conv_bytes l w
  have HB := Lib.hid (wbytes_any (fun b => O b ∧ b < w.heap.size) p T x t _ _ l.length g l w1 (hx.tight.keep hm (fun _ _ h => h) (fun h => h)) (fun b hb h => by omega) hr rfl hsz hml)
  have HM := Lib.hid hm
  have HX := Lib.hid hx
  clear hr hm hx
  go_enter Tryz.func94, Tryz.ntmps94
  go_wp2_with (first
    | (go_at_call 72
       refine HB.out.mono ?_
       rintro r w2 ⟨rfl, hat, hm2⟩
       have HAt := Lib.hid hat
       have HM2 := Lib.hid hm2
       clear hat hm2)
    | fail)
  go_ret
  have hlt := HX.out.lt
  have hs := HM.out.size
  refine ⟨rfl, HAt.out.more (fun b hb => ?_) ?_, (HM.out.mono fun b _ h => h.elim).trans HM2.out fun b hb => .inl ?_⟩
  · rcases hb with h | h
    · exact .inl h.1
    · right; omega
  · obtain ⟨_, _, _, _, _, _, _, h5⟩ := HX.out
    rintro (h | h)
    · exact h5 h
    · omega
  · rcases hb with h | h
    · exact .inl h
    · exact .inr h.1
end Go.Proofs.YtmalclclopnlnaaGreat
/-
  The package tlv: the values of bytes, one by one.
-/
namespace Go.Proofs.YtmalclclopnlnaaGreat
open Go.RowKit Go.Shelf
attribute [local go_sem] Oper.semAt_some

theorem tall_any (A : Option Addr) (n c : Nat) (w : World) : Calls Tryz.prog 116 #[.slice A n c] w fun e w' => e = .returned (.func (.func 130) #[] #[.pointer (some ⟨w.heap.size, 0, none⟩)]) ∧ w.alloc (.cells #[.slice A n c] 35) = w' := by
  go_enter Tryz.func116, Tryz.ntmps116
  go_wp2
  go_ret
  exact ⟨rfl, rfl⟩
/-- What All hands out: tags, and slices in memory of their own. -/
def tlIt (s : Bs) (D : Nat → Prop) : It :=
  ⟨(itemsV s).length, 2, fun k enc R W => ∃ x A c, (itemsV s)[k]? = some x ∧ enc = #[.int .u8 (x.1.toNat : Int), .slice A x.2.length c] ∧ Rd R W 1 csU A x.2, D, fun _ => False, fun _ _ => True⟩
theorem tlIt_ok {s : Bs} {D : Nat → Prop} : (tlIt s D).Ok :=
  ⟨fun k enc R W ⟨x, A, c, _, h, _⟩ => by rw [h]; rfl, fun k enc R W W' ⟨x, A, c, h1, h2, h3⟩ hA => ⟨x, A, c, h1, h2, h3.keep hA⟩, fun _ _ _ _ _ => trivial, fun _ h => h.elim⟩
end Go.Proofs.YtmalclclopnlnaaGreat
/-
  The package tlv: the iterator All.
-/
namespace Go.Proofs.YtmalclclopnlnaaGreat
open Go.RowKit Go.Shelf
attribute [local go_sem] Oper.semAt_some

set_option maxRecDepth 100000 in
set_option maxHeartbeats 1000000 in
theorem tall1_iter (Bt : Nat) (A : Option Addr) (c : Nat) (l : Bs) (D : Nat → Prop) (w : World) (hl : l.length ≤ 1099511627776) (hlc : l.length ≤ c)
    (hBt : w.cell? ⟨Bt, 0, none⟩ = some (.slice A l.length c)) (hR : Rd D w 1 csU A l) (hD : D Bt) (hDl : ∀ b, D b → b < w.heap.size) :
    IterG Tryz.prog 130 #[.pointer (some ⟨Bt, 0, none⟩)] (tlIt l D) w := by
  intro y J Jx C0 W hAg _ hC hJ hJx hY h0 _
  have hBt' := (hAg.cell (p := ⟨Bt, 0, none⟩) hD).trans hBt
  have HR := Lib.hid (hR.keep hAg)
  obtain ⟨n, hn⟩ : ∃ n, n = (itemsV l).length := ⟨_, rfl⟩
  have HN := Lib.hid hn
  clear hBt hR hn
  refine callsIn_wide.1 (callsIn_of_wp (n := 0) (F := Fence.wide) Tryz.func130 rfl trivial ?_ rfl)
  simp only [Tryz.ntmps130, List.size_toArray, List.length_cons, List.length_nil, Nat.reduceAdd, Nat.reduceSub, Array.replicate_succ, Array.replicate_zero, List.push_toArray, List.append_toArray, List.nil_append, List.cons_append]
  gi_wp2
  gi_loopw [3] (fun s wr => ∃ (k : Nat) (r : Bs) (A' : Option Addr) (c' : Nat) (C : Nat → Prop), k ≤ n ∧ s = .slice A' r.length c' ∧ r.length ≤ l.length ∧ r.length ≤ c' ∧ itemsV r = (itemsV l).drop k ∧ Rd D W 1 csU A' r ∧ J k C wr ∧ Mod C0 W wr ∧ (∀ b, C b → b < wr.heap.size ∧ (C0 b ∨ W.heap.size ≤ b)))
    (fun s _ => match s with | .slice _ n _ => n | _ => 0)
  case atStart => exact ⟨0, l, A, c, C0, Nat.zero_le _, rfl, Nat.le_refl _, hlc, rfl, HR.out, h0, Mod.refl _ _, fun b hb => ⟨(hC b hb).1, .inl hb⟩⟩
  case round =>
    obtain ⟨k, r, A', c', C, hk, rfl, hr, hrc, hrw, hrd, hJs, hm, hb⟩ := hrel
    have hf := tfirst_any D A' c' r wr (hrd.keep (hm.agree fun b hb => ⟨Nat.lt_of_lt_of_le (hDl b hb) hAg.size, fun h => (hC b h).2.1 hb⟩)) (by omega) hrc
    have HF := Lib.hid hf
    have HRW := Lib.hid hrw
    have HM := Lib.hid hm
    clear hf hrw hm
    cases hv : firstV r with
    | none =>
      have HV := Lib.hid hv
      clear hv
      gi_wp2_with (first
        | ((refine ⟨trivial, rfl, ?_⟩; gi_at_call 97)
           refine ci HF.out ?_
           rintro e w1 ⟨hr1, q, rfl⟩
           rw [HV.out] at hr1
           simp only at hr1
           subst hr1)
        | (refine ⟨trivial, ?_⟩)
        | fail)
      refine ⟨fun f h => (by cases h), ?_⟩
      gi_wp2
      refine bodyPost_ret (results_none rfl _ _ _) rfl ?_
      refine ⟨⟨_, rfl⟩, .inl ⟨trivial, C, ?_, (HM.out.mono fun b _ h => .inl h).drewN q, fun b h => ⟨(hb b h).1, (hb b h).2⟩⟩⟩
      have h3 : k = n := by
        have h4 := congrArg List.length HRW.out
        rw [(itemsV_none HV.out).1] at h4
        simp [← HN.out] at h4
        omega
      show J (itemsV l).length C _
      rw [← HN.out, ← h3]
      exact hJ _ _ _ _ hJs (((Mod.refl (fun _ => False) wr).drewN q).agree fun b h => ⟨(hb b h).1, id⟩)
    | some v =>
      obtain ⟨t, b, m⟩ := v
      obtain ⟨hf1, hf2, hf3, hf4, -⟩ := firstV_some hv
      obtain ⟨hi1, -⟩ := itemsV_some hv
      rw [HRW.out] at hi1
      have hkn : k < (itemsV l).length := by
        have h4 := congrArg List.length hi1
        simp at h4
        omega
      have hx : (itemsV l)[k]? = some (t, b) := by
        have := congrArg (fun z => z[0]?) hi1
        simpa using this
      have hdr : itemsV (r.drop m) = (itemsV l).drop (k + 1) := by
        have := congrArg (List.drop 1) hi1
        simpa using this.symm
      subst hf2
      have hr0 : 0 < r.length := by omega
      obtain ⟨b1, o1, rfl, -, -⟩ := hrd hr0
      have HRD := Lib.hid hrd
      have HV := Lib.hid hv
      have HDR := Lib.hid hdr
      have HX := Lib.hid hx
      have HN1 := HN.out
      have hb5 : ¬ ((5 + b.length : Nat) : Int) = 0 := by omega
      have hb6 : ((5 : Int) + (b.length : Int) == 0) = false := by rw [beq_eq_false_iff_ne]; omega
      have HKN := Lib.hid hkn
      have hsA := hAg.size
      have hsM := HM.out.size
      have hdl : (r.drop (5 + b.length)).length = r.length - (5 + b.length) := List.length_drop
      have HDL := Lib.hid hdl
      have HJS := Lib.hid hJs
      have HBB := Lib.hid hb
      clear hv hi1 hx hdr hrd hkn hf1 hf3 hBt' hdl hJs hb HN1
      have fin : ∀ (q : Nat) (w2 : World) (A3 : Option Addr) (c3 : Nat), OwnS (wr.drewN q).heap.size 5 1 csU w2 (.slice A3 b.length c3) b → Mod (fun _ => False) (wr.drewN q) w2 →
          Yields Tryz.prog y #[.int .u8 (t.toNat : Int), .slice A3 b.length c3] w2 fun e W2 => (e = .returned (.bool true) ∧ Rnd J (k + 1) C w2 W2) ∨ (e = .returned (.bool false) ∧ Rnd Jx (k + 1) C w2 W2) := by
        intro q w2 A3 c3 hown hm2
        have hsz : (wr.drewN q).heap.size = wr.heap.size := by simp
        obtain ⟨A4, c4, hv4, hrd4, hfr4, -⟩ := OwnS.rd hown csU_len
        cases hv4
        have hm3 : Mod (fun _ => False) wr w2 := ((Mod.refl _ wr).drewN q).trans' hm2
        refine hY k HKN.out _ (fun b => (wr.drewN q).heap.size ≤ b ∧ b < w2.heap.size) C w2 (hJ _ _ _ _ HJS.out (hm3.agree fun b h => ⟨(HBB.out b h).1, id⟩)) trivial ⟨_, _, _, HX.out, rfl, hrd4.mono hfr4⟩ (fun b h => ⟨h.2, fun h' => ?_⟩) ((HM.out.mono fun _ _ h => .inl h).trans hm3 (fun b h => h.elim)) (fun b h => ⟨Nat.lt_of_lt_of_le (HBB.out b h).1 hm3.size, (HBB.out b h).2⟩)
        have := (HBB.out b h').1
        omega
      have HFin := Lib.hid fin
      clear fin hY
      gi_wp2_with (first
        | ((refine ⟨trivial, rfl, ?_⟩; gi_at_call 97)
           refine ci HF.out ?_
           rintro e w1 ⟨hr1, q, rfl⟩
           rw [HV.out] at hr1
           simp only at hr1
           obtain ⟨A2, hr1, hb2⟩ := hr1
           subst hr1
           have HB2 := Lib.hid hb2
           clear hb2)
        | ((refine ⟨trivial, rfl, ?_⟩; gi_at_call 74)
           refine ci (uclone_any D A2 b.length b _ (HB2.out.keep ((((Mod.refl (fun _ => False) wr).drewN q).agree fun b hb => ⟨Nat.lt_of_lt_of_le (hDl b hb) (by omega), id⟩))) (by omega)) ?_
           rintro e w2 ⟨A3, c3, rfl, hown, hm2⟩
           obtain ⟨fn, tmps, assign, body, hy, hR⟩ := HFin.out q w2 A3 c3 hown hm2
           have HM2 := Lib.hid hm2
           clear hown hm2)
        | fail)
      refine ⟨rfl, (hR _).mono ?_⟩
      have hs1 := HM2.out.size
      have hsz : (wr.drewN q).heap.size = wr.heap.size := by simp
      rintro e W3 (⟨rfl, C', hJ3, hm3, hb3⟩ | ⟨rfl, C', hJ3, hm3, hb3⟩)
      all_goals
        have M3 := (HM.out.trans (((Mod.refl (fun _ => False) wr).drewN q).trans' HM2.out) (fun b h => h.elim)).trans hm3 (fun b h => (HBB.out b h).2)
        have B3 : ∀ b, C' b → b < W3.heap.size ∧ (C0 b ∨ W.heap.size ≤ b) := fun b h => ⟨(hb3 b h).1, (hb3 b h).2.elim (fun h => (HBB.out b h).2) (fun h => .inr (by omega))⟩
        have HM3 := Lib.hid M3
        have HB3 := Lib.hid B3
        have HJ3 := Lib.hid hJ3
        clear M3 B3 hJ3 hm3 hb3 hR hy
      · by_cases hcc : c' = 5 + b.length
        · subst hcc
          have hnil := Lib.hid (show r.drop (5 + b.length) = [] from List.eq_nil_of_length_eq_zero (by have := HDL.out; omega))
          gi_wp2
          go_roundw
          case rel => exact ⟨k + 1, r.drop (5 + b.length), _, _, C', by have := HKN.out; have := HN.out; omega, by rw [HDL.out], by have := HDL.out; omega, by have := HDL.out; omega, HDR.out, by rw [hnil.out]; exact Rd.nil _ _ _ _ _, HJ3.out, HM3.out, HB3.out⟩
          case measure => show r.length - (5 + b.length) < r.length; omega
        · gi_wp2
          go_roundw
          case rel => exact ⟨k + 1, r.drop (5 + b.length), _, _, C', by have := HKN.out; have := HN.out; omega, by rw [HDL.out], by have := HDL.out; omega, by have := HDL.out; omega, HDR.out, by have h := rd_drop HRD.out (j := 5 + b.length) (by omega); rw [Nat.mul_one] at h; exact h, HJ3.out, HM3.out, HB3.out⟩
          case measure => show r.length - (5 + b.length) < r.length; omega
      · gi_wp2
        refine bodyPost_ret (results_none rfl _ _ _) rfl ?_
        exact ⟨⟨_, rfl⟩, .inr ⟨k + 1, by omega, by have := HKN.out; exact this, trivial, C', HJ3.out, HM3.out.mono fun b _ h => .inl h, HB3.out⟩⟩
end Go.Proofs.YtmalclclopnlnaaGreat
/-
  The package tlv: how many values bytes are.
-/
namespace Go.Proofs.YtmalclclopnlnaaGreat
open Go.RowKit Go.Shelf
attribute [local go_sem] Oper.semAt_some

def sumV : List (UInt8 × Bs) → Nat
  | [] => 0
  | x :: r => 5 + x.2.length + sumV r
theorem sumV_snoc : ∀ (xs : List (UInt8 × Bs)) (x : UInt8 × Bs), sumV (xs ++ [x]) = sumV xs + (5 + x.2.length)
  | [], x => by simp [sumV]
  | y :: r, x => by simp only [List.cons_append, sumV, sumV_snoc r x]; omega
theorem sumV_take : ∀ (xs : List (UInt8 × Bs)) (k : Nat), sumV (xs.take k) ≤ sumV xs
  | [], k => by simp [sumV]
  | y :: r, 0 => by simp [sumV]
  | y :: r, k + 1 => by simp only [List.take_succ_cons, sumV]; have := sumV_take r k; omega
theorem sumV_len : ∀ xs : List (UInt8 × Bs), xs.length ≤ sumV xs
  | [] => by simp [sumV]
  | y :: r => by simp only [List.length_cons, sumV]; have := sumV_len r; omega
theorem allV_sum : ∀ (f : Nat) (s : Bs), (allV f s).2 = sumV (allV f s).1 ∧ (allV f s).2 ≤ s.length
  | 0, s => ⟨rfl, Nat.zero_le _⟩
  | f + 1, s => by
    simp only [allV]
    cases h : firstV s with
    | none => exact ⟨rfl, Nat.zero_le _⟩
    | some v =>
      obtain ⟨t, b, n⟩ := v
      obtain ⟨_, h2, _, h4, _⟩ := firstV_some h
      obtain ⟨i1, i2⟩ := allV_sum f (s.drop n)
      rw [List.length_drop] at i2
      simp only [sumV]
      exact ⟨by rw [i1]; omega, by omega⟩
theorem endV_sum (s : Bs) : endV s = sumV (itemsV s) := (allV_sum _ s).1
theorem endV_le (s : Bs) : endV s ≤ s.length := (allV_sum _ s).2
theorem itemsV_len (s : Bs) : (itemsV s).length ≤ s.length := by
  have h1 := sumV_len (itemsV s)
  have h2 := endV_le s
  rw [endV_sum] at h2
  omega
def mnI (z : Nat) (xs : List (UInt8 × Bs)) (k : Nat) (C : Nat → Prop) (W : World) : Prop :=
  W.heap[z]? = some (.cells #[.int .i64 (k : Int)] 3 (0, 0)) ∧ W.heap[z + 1]? = some (.cells #[.int .i64 ((sumV (xs.take k) : Nat) : Int)] 3 (0, 0)) ∧ C = fun b => b = z ∨ b = z + 1
def noXT (_ : Code) (_ : Nat) (_ : Nat → Prop) (_ : World) : Prop := False
def mnA (z : Nat) (xs : List (UInt8 × Bs)) (T enc : Array Value) (a' : Act) (k : Nat) (C : Nat → Prop) (W : World) : Prop :=
  ∃ x A c, xs[k]? = some x ∧ enc = #[.int .u8 (x.1.toNat : Int), .slice A x.2.length c] ∧ a' = { tmps := ((T.setIfInBounds 9 (.int .u8 (x.1.toNat : Int))).setIfInBounds 10 (.slice A x.2.length c)).setIfInBounds 6 (.slice A x.2.length c), defers := [] } ∧ mnI z xs k C W
theorem wraps3 (k o m : Nat) (h1 : k ≤ 1099511627776) (h2 : o + (5 + m) ≤ 1099511627776) : wrap64 ((k : Int) + 1) = (k : Int) + 1 ∧ wrap64 ((o : Int) + 5) = (o : Int) + 5 ∧ wrap64 ((o : Int) + 5 + (m : Int)) = (o : Int) + 5 + (m : Int) :=
  ⟨wrap64_in _ (by omega), wrap64_in _ (by omega), wrap64_in _ (by omega)⟩
theorem mn_fin (W' : World) (z : Nat) (xs : List (UInt8 × Bs)) (k o m : Nat) (a : Act) (h1 : W'.heap[z]? = some (.cells #[.int .i64 (k : Int)] 3 (0, 0))) (h2 : W'.heap[z + 1]? = some (.cells #[.int .i64 (o : Int)] 3 (0, 0))) (hT : sumV (xs.take (k + 1)) = o + (5 + m))
    (hk : k ≤ 1099511627776) (ho : o + (5 + m) ≤ 1099511627776) :
    rndPost (mnI z xs) noXT (k + 1) (fun b => b = z ∨ b = z + 1) W' Exit.normal a ((W'.setCell ⟨z, 0, none⟩ (.int .i64 (IntKind.i64.wrap ((k : Int) + 1)))).setCell ⟨z + 1, 0, none⟩ (.int .i64 (IntKind.i64.wrap (IntKind.i64.wrap ((o : Int) + 5) + (m : Int))))).drew := by
  have e1 : IntKind.i64.wrap ((k : Int) + 1) = ((k + 1 : Nat) : Int) := wrap_i64 (k + 1) (by omega)
  have e2 : IntKind.i64.wrap ((o : Int) + 5) = ((o + 5 : Nat) : Int) := wrap_i64 (o + 5) (by omega)
  have e3 : IntKind.i64.wrap (((o + 5 : Nat) : Int) + (m : Int)) = ((o + 5 + m : Nat) : Int) := wrap_i64 (o + 5 + m) (by omega)
  rw [e1, e2, e3]
  refine ⟨fun b => b = z ∨ b = z + 1, ⟨hp_drew (hp_far (hp_set h1 0 _) (by simp) _), hp_drew (hp_eq (hp_set (hp_far h2 (by simp) _) 0 _) (by rw [hT]; simp; omega)), rfl⟩, ?_, fun b hb => ⟨?_, .inl hb⟩⟩
  · exact ((((Mod.refl _ W').setCell (.inl (.inl rfl)) _).setCell (.inl (.inr rfl)) _).drew)
  · have := hp_lt h1
    have := hp_lt h2
    simp
    omega
set_option maxRecDepth 100000 in
set_option maxHeartbeats 8000000 in
theorem tmany_any (A : Option Addr) (c : Nat) (l : Bs) (D : Nat → Prop) (w : World) (hl : l.length ≤ 1099511627776) (hlc : l.length ≤ c) (hR : Rd D w 1 csU A l) (hDl : ∀ b, D b → b < w.heap.size) :
    Calls Tryz.prog 93 #[.slice A l.length c] w fun e w' => e = .returned (.int .i64 (manyV l)) ∧ Mod (fun _ => False) w w' := by
  obtain ⟨xs, hxs⟩ : ∃ xs, xs = itemsV l := ⟨_, rfl⟩
  obtain ⟨n, hn⟩ : ∃ n, n = l.length := ⟨_, rfl⟩
  have hxl : xs.length ≤ n := by rw [hxs, hn]; exact itemsV_len l
  have hsl : sumV xs ≤ n := by rw [hxs, hn, ← endV_sum]; exact endV_le l
  have HV := Lib.hid (show manyV l = if sumV xs = n then (xs.length : Int) else -1 by unfold manyV; rw [endV_sum, hxs, hn])
  have HRd := Lib.hid hR
  have HX := Lib.hid hxs
  have HN := Lib.hid hn
  rw [← hn] at hl hlc ⊢
  clear hxs hn hR
  refine callsIn_wide.1 (callsIn_of_wp_marks (n := 0) (F := Fence.wide) Tryz.func93 rfl trivial ?_ rfl)
  simp only [Tryz.ntmps93, List.size_toArray, List.length_cons, List.length_nil, Nat.reduceAdd, Nat.reduceSub, Array.replicate_succ, Array.replicate_zero, List.push_toArray, List.append_toArray, List.nil_append, List.cons_append]
  gi_wp2_with (first
    | ((refine ⟨trivial, rfl, ?_⟩; gi_at_call 116); refine ci (tall_any A n c _) ?_; rintro e w1 ⟨rfl, rfl⟩)
    | fail)
  obtain ⟨W4, hW4⟩ : ∃ W4, W4 = ((w.alloc (.cells #[.int .i64 0] 3)).alloc (.cells #[.int .i64 0] 3)).alloc (.cells #[.slice A n c] 35) := ⟨_, rfl⟩
  have hsz : W4.heap.size = w.heap.size + 3 := by subst hW4; simp
  have hz4 : W4.heap[w.heap.size]? = some (.cells #[.int .i64 0] 3 (0, 0)) := by subst hW4; exact hp_alloc (hp_alloc (hp_new _ _) _) _
  have hy4 : W4.heap[w.heap.size + 1]? = some (.cells #[.int .i64 0] 3 (0, 0)) := by subst hW4; exact hp_alloc (hp_at _ _ (by simp)) _
  have ht4 : W4.heap[w.heap.size + 1 + 1]? = some (.cells #[.slice A n c] 35 (0, 0)) := by subst hW4; exact hp_at _ _ (by simp)
  have hm4 : ∀ C, Mod C w W4 := fun C => by subst hW4; (repeat' (first | exact Mod.refl _ _ | assumption | refine Mod.alloc ?_ _ | refine Mod.drew ?_ | refine Mod.drewN ?_ _ | refine Mod.setCell ?_ (by first | exact Or.inl rfl | (right; simp; done) | (right; simp; omega) | (left; simp; done)) _))
  rw [← hW4]
  clear hW4
  have HM4 := Lib.hid hm4
  refine wp_rangeG (gf := 130) (lb := #[.pointer (some ⟨w.heap.size + 1 + 1, 0, none⟩)]) rfl (enters_of Tryz.func130 (by kernel_rfl) rfl) tlIt_ok
    (tall1_iter (w.heap.size + 1 + 1) A c l (fun b => b = w.heap.size + 1 + 1 ∨ D b) W4 (by rw [← HN.out]; exact hl) (by rw [← HN.out]; exact hlc) (by rw [← HN.out]; exact hp_cell ht4 0) ((HRd.out.mod (hm4 (fun _ => False)) fun b hb => ⟨hDl b hb, id⟩).mono fun b hb => .inr hb) (.inl rfl) (fun b hb => by rcases hb with rfl | hb; omega; have := hDl b hb; omega))
    (fun b hb => by rcases hb with (rfl | hb) | h; omega; (have := hDl b hb; omega); exact h.elim) rfl
    (mnI w.heap.size xs) noXT (mnA w.heap.size xs) (fun k C X Y ⟨h1, h2, h3⟩ hA => ⟨hp_agree h1 hA (by rw [h3]; exact .inl rfl), hp_agree h2 hA (by rw [h3]; exact .inr rfl), h3⟩) (fun c k C X Y h hA => h)
    (fun T enc a' k C X Y ⟨x, A, c, h0, h00, h1, h2, h3, h4⟩ hA => ⟨x, A, c, h0, h00, h1, hp_agree h2 hA (by rw [h4]; exact .inl rfl), hp_agree h3 hA (by rw [h4]; exact .inr rfl), h4⟩)
    (fun b => b = w.heap.size ∨ b = w.heap.size + 1) (fun b hb => ⟨by omega, fun hd => by rcases hd with h | h; omega; have := hDl b h; omega, id⟩) ⟨hz4, hy4, rfl⟩ trivial ?assign ?body ?done (fun _ _ _ _ _ _ h => h.elim)
  case assign =>
    rintro l' k hk enc R C W' ⟨h1, h2, rfl⟩ - ⟨x, A', c', hx, rfl, -⟩ - hm' hb'
    have HX' := Lib.hid (show xs[k]? = some x by rw [HX.out]; exact hx)
    have H1 := Lib.hid h1
    have H2 := Lib.hid h2
    clear h1 h2 hx
    gi_wp2
    exact ⟨_, ⟨x, A', c', HX'.out, rfl, rfl, H1.out, H2.out, rfl⟩, Mod.refl _ _, fun b hb => ⟨(hb' b hb).1, .inl hb⟩⟩
  case body =>
    rintro l' k hk enc R C a' W' ⟨x, A', c', hx, -, rfl, h1, h2, rfl⟩ - - - hm' hb' - - -
    have hkl : k < xs.length := (List.getElem?_eq_some_iff.1 hx).1
    have hT : sumV (xs.take (k + 1)) = sumV (xs.take k) + (5 + x.2.length) := by
      rw [List.take_succ_eq_append_getElem hkl, sumV_snoc]
      rw [List.getElem?_eq_getElem hkl] at hx
      rw [Option.some.inj hx]
    have hTl := sumV_take xs (k + 1)
    rw [hT] at hTl
    obtain ⟨o, ho⟩ : ∃ o, o = sumV (xs.take k) := ⟨_, rfl⟩
    obtain ⟨m, hm⟩ : ∃ m, m = x.2.length := ⟨_, rfl⟩
    rw [← ho, ← hm] at hT hTl
    rw [← ho] at h2
    rw [← hm]
    have HT := Lib.hid hT
    have c0 := hp_cell h1 0
    have f0 := hp_free h1 0
    have c1 := hp_cell h2 0
    have f1 := hp_free h2 0
    have hlt := hp_lt h1
    have hlt2 := hp_lt h2
    have H1 := Lib.hid h1
    have H2 := Lib.hid h2
    clear h1 h2 hx hT ho hm hsz hz4 hy4 ht4 hm4
    have hkk : k ≤ 1099511627776 := by omega
    have hoo : o + (5 + m) ≤ 1099511627776 := by omega
    obtain ⟨w1, w2, w3⟩ := wraps3 k o m (by omega) (by omega)
    clear hkl hTl hxl hsl hl hlc hk hDl
    gi_wp2
    (refine wpIn_region_any (by kernel_rfl) ?_; change wpAnyIn _ _ _ _ _ _ _ _ _ (World.drew _); refine any_round rfl (all_notDefer (by kernel_rfl)) _ _ _ _ ?_)
    (refine wpAnyIn_take (i := 4) (v := ?_) rfl rfl (by kernel_rfl) (by kernel_rfl) (by kernel_rfl) (fun _ _ _ h => h) ⟨Or.inl ⟨by rfl, ?_⟩, fun _ => rfl⟩ ?_; rotate_left; (focus (intro w; go_simp; try with_reducible rfl)))
    (refine wpAnyIn_take (i := 5) (v := ?_) rfl rfl (by kernel_rfl) (by kernel_rfl) (by kernel_rfl) (fun _ _ _ h => h) ⟨Or.inl ⟨by rfl, ?_⟩, fun _ => rfl⟩ ?_; rotate_left; (focus (intro w; go_simp; try with_reducible rfl)))
    (refine wpAnyIn_ready (rs := [0, 2]) (by kernel_rfl) (by simp) ?_; refine AllReadyIn.cons rfl (fun K hK => ?_) ?_)
    · (go_simp; refine hK _ _ ?_; clear hK K)
      (refine wpAnyIn_take (i := 1) (v := ?_) rfl rfl (by kernel_rfl) (by kernel_rfl) (by kernel_rfl) (fun _ _ _ h => h) ⟨Or.inl ⟨by rfl, ?_⟩, fun _ => rfl⟩ ?_; rotate_left; (focus (intro w; go_simp; try with_reducible rfl)))
      (refine wpAnyIn_ready (rs := [2, 7]) (by kernel_rfl) (by simp) ?_; refine AllReadyIn.cons rfl (fun K hK => ?_) ?_)
      · (go_simp; refine hK _ _ ?_; clear hK K)
        (refine wpAnyIn_take (i := 3) (v := ?_) rfl rfl (by kernel_rfl) (by kernel_rfl) (by kernel_rfl) (fun _ _ _ h => h) ⟨Or.inl ⟨by rfl, ?_⟩, fun _ => rfl⟩ ?_; rotate_left; (focus (intro w; go_simp; try with_reducible rfl)))
        (refine wpAnyIn_take (i := 6) (v := ?_) rfl rfl (by kernel_rfl) (by kernel_rfl) (by kernel_rfl) (fun _ _ _ h => h) ⟨Or.inl ⟨by rfl, ?_⟩, fun _ => rfl⟩ ?_; rotate_left; (focus (intro w; go_simp; try with_reducible rfl)))
        (refine wpAnyIn_ready (rs := [7]) (by kernel_rfl) (by simp) ?_; refine AllReadyIn.cons rfl (fun K hK => ?_) ?_)
        · (go_simp; refine hK _ _ ?_; clear hK K)
          (refine wpAnyIn_ready (rs := [8]) (by kernel_rfl) (by simp) ?_; refine AllReadyIn.cons rfl (fun K hK => ?_) ?_)
          · (go_simp; refine hK _ _ ?_; clear hK K)
            refine wpAnyIn_done (by kernel_rfl) ?_ _
            gi_wp2
            exact mn_fin W' _ xs k o m _ H1.out H2.out HT.out hkk hoo
          · exact AllReadyIn.nil
        · exact AllReadyIn.nil
      · refine AllReadyIn.cons rfl (fun K hK => ?_) ?_
        · (go_simp; refine hK _ _ ?_; clear hK K)
          (refine wpAnyIn_ready (rs := [2]) (by kernel_rfl) (by simp) ?_; refine AllReadyIn.cons rfl (fun K hK => ?_) ?_)
          · (go_simp; refine hK _ _ ?_; clear hK K)
            (refine wpAnyIn_take (i := 3) (v := ?_) rfl rfl (by kernel_rfl) (by kernel_rfl) (by kernel_rfl) (fun _ _ _ h => h) ⟨Or.inl ⟨by rfl, ?_⟩, fun _ => rfl⟩ ?_; rotate_left; (focus (intro w; go_simp; try with_reducible rfl)))
            (refine wpAnyIn_take (i := 6) (v := ?_) rfl rfl (by kernel_rfl) (by kernel_rfl) (by kernel_rfl) (fun _ _ _ h => h) ⟨Or.inl ⟨by rfl, ?_⟩, fun _ => rfl⟩ ?_; rotate_left; (focus (intro w; go_simp; try with_reducible rfl)))
            (refine wpAnyIn_ready (rs := [8]) (by kernel_rfl) (by simp) ?_; refine AllReadyIn.cons rfl (fun K hK => ?_) ?_)
            · (go_simp; refine hK _ _ ?_; clear hK K)
              refine wpAnyIn_done (by kernel_rfl) ?_ _
              gi_wp2
              exact mn_fin W' _ xs k o m _ H1.out H2.out HT.out hkk hoo
            · exact AllReadyIn.nil
          · exact AllReadyIn.nil
        · exact AllReadyIn.nil
    · refine AllReadyIn.cons rfl (fun K hK => ?_) ?_
      · (go_simp; refine hK _ _ ?_; clear hK K)
        (refine wpAnyIn_take (i := 3) (v := ?_) rfl rfl (by kernel_rfl) (by kernel_rfl) (by kernel_rfl) (fun _ _ _ h => h) ⟨Or.inl ⟨by rfl, ?_⟩, fun _ => rfl⟩ ?_; rotate_left; (focus (intro w; go_simp; try with_reducible rfl)))
        (refine wpAnyIn_take (i := 6) (v := ?_) rfl rfl (by kernel_rfl) (by kernel_rfl) (by kernel_rfl) (fun _ _ _ h => h) ⟨Or.inl ⟨by rfl, ?_⟩, fun _ => rfl⟩ ?_; rotate_left; (focus (intro w; go_simp; try with_reducible rfl)))
        (refine wpAnyIn_ready (rs := [0]) (by kernel_rfl) (by simp) ?_; refine AllReadyIn.cons rfl (fun K hK => ?_) ?_)
        · (go_simp; refine hK _ _ ?_; clear hK K)
          (refine wpAnyIn_take (i := 1) (v := ?_) rfl rfl (by kernel_rfl) (by kernel_rfl) (by kernel_rfl) (fun _ _ _ h => h) ⟨Or.inl ⟨by rfl, ?_⟩, fun _ => rfl⟩ ?_; rotate_left; (focus (intro w; go_simp; try with_reducible rfl)))
          (refine wpAnyIn_ready (rs := [7]) (by kernel_rfl) (by simp) ?_; refine AllReadyIn.cons rfl (fun K hK => ?_) ?_)
          · (go_simp; refine hK _ _ ?_; clear hK K)
            (refine wpAnyIn_ready (rs := [8]) (by kernel_rfl) (by simp) ?_; refine AllReadyIn.cons rfl (fun K hK => ?_) ?_)
            · (go_simp; refine hK _ _ ?_; clear hK K)
              refine wpAnyIn_done (by kernel_rfl) ?_ _
              gi_wp2
              exact mn_fin W' _ xs k o m _ H1.out H2.out HT.out hkk hoo
            · exact AllReadyIn.nil
          · exact AllReadyIn.nil
        · exact AllReadyIn.nil
      · exact AllReadyIn.nil
  case done =>
    rintro W' C' ⟨h1, h2, rfl⟩ _ hm' hb' hK hn'
    rw [hsz] at hK hn'
    have hn2 : (tlIt l fun b => b = w.heap.size + 1 + 1 ∨ D b).n = xs.length := by rw [HX.out]; rfl
    rw [hn2] at h1 h2
    rw [List.take_length] at h2
    have c0 := hp_cell h1 0
    have c1 := hp_cell h2 0
    have HM' := Lib.hid hm'
    have hend : Mod (fun _ => False) w (W'.putObj (w.heap.size + 3) (.deferred none)) := by
      refine Mod.putObj ((HM4.out (fun _ => False)).trans HM'.out (fun b hb => ?_)) (.inr (by omega)) _
      rcases hb with (h | h) | h
      · right; omega
      · right; omega
      · exact h.elim
    clear hm' hn2
    by_cases hq : sumV xs = n
    · have HQ := Lib.hid (show manyV l = (xs.length : Int) by rw [HV.out, if_pos hq])
      rw [hq] at c1
      clear hq
      gi_wp2
      exact endM1 rfl hK (results_tmp rfl _ _ _) ⟨by rw [HQ.out]; rfl, hend⟩
    · have HQ := Lib.hid (show manyV l = -1 by rw [HV.out, if_neg hq])
      have hq' : (((sumV xs : Nat) : Int) == (n : Int)) = false := by rw [beq_eq_false_iff_ne]; omega
      clear hq
      gi_wp2
      exact endM1 rfl hK (results_tmp rfl _ _ _) ⟨by rw [HQ.out]; rfl, hend⟩
end Go.Proofs.YtmalclclopnlnaaGreat
/-
  The package tlv: a writer takes numbers, and flags.
-/
namespace Go.Proofs.YtmalclclopnlnaaGreat
open Go.RowKit Go.Shelf
attribute [local go_sem] Oper.semAt_some

/-- What stands in a number's row behind k rounds. -/
def numW (n k : Nat) : Bs := List.replicate (8 - k) 0 ++ be k n
theorem numW_len (n k : Nat) (h : k ≤ 8) : (numW n k).length = 8 := by unfold numW; rw [List.length_append, List.length_replicate, be_len]; omega
theorem numW_8 (n : Nat) : numW n 8 = be 8 n := rfl
theorem flat_csU (l : Bs) : l.flatMap csU = l.map fun b => Value.int .u8 (b.toNat : Int) := by
  induction l with
  | nil => rfl
  | cons a l ih => rw [List.flatMap_cons, ih]; rfl
theorem made8 (n : Nat) : madeCells (Value.int .u8 0).cells 8 = ((numW n 0).flatMap csU).toArray := by
  refine Array.toList_inj.1 ((toList_madeCells_one _ _).trans ?_)
  simp [numW, be, csU, List.replicate]
theorem numW_set (n k : Nat) (hk : k < 8) : ((numW n k).flatMap csU).toArray.setIfInBounds (7 - k) (.int .u8 ((n / 256 ^ k % 256 : Nat) : Int)) = ((numW n (k + 1)).flatMap csU).toArray := by
  rw [flat_csU, flat_csU]
  have e1 : numW n k = List.replicate (7 - k) 0 ++ (0 :: be k n) := by
    unfold numW
    rw [show 8 - k = (7 - k) + 1 by omega, List.replicate_succ', List.append_assoc]; rfl
  have e2 : numW n (k + 1) = List.replicate (7 - k) 0 ++ (UInt8.ofNat (n / 256 ^ k % 256) :: be k n) := by
    unfold numW
    rw [be_cons, show 8 - (k + 1) = 7 - k by omega]
  rw [e1, e2, List.map_append, List.map_append, List.setIfInBounds_toArray, List.set_append_right _ _ (by simp)]
  simp
theorem shr_byte (n k : Nat) : (n : Int) / 2 ^ (8 * k) % 256 = ((n / 256 ^ k % 256 : Nat) : Int) := by
  have e2 : (2 : Int) ^ (8 * k) = ((256 ^ k : Nat) : Int) := by
    rw [show (256 : Nat) = 2 ^ 8 from rfl, ← Nat.pow_mul, Int.natCast_pow]; rfl
  rw [e2, Int.natCast_emod, Int.natCast_ediv]; rfl
/-- The end of a call that writes what it laid in new memory. -/
theorem WrEnds.in_ {O : Nat → Prop} {p T : Nat} {w w1 w' : World} {x y : Wt} {r : Ending} (hx : WrAt O p T w x) (hm : Mod (fun _ => False) w w1) (h : WrEnds (fun b => O b ∧ b < w.heap.size) p T w1 y r w') : WrEnds O p T w y r w' := by
  obtain ⟨h1, h2, h3⟩ := h
  have hlt := hx.lt
  have hs := hm.size
  refine ⟨h1, h2.more (fun b hb => ?_) ?_, (hm.mono fun b _ h => h.elim).trans h3 fun b hb => .inl ?_⟩
  · rcases hb with h | h
    · exact .inl h.1
    · right; omega
  · obtain ⟨_, _, _, _, _, _, _, h5⟩ := hx
    rintro (h | h)
    · exact h5 h
    · omega
  · rcases hb with h | h
    · exact .inl h
    · exact .inr h.1
set_option maxRecDepth 100000 in
set_option maxHeartbeats 2000000 in
theorem wnumber_any (O : Nat → Prop) (p T : Nat) (x : Wt) (t : UInt8) (n : Nat) (w : World) (hx : WrAt O p T w x) (hn : n < 18446744073709551616) (hsz : x.b.length ≤ 1099511627776) :
    Calls Tryz.prog 67 #[.pointer (some ⟨p, 0, none⟩), .int .u8 (t.toNat : Int), .int .u64 (n : Int)] w (WrEnds O p T w (x.bytes t (be 8 n))) := by
  have HX := Lib.hid hx
  have HS := Lib.hid hsz
  have HPl := Lib.hid hx.lt
  have hmk : (Instr.makeSlice 35 (.int .i64 8) (.int .i64 8)).run Tryz.prog w = .ok (.slice (some ⟨w.heap.size, 0, none⟩) 8 8) (w.alloc (.cells (madeCells (Value.int .u8 0).cells 8) 5)) :=
    run_makeSlice (P := Tryz.prog) (w := w) 35 5 _ (.int .u8 0) Tryz.underlying35 rfl rfl .i64 .i64 8 8 (by decide) (by decide) (by decide) (by decide) (by decide)
  rw [show madeCells (Value.int .u8 0).cells 8 = ((numW n 0).flatMap csU).toArray from made8 n] at hmk
  obtain ⟨W1, hW1⟩ : ∃ W1, W1 = w.alloc (.cells ((numW n 0).flatMap csU).toArray 5) := ⟨_, rfl⟩
  have hb1 : W1.heap[w.heap.size]? = some (.cells ((numW n 0).flatMap csU).toArray 5 (0, 0)) := by rw [hW1]; exact hp_new _ _
  have hm1 : Mod (fun _ => False) w W1 := by rw [hW1]; (repeat' (first | exact Mod.refl _ _ | assumption | refine Mod.alloc ?_ _ | refine Mod.drew ?_ | refine Mod.drewN ?_ _ | refine Mod.setCell ?_ (by first | exact Or.inl rfl | (right; simp; done) | (right; simp; omega) | (left; simp; done)) _))
  rw [← hW1] at hmk
  have HB1 := Lib.hid hb1
  have HM1 := Lib.hid hm1
  obtain ⟨z, hz⟩ : ∃ z, z = w.heap.size := ⟨_, rfl⟩
  rw [← hz] at hmk HB1
  have HZ := Lib.hid hz
  clear hx hsz hW1 hb1 hm1 hz
  go_enter Tryz.func67, Tryz.ntmps67
  go_wp2
  go_loopw [12] (fun i wr => ∃ k : Nat, k ≤ 8 ∧ i = .int .i64 (k : Int) ∧ wr.heap[z]? = some (.cells ((numW n k).flatMap csU).toArray 5 (0, 0)) ∧ Mod (fun _ => False) w wr) (fun i _ => 8 - (intOf i).toNat)
  case atStart => exact ⟨0, by omega, rfl, HB1.out, HM1.out⟩
  case round =>
    obtain ⟨k, hk, rfl, hb, hm⟩ := hrel
    have HB := Lib.hid hb
    have HM := Lib.hid hm
    by_cases hk8 : k = 8
    · subst hk8
      have hb8 := HB.out
      have hrd : Rd (fun b => b = z) wr 1 csU (some ⟨z, 0, none⟩) (numW n 8) := Rd.blk csU_len hb8 rfl
      have hzs := HZ.out
      have hw := wbytes_any (fun b => O b ∧ b < w.heap.size) p T x t (fun b => b = z) (some ⟨z, 0, none⟩) 8 8 (be 8 n) wr (HX.out.tight.keep HM.out (fun _ _ h => h) (fun h => h)) (fun b hb h => by omega) hrd (be_len 8 n).symm HS.out (by decide)
      have HW := Lib.hid hw
      clear hb hm hb8 hrd hw hzs
      go_wp2_with (first
        | (go_at_call 72
           refine HW.out.mono ?_
           intro r w1 hr1
           have HE1 := Lib.hid (WrEnds.in_ HX.out HM.out hr1)
           obtain ⟨hr1, -, -⟩ := hr1
           subst hr1)
        | fail)
      go_ret
      exact HE1.out
    · have hl : decide ((k : Int) < 8) = true := by rw [decide_eq_true_eq]; omega
      have hk7 : k < 8 := by omega
      have HSB := Lib.hid (shr_byte n k)
      obtain ⟨u, hu⟩ : ∃ u, wr.cell? ⟨z, 7 - k, none⟩ = some u := by
        rw [hp_cell hb]
        have hl : ((numW n k).flatMap csU).toArray.size = 8 := by rw [flat_csU]; simp [numW_len n k hk]
        exact ⟨_, Array.getElem?_eq_getElem (by omega)⟩
      have hf : wr.frozen? ⟨z, 7 - k, none⟩ = false := hp_free hb _
      clear hb hm
      go_wp2
      refine ⟨⟨k + 1, by omega, by rfl, ?_, ?_⟩, ?_⟩
      · rw [numW_set n k hk7 |>.symm]
        exact hp_eq (hp_set HB.out _ _) (by rw [HSB.out])
      · have := HZ.out
        exact HM.out.setCell (.inr (by show w.heap.size ≤ z; omega)) _
      · show 8 - ((k : Int) + 1).toNat < 8 - (k : Int).toNat
        omega
set_option maxRecDepth 100000 in
theorem wflag_any (O : Nat → Prop) (p T : Nat) (x : Wt) (t : UInt8) (b : Bool) (w : World) (hx : WrAt O p T w x) (hsz : x.b.length ≤ 1099511627776) :
    Calls Tryz.prog 68 #[.pointer (some ⟨p, 0, none⟩), .int .u8 (t.toNat : Int), .bool b] w (WrEnds O p T w (x.bytes t (flB b))) := by
  obtain ⟨k, hk⟩ : ∃ k : UInt8, k = if b then 1 else 0 := ⟨_, rfl⟩
  obtain ⟨W1, hW1⟩ : ∃ W1, W1 = w.alloc (.cells #[.int .u8 (k.toNat : Int)] 5) := ⟨_, rfl⟩
  have hm1 : Mod (fun _ => False) w W1 := by rw [hW1]; (repeat' (first | exact Mod.refl _ _ | assumption | refine Mod.alloc ?_ _ | refine Mod.drew ?_ | refine Mod.drewN ?_ _ | refine Mod.setCell ?_ (by first | exact Or.inl rfl | (right; simp; done) | (right; simp; omega) | (left; simp; done)) _))
  have hb1 : W1.heap[w.heap.size]? = some (.cells #[.int .u8 (k.toNat : Int)] 5 (0, 0)) := by rw [hW1]; exact hp_new _ _
  have hf : flB b = [k] := by rw [hk]; cases b <;> rfl
  have hrd : Rd (fun b => b = w.heap.size) W1 1 csU (some ⟨w.heap.size, 0, none⟩) [k] := Rd.one hb1 rfl
  have hw := wbytes_any (fun b => O b ∧ b < w.heap.size) p T x t _ _ 1 1 [k] W1 (hx.tight.keep hm1 (fun _ _ h => h) (fun h => h)) (fun b hb h => by omega) hrd rfl hsz (by decide)
  rw [hf]
  have HM := Lib.hid hm1
  have HX := Lib.hid hx
  rw [hW1] at hw HM
  have HW := Lib.hid hw
  clear hw hrd hb1 hm1 hW1 hf hx
  cases b
  all_goals
    subst hk
    go_enter Tryz.func68, Tryz.ntmps68
    go_wp2_with (first
      | (go_at_call 72
         refine HW.out.mono ?_
         intro r w1 hr1
         have HE1 := Lib.hid (WrEnds.in_ HX.out HM.out hr1)
         obtain ⟨hr1, -, -⟩ := hr1
         subst hr1)
      | fail)
    go_ret
    exact HE1.out
end Go.Proofs.YtmalclclopnlnaaGreat
