/-
  Texts of this claim, one behind the other: TlvM, TlvD, EntryX, ResF.
-/
import Derived.Test.YtmalclclopnlnaaGreatPk02
import Derived.Test.YtmalclclopnlnaaGreatPk09
import Derived.Test.YtmalclclopnlnaaGreatPk10
import Derived.Test.YtmalclclopnlnaaGreatPk11
import Derived.Test.YtmalclclopnlnaaGreatPk14
import Derived.Test.YtmalclclopnlnaaGreatPk16
import Derived.BigQuiet
/-
  The package tlv: a writer takes a list.
-/
namespace Go.Proofs.YtmalclclopnlnaaGreat
open Go.RowKit Go.Shelf
attribute [local go_sem] Oper.semAt_some

/-- Values, one behind the other. -/
def valsV (l : List (UInt8 × Bs)) : Bs := l.flatMap fun y => valV y.1 y.2
theorem valsV_take (l : List (UInt8 × Bs)) (k : Nat) (h : k < l.length) : valsV (l.take (k + 1)) = valsV (l.take k) ++ valV l[k].1 l[k].2 := by
  unfold valsV
  rw [List.take_succ_eq_append_getElem h, List.flatMap_append]
  simp
theorem valsV_take_len (l : List (UInt8 × Bs)) (k : Nat) : (valsV (l.take k)).length ≤ (valsV l).length := by
  conv => rhs; rw [← List.take_append_drop k l]
  unfold valsV
  rw [List.flatMap_append, List.length_append]
  omega
theorem valsV_many (l : List (UInt8 × Bs)) : l.length ≤ (valsV l).length := by
  induction l with
  | nil => exact Nat.zero_le _
  | cons y l ih =>
    have : valsV (y :: l) = valV y.1 y.2 ++ valsV l := rfl
    rw [this, List.length_append, valV_len, List.length_cons]
    omega
theorem run_neq_func_nil {P : Program} (w : World) {t : TypeId} {a b : Array TypeId} {c : Bool} (h : P.underlying t = some (.func a b c)) (f : Fn) (x y : Array Value) : (binOp .neq t (.func f x y) .nilFunc).run P w = .ok (.bool true) w := by
  have h' : ∀ d : Nat, (Op.equalIn (d + 1) t (.func f x y) .nilFunc).run P w = .ok false w := fun d => by simp [Op.equalIn, run_underlying h]
  simp only [binOp]
  simp [Op.equal, Op.maxDepth, h' 9999]
/-- The closure g (over lb) puts, asked for the i-th, one value. It looks at blocks of D. -/
def PutsV (g : Nat) (lb : Array Value) (t : UInt8) (v : Bs) (i : Nat) (D : Nat → Prop) (w0 : World) : Prop :=
  ∀ (O : Nat → Prop) (p : Nat) (b : Bs) (W : World), WrAt O p 125 W ⟨b, 0⟩ → Agree D w0 W → (∀ x, D x → x < W.heap.size ∧ ¬ O x ∧ x ≠ p) → b.length ≤ 1099511627776 →
    Calls Tryz.prog g (#[.pointer (some ⟨p, 0, none⟩), .int .i64 (i : Int)] ++ lb) W fun e w' => (∃ r, e = .returned r) ∧ WrAt (fun x => O x ∨ W.heap.size ≤ x) p 125 w' ⟨b ++ valV t v, 0⟩ ∧ Mod (fun x => x = p ∨ O x) W w'
set_option maxRecDepth 100000 in
set_option maxHeartbeats 4000000 in
theorem wlist_any (O : Nat → Prop) (p T : Nat) (x : Wt) (t : UInt8) (n : Nat) (g : Nat) (lb : Array Value) (l : List (UInt8 × Bs)) (D : Nat → Prop) (w : World) (hx : WrAt O p T w x) (hn : n = l.length)
    (eg : ∀ args w, (callFunc g args).run Tryz.prog w = .ok (.enter g args) w) (hok : ∀ y ∈ l, y.1 ≠ 0 ∧ y.2.length ≤ 4194304) (hlen : (valsV l).length ≤ 1099511627776) (hsz : x.b.length ≤ 1099511627776)
    (hput : ∀ (i : Nat) (h : i < l.length), PutsV g lb l[i].1 l[i].2 i D w) (hD : ∀ b, D b → b < w.heap.size) :
    Calls Tryz.prog 69 #[.pointer (some ⟨p, 0, none⟩), .int .u8 (t.toNat : Int), .int .i64 (n : Int), .func (.func g) #[] lb] w (WrEnds O p T w (x.bytes t (valsV l))) := by
  have hlt := hx.lt
  have HX := Lib.hid hx
  obtain ⟨xb, e⟩ := x
  obtain ⟨A, m, c, hp, -, -, -, hpO⟩ := hx
  have q1 : w.cell? ⟨p, 0 + 1, none⟩ = some (.int .i64 (e : Int)) := by rw [hp_cell hp]; rfl
  have q1' : w.cell? ⟨p, 1, none⟩ = some (.int .i64 (e : Int)) := by rw [hp_cell hp]; rfl
  have HPO := Lib.hid hpO
  have HN := Lib.hid hn
  have HOK := Lib.hid hok
  have HLen := Lib.hid hlen
  have HPut := Lib.hid hput
  have HD := Lib.hid hD
  have HSz := Lib.hid (show xb.length ≤ 1099511627776 from hsz)
  clear hp hpO hn hok hlen hput hD hsz
  by_cases he : e = 0
  · subst he
    obtain ⟨S, hS⟩ : ∃ S, S = valsV l := ⟨_, rfl⟩
    rw [← hS] at HLen ⊢
    have HS := Lib.hid hS
    have hnn : ¬ (n : Int) < 0 := by omega
    have hnl : n ≤ 1099511627776 := by have h1 := valsV_many l; have h2 := HLen.out; rw [HS.out, ← HN.out] at *; omega
    clear hS
    go_enter Tryz.func69, Tryz.ntmps69
    go_wp2
    go_step3
    go_wp2
    go_step3
    go_wp2
    obtain ⟨q, hq⟩ : ∃ q, q = w.heap.size := ⟨_, rfl⟩
    have HQ := Lib.hid hq
    obtain ⟨W1, hW1⟩ : ∃ W1, W1 = w.alloc (.cells #[.slice none 0 0, .int .i64 0] 125) := ⟨_, rfl⟩
    have hat0 : WrAt (fun b => q + 1 ≤ b) q 125 W1 ⟨[], 0⟩ := by
      subst hW1
      exact ⟨none, 0, 0, by rw [hq]; exact hp_new _ _, OwnS.nil _ _ _ _ _, rfl, fun b hb => by simp [Value.ownBlock] at hb, by omega⟩
    have hm0 : Mod (fun _ => False) w W1 := by subst hW1; (repeat' (first | exact Mod.refl _ _ | assumption | refine Mod.alloc ?_ _ | refine Mod.drew ?_ | refine Mod.drewN ?_ _ | refine Mod.setCell ?_ (by first | exact Or.inl rfl | (right; simp; done) | (right; simp; omega) | (left; simp; done)) _))
    rw [← hW1, ← hq]
    clear hW1 hq
    go_loopw [29] (fun i wr => ∃ k : Nat, k ≤ n ∧ i = .int .i64 k ∧ WrAt (fun b => q + 1 ≤ b) q 125 wr ⟨valsV (l.take k), 0⟩ ∧ Mod (fun _ => False) w wr) (fun i _ => n - (intOf i).toNat)
    case atStart => exact ⟨0, Nat.zero_le _, rfl, hat0, hm0⟩
    case round =>
      obtain ⟨k, hk, rfl, hat, hm⟩ := hrel
      have HAT := Lib.hid hat
      have HM := Lib.hid hm
      have hqlt := hat.lt
      have hbl := valsV_take_len l k
      rw [← HS.out] at hbl
      have hSl := HLen.out
      obtain ⟨b, hb⟩ : ∃ b, b = valsV (l.take k) := ⟨_, rfl⟩
      rw [← hb] at hat hbl
      have HB := Lib.hid hb
      obtain ⟨A1, m1, c1, hp1, ho1, hm1', hO1, -⟩ := hat
      have hm1 : m1 = b.length := hm1'
      clear hm1'
      have x0 : wr.cell? ⟨q, 0, none⟩ = some (.slice A1 m1 c1) := by rw [hp_cell hp1]; rfl
      have x1 : wr.cell? ⟨q, 1, none⟩ = some (.int .i64 0) := by rw [hp_cell hp1]; rfl
      have x1' : wr.cell? ⟨q, 0 + 1, none⟩ = some (.int .i64 0) := by rw [hp_cell hp1]; rfl
      have hqw1 : q ≤ w.heap.size := by rw [HQ.out]; exact Nat.le_refl _
      have hqw2 : w.heap.size ≤ q := by rw [HQ.out]; exact Nat.le_refl _
      have HM1 := Lib.hid hm1
      have hm1l : m1 ≤ 1099511627776 := by omega
      have HO1 := Lib.hid ho1
      have HP1 := Lib.hid hp1
      clear hat0 hm0 hb hm1
      by_cases hkn : k < n
      · have hkl : k < l.length := by rw [← HN.out]; exact hkn
        obtain ⟨y, hy⟩ : ∃ y, y = l[k] := ⟨_, rfl⟩
        have hyo := HOK.out l[k] (List.getElem_mem hkl)
        have hpt := HPut.out k hkl
        have hvt := valsV_take l k hkl
        have hvl := valsV_take_len l (k + 1)
        rw [← HS.out] at hvl
        rw [← HB.out] at hvt
        rw [← hy] at hyo hpt hvt
        obtain ⟨j, hj⟩ : ∃ j, j = (valV y.1 y.2).length := ⟨_, rfl⟩
        have hj5 : 5 ≤ j := by rw [hj, valV_len]; omega
        have hmj : m1 + j ≤ 1099511627776 := by
          rw [hvt, List.length_append, ← hj, ← HM1.out] at hvl
          omega
        have hcl := hpt (fun b => q + 1 ≤ b) q b wr (by rw [HB.out]; exact HAT.out) (hm.agree fun z hz => ⟨HD.out z hz, id⟩) (fun z hz => by have := HD.out z hz; omega) (by omega)
        have HCl := Lib.hid hcl
        have HVT := Lib.hid hvt
        have HJ := Lib.hid hj
        have HYO := Lib.hid hyo
        have HMany := Lib.hid (manyV_val hyo.1 hyo.2)
        clear hkl hy hyo hpt hvt hvl hj hbl hcl hm hSl hO1 ho1 hp1
        have q3 := fun w => run_neq_func_nil (P := Tryz.prog) w Tryz.underlying131 (.func g) #[] lb
        go_wp2_with (first
          | (with_reducible refine HCl.out.mono ?_
             rintro e w2 ⟨⟨r, rfl⟩, hat2, hm2⟩
             have hat2 : WrAt (fun b => q + 1 ≤ b) q 125 w2 ⟨b ++ valV y.1 y.2, 0⟩ := hat2.more (fun z hz => by omega) (by omega)
             have HAT2 := Lib.hid hat2
             obtain ⟨A2, m2, c2, hp2, ho2, hm2', hO2, -⟩ := hat2
             have hl2 : (b ++ valV y.1 y.2).length = m1 + j := by rw [List.length_append, HJ.out, HM1.out]
             have hm2e : m2 = m1 + j := hm2'.trans hl2
             clear hm2'
             obtain ⟨g2, c2', hv2, -, hg2, -⟩ := ho2.at_ (by rw [hl2]; omega)
             rw [hl2] at hv2
             injection hv2 with e1 e2 e3
             subst e1 e2 e3
             have hcap := (ho2.cap rfl).1
             have hrd2 := rd_drop (rd_of5 ho2 csU_len) (j := m1) (by rw [hl2]; omega)
             rw [Nat.zero_add, Nat.mul_one, HM1.out, List.drop_left, ← HM1.out] at hrd2
             have hcc : ¬ c2 = m1 := by omega
             have hcm : ¬ m1 = c2 := by omega
             have hjl : m1 + j - m1 = j := by omega
             have hmn := tmany_any _ (c2 - m1) (valV y.1 y.2) _ w2 (by rw [← HJ.out]; omega) (by rw [← HJ.out]; omega) hrd2 (fun z hz => (ho2.fresh z hz).2)
             rw [← HJ.out, HMany.out] at hmn
             have HMn := Lib.hid hmn
             have x0 : w2.cell? ⟨q, 0, none⟩ = some (.slice (some ⟨g2, 0, none⟩) (m1 + j) c2) := by rw [hp_cell hp2]; rfl
             have x1 : w2.cell? ⟨q, 1, none⟩ = some (.int .i64 0) := by rw [hp_cell hp2]; rfl
             have x1' : w2.cell? ⟨q, 0 + 1, none⟩ = some (.int .i64 0) := by rw [hp_cell hp2]; rfl
             have HM2 := Lib.hid (HM.out.trans hm2 (fun z hz => by right; omega))
             clear hp2 ho2 hO2 hl2 hrd2 hmn hm2)
          | (go_at_call 93
             (with_reducible refine HMn.out.mono ?_)
             rintro e w3 ⟨rfl, hm3⟩
             have HM3 := Lib.hid hm3
             clear hm3)
          | fail)
        go_roundw
        case rel => exact ⟨k + 1, by omega, by go_num, by rw [HVT.out]; exact HAT2.out.keep HM3.out (fun _ _ h => h) (fun h => h), HM2.out.trans' HM3.out⟩
        case measure => simp only [intOf]; omega
      · obtain rfl : k = n := by omega
        clear hkn
        have hbS : b = valsV l := by rw [HB.out, HN.out, List.take_length]
        subst hbS
        have HW := Lib.hid (wbytes_any (fun b => O b ∧ b < w.heap.size) p T ⟨xb, 0⟩ t (fun b => q + 1 ≤ b) A1 m1 c1 (valsV l) wr (HX.out.tight.keep hm (fun _ _ h => h) (fun h => h)) (fun z hz h => by omega) ((rd_of5 ho1 csU_len).mono hO1) HM1.out HSz.out hm1l)
        clear ho1 hp1 hO1
        go_wp2_with (first
          | (go_at_call 72
             (with_reducible refine HW.out.mono ?_)
             rintro e w3 ⟨rfl, hat3, hm3⟩
             have HAT3 := Lib.hid hat3
             have HM3 := Lib.hid hm3
             clear hat3 hm3)
          | fail)
        rw [Exit.noGoto_ret]
        go_ret
        have hsM := HM.out.size
        refine ⟨rfl, ?_, ?_⟩
        · rw [HS.out]
          refine HAT3.out.more (fun z hz => ?_) (fun h => ?_)
          · rcases hz with h | h
            · exact .inl h.1
            · right; omega
          · rcases h with h | h
            · exact HPO.out h
            · omega
        · refine (HM.out.mono fun z _ h => h.elim).trans HM3.out (fun z hz => .inl ?_)
          rcases hz with h | h
          · exact .inl h
          · exact .inr h.1
  · have he1 : ((e : Int) == 0) = false := by rw [beq_eq_false_iff_ne]; omega
    have HE := Lib.hid (show Wt.bytes ⟨xb, e⟩ t (valsV l) = ⟨xb, e⟩ by unfold Wt.bytes; rw [if_pos he])
    clear eg
    go_enter Tryz.func69, Tryz.ntmps69
    go_wp2
    go_step3
    go_wp2
    rw [Exit.noGoto_ret]
    go_ret
    exact ⟨rfl, by rw [HE.out]; exact HX.out.new hlt, Mod.refl _ _⟩
end Go.Proofs.YtmalclclopnlnaaGreat
/-
  The package tlv: a writer's end, a reader's begin, its parts.
-/
namespace Go.Proofs.YtmalclclopnlnaaGreat
open Go.RowKit Go.Shelf
attribute [local go_sem] Oper.semAt_some

/-- What a writer's end answers. -/
def WEnds (x : Wt) (w : World) (r : Ending) (w' : World) : Prop :=
  (if x.e = 0 then ∃ A c, r = .returned (.tuple #[.slice A x.b.length c, .int .i64 0]) ∧ OwnS w.heap.size 5 1 csU w' (.slice A x.b.length c) x.b else r = .returned (.tuple #[.slice none 0 0, .int .i64 (x.e : Int)])) ∧ Mod (fun _ => False) w w'
set_option maxHeartbeats 1000000 in
theorem wend_any (O : Nat → Prop) (p T : Nat) (x : Wt) (w : World) (hx : WrAt O p T w x) (hsz : x.b.length ≤ 1099511627776) :
    Calls Tryz.prog 73 #[.pointer (some ⟨p, 0, none⟩)] w (WEnds x w) := by
  obtain ⟨b, e⟩ := x
  obtain ⟨A, n, c, hp, ho, hn, hO, hpO⟩ := hx
  have q1 : w.cell? ⟨p, 0 + 1, none⟩ = some (.int .i64 (e : Int)) := by rw [hp_cell hp]; rfl
  have q1' : w.cell? ⟨p, 1, none⟩ = some (.int .i64 (e : Int)) := by rw [hp_cell hp]; rfl
  have q0 : w.cell? ⟨p, 0, none⟩ = some (.slice A n c) := by rw [hp_cell hp]; rfl
  have hcl := uclone_any _ A c b w (rd_of5 ho csU_len) hsz
  have hn' : n = b.length := hn
  rw [← hn'] at hcl
  have HC := Lib.hid hcl
  have HN := Lib.hid hn'
  clear hp ho hn hO hpO hcl hsz hn'
  by_cases he : e = 0
  · subst he
    go_enter Tryz.func73, Tryz.ntmps73
    go_wp2_with (first
      | (go_at_call 74
         refine HC.out.mono ?_
         rintro r w1 ⟨A1, c1, rfl, hown, hm⟩
         have HO1 := Lib.hid hown
         have HM1 := Lib.hid hm
         clear hown hm)
      | fail)
    refine bodyPost_ret (v := .tuple #[.slice A1 n c1, .int .i64 0]) (by simp [results, Tryz.results73, go_sem]) rfl ⟨?_, HM1.out⟩
    rw [if_pos rfl]
    refine ⟨A1, c1, ?_, ?_⟩
    · rw [HN.out]
    · have := HO1.out
      rw [HN.out] at this
      exact this
  · have he1 : ((e : Int) == 0) = false := by rw [beq_eq_false_iff_ne]; omega
    have HE := Lib.hid he
    clear he
    go_enter Tryz.func73, Tryz.ntmps73
    go_wp2
    go_quiet (fail)
    go_wp2
    refine bodyPost_ret (v := .tuple #[.slice none 0 0, .int .i64 (e : Int)]) (by simp [results, Tryz.results73, go_sem]) rfl ⟨?_, by (repeat' (first | exact Mod.refl _ _ | assumption | refine Mod.alloc ?_ _ | refine Mod.drew ?_ | refine Mod.drewN ?_ _ | refine Mod.setCell ?_ (by first | exact Or.inl rfl | (right; simp; done) | (right; simp; omega) | (left; simp; done)) _))⟩
    rw [if_neg HE.out]
end Go.Proofs.YtmalclclopnlnaaGreat
/-
  The package entry: attributes are put.
-/
namespace Go.Proofs.YtmalclclopnlnaaGreat
open Go.RowKit Go.Shelf
attribute [local go_sem] Oper.semAt_some

theorem enters_put1 : ∀ args w, (callFunc 117 args).run Tryz.prog w = .ok (.enter 117 args) w := enters_of Tryz.func117 (by kernel_rfl) rfl
theorem enters_put11 : ∀ args w, (callFunc 118 args).run Tryz.prog w = .ok (.enter 118 args) w := enters_of Tryz.func118 (by kernel_rfl) rfl
def attrL (a : At) : List (UInt8 × Bs) := [(1, a.T), (2, a.V)]
theorem valsV_attr (a : At) : valsV (attrL a) = attrI a := by simp [valsV, attrL, attrI]
theorem WrAt.in_ {O : Nat → Prop} {p T : Nat} {w w1 w' : World} {x : Wt} (hm : Mod (fun _ => False) w w1) (hp : ¬ O p) (hlt : p < w.heap.size) (h : WrAt (fun b => (O b ∧ b < w.heap.size) ∨ w1.heap.size ≤ b) p T w' x) : WrAt (fun b => O b ∨ w.heap.size ≤ b) p T w' x := by
  have := hm.size
  refine h.more (fun b hb => ?_) (fun h => ?_)
  · rcases hb with h | h
    · exact .inl h.1
    · right; omega
  · rcases h with h | h
    · exact hp h
    · omega
theorem Mod.in_ {O : Nat → Prop} {p : Nat} {w w1 w' : World} (hm : Mod (fun _ => False) w w1) (h : Mod (fun b => b = p ∨ (O b ∧ b < w.heap.size)) w1 w') : Mod (fun b => b = p ∨ O b) w w' :=
  (hm.mono fun _ _ h => h.elim).trans h fun b hb => .inl (hb.elim .inl fun h => .inr h.1)
theorem WrAt.no {O : Nat → Prop} {p T : Nat} {w : World} {x : Wt} (h : WrAt O p T w x) : ¬ O p := by
  obtain ⟨_, _, _, _, _, _, _, h5⟩ := h
  exact h5
set_option maxHeartbeats 1000000 in
theorem put11_puts (bA bI : Nat) (A : Option Addr) (c : Nat) (xs : List At) (i : Nat) (D0 : Nat → Prop) (w : World) (hA : w.cell? ⟨bA, 0, none⟩ = some (.slice A xs.length c)) (hI : w.cell? ⟨bI, 0, none⟩ = some (.int .i64 (i : Int))) (hR : Rd D0 w 2 At.cs A xs) (hi : i < xs.length) (a : At) (ha : xs[i] = a)
    (h1 : a.T.length ≤ 4194304) (h2 : a.V.length ≤ 4194304) (k : Nat) (hk : k < (attrL a).length) :
    PutsV 118 #[.pointer (some ⟨bA, 0, none⟩), .pointer (some ⟨bI, 0, none⟩)] (attrL a)[k].1 (attrL a)[k].2 k (fun b => b = bA ∨ b = bI ∨ D0 b) w := by
  intro O p b W hat hag hD hb
  have hA' := (hag.cell (p := ⟨bA, 0, none⟩) (.inl rfl)).trans hA
  have hI' := (hag.cell (p := ⟨bI, 0, none⟩) (.inr (.inl rfl))).trans hI
  have hR' := (hR.mono (D' := fun b => b = bA ∨ b = bI ∨ D0 b) fun b h => .inr (.inr h)).keep hag
  obtain ⟨g, off, rfl, -, c0, c1⟩ := rd2 hR' hi
  obtain ⟨n, hn⟩ : ∃ n, n = xs.length := ⟨_, rfl⟩
  rw [ha] at c0 c1
  rw [← hn] at hA'
  have hi2 : i < n := by rw [hn]; exact hi
  have e1 := Lib.hid (Wt.bytes_ok b (t := 1) (by decide) h1)
  have e2 := Lib.hid (Wt.bytes_ok b (t := 2) (by decide) h2)
  have hw1 := wtext_any O p 125 ⟨b, 0⟩ 1 a.T W hat hb (by omega)
  have hw2 := wtext_any O p 125 ⟨b, 0⟩ 2 a.V W hat hb (by omega)
  rw [show (((1 : UInt8).toNat : Nat) : Int) = 1 from rfl] at hw1
  rw [show (((2 : UInt8).toNat : Nat) : Int) = 2 from rfl] at hw2
  have HW := Lib.hid hw1
  have HW2 := Lib.hid hw2
  have hk2 : k < 2 := hk
  clear ha hn hi hA hI hR hR' hat hag hD hb h1 h2 hw1 hw2
  show Calls Tryz.prog 118 #[.pointer (some ⟨p, 0, none⟩), .int .i64 (k : Int), .pointer (some ⟨bA, 0, none⟩), .pointer (some ⟨bI, 0, none⟩)] W _
  rcases (show k = 0 ∨ k = 1 by omega) with rfl | rfl
  · go_enter Tryz.func118, Tryz.ntmps118
    go_wp2_with (first
      | (go_at_call 94
         (with_reducible refine HW.out.mono ?_)
         rintro e w2 ⟨rfl, hat2, hm2⟩
         have HAT2 := Lib.hid hat2
         have HM2 := Lib.hid hm2
         clear hat2 hm2)
      | fail)
    refine bodyPost_end (v := .tuple #[]) (by simp [results, Tryz.results118, go_sem]) rfl ⟨⟨_, rfl⟩, ?_, HM2.out⟩
    have h := HAT2.out
    rw [e1.out] at h
    exact h
  · go_enter Tryz.func118, Tryz.ntmps118
    go_wp2_with (first
      | (go_at_call 94
         (with_reducible refine HW2.out.mono ?_)
         rintro e w2 ⟨rfl, hat2, hm2⟩
         have HAT2 := Lib.hid hat2
         have HM2 := Lib.hid hm2
         clear hat2 hm2)
      | fail)
    refine bodyPost_end (v := .tuple #[]) (by simp [results, Tryz.results118, go_sem]) rfl ⟨⟨_, rfl⟩, ?_, HM2.out⟩
    have h := HAT2.out
    rw [e2.out] at h
    exact h
def attrsL (xs : List At) : List (UInt8 × Bs) := xs.map fun a => (3, attrI a)
theorem valsV_attrs (xs : List At) : valsV (attrsL xs) = attrsV xs := by
  unfold valsV attrsL attrsV
  rw [List.flatMap_map]
  rfl
set_option maxHeartbeats 1000000 in
theorem put1_puts (bA : Nat) (A : Option Addr) (c : Nat) (xs : List At) (D0 : Nat → Prop) (w : World) (hA : w.cell? ⟨bA, 0, none⟩ = some (.slice A xs.length c)) (hR : Rd D0 w 2 At.cs A xs) (i : Nat) (hi : i < xs.length) (a : At) (ha : xs[i] = a)
    (h1 : a.T.length + a.V.length ≤ 4194294) :
    PutsV 117 #[.pointer (some ⟨bA, 0, none⟩)] 3 (attrI a) i (fun b => b = bA ∨ D0 b) w := by
  intro O p b W hat hag hD hb
  have hlt := hat.lt
  have hA' := (hag.cell (p := ⟨bA, 0, none⟩) (.inl rfl)).trans hA
  have hR' := (hR.mono (D' := fun b => b = bA ∨ D0 b) fun b h => .inr h).keep hag
  obtain ⟨W1, hW1⟩ : ∃ W1, W1 = W.alloc (.cells #[.int .i64 (i : Int)] 3) := ⟨_, rfl⟩
  have hm1 : Mod (fun _ => False) W W1 := by rw [hW1]; (repeat' (first | exact Mod.refl _ _ | assumption | refine Mod.alloc ?_ _ | refine Mod.drew ?_ | refine Mod.drewN ?_ _ | refine Mod.setCell ?_ (by first | exact Or.inl rfl | (right; simp; done) | (right; simp; omega) | (left; simp; done)) _))
  have hi1 : W1.heap[W.heap.size]? = some (.cells #[.int .i64 (i : Int)] 3 (0, 0)) := by rw [hW1]; exact hp_new _ _
  have hA1 : W1.cell? ⟨bA, 0, none⟩ = some (.slice A xs.length c) := (hm1.cell (p := ⟨bA, 0, none⟩) (hD bA (.inl rfl)).1 (fun h => h)).trans hA'
  have hR1 := hR'.keep (hm1.agree fun z hz => ⟨(hD z hz).1, id⟩)
  have hI1 : W1.cell? ⟨W.heap.size, 0, none⟩ = some (.int .i64 (i : Int)) := by rw [hp_cell hi1]; rfl
  have hl := attrI_len a
  have hwl := wlist_any (fun z => O z ∧ z < W.heap.size) p 125 ⟨b, 0⟩ 3 2 118 #[.pointer (some ⟨bA, 0, none⟩), .pointer (some ⟨W.heap.size, 0, none⟩)] (attrL a) (fun z => z = bA ∨ z = W.heap.size ∨ (z = bA ∨ D0 z)) W1 (hat.tight.keep hm1 (fun _ _ h => h) (fun h => h)) rfl
    enters_put11 (fun y hy => by
      rcases List.mem_cons.1 hy with rfl | hy
      · exact ⟨show (1 : UInt8) ≠ 0 by decide, by show a.T.length ≤ _; omega⟩
      · rcases List.mem_cons.1 hy with rfl | hy
        · exact ⟨show (2 : UInt8) ≠ 0 by decide, by show a.V.length ≤ _; omega⟩
        · cases hy) (by rw [valsV_attr]; omega) hb
    (fun k hk => put11_puts bA W.heap.size A c xs i _ W1 hA1 hI1 hR1 hi a ha (by omega) (by omega) k hk)
    (fun z hz => by
      have hs : W1.heap.size = W.heap.size + 1 := by rw [hW1]; simp
      rcases hz with h | h | h
      · have := (hD z (.inl h)).1; omega
      · omega
      · have := (hD z h).1; omega)
  rw [valsV_attr, Wt.bytes_ok b (t := 3) (by decide) (by omega)] at hwl
  rw [show (((3 : UInt8).toNat : Nat) : Int) = 3 from rfl, show ((2 : Nat) : Int) = 2 from rfl, hW1] at hwl
  have HW := Lib.hid hwl
  have HM1 := Lib.hid hm1
  rw [hW1] at HM1
  have HNo := Lib.hid hat.no
  clear hwl hm1 hW1 hi1 hA1 hR1 hI1 hA' hR' hA hR hat hag hD hb ha hi hl h1
  show Calls Tryz.prog 117 #[.pointer (some ⟨p, 0, none⟩), .int .i64 (i : Int), .pointer (some ⟨bA, 0, none⟩)] W _
  go_enter Tryz.func117, Tryz.ntmps117
  go_wp2_with (first
    | (go_at_call 69
       (with_reducible refine HW.out.mono ?_)
       rintro e w2 ⟨rfl, hat2, hm2⟩
       have HAT2 := Lib.hid hat2
       have HM2 := Lib.hid hm2
       clear hat2 hm2)
    | fail)
  exact bodyPost_end (v := .tuple #[]) (by simp [results, Tryz.results117, go_sem]) rfl ⟨⟨_, rfl⟩, WrAt.in_ HM1.out HNo.out hlt HAT2.out, Mod.in_ HM1.out HM2.out⟩
set_option maxHeartbeats 1000000 in
theorem eput_any (O : Nat → Prop) (p : Nat) (x : Wt) (t : UInt8) (A : Option Addr) (c : Nat) (xs : List At) (D0 : Nat → Prop) (w : World) (hat : WrAt O p 125 w x) (hsz : x.b.length ≤ 1099511627776) (hR : Rd D0 w 2 At.cs A xs) (hD : ∀ b, D0 b → b < w.heap.size)
    (hf : ∀ a ∈ xs, a.T.length + a.V.length ≤ 4194294) (hlen : (attrsV xs).length ≤ 1099511627776) :
    Calls Tryz.prog 95 #[.pointer (some ⟨p, 0, none⟩), .int .u8 (t.toNat : Int), .slice A xs.length c] w fun e w' =>
      (∃ r, e = .returned r) ∧ WrAt (fun b => O b ∨ w.heap.size ≤ b) p 125 w' (x.bytes t (attrsV xs)) ∧ Mod (fun b => b = p ∨ O b) w w' := by
  have hlt := hat.lt
  obtain ⟨n, hn⟩ : ∃ n, n = xs.length := ⟨_, rfl⟩
  obtain ⟨W1, hW1⟩ : ∃ W1, W1 = w.alloc (.cells #[.slice A n c] 66) := ⟨_, rfl⟩
  have hm1 : Mod (fun _ => False) w W1 := by rw [hW1]; (repeat' (first | exact Mod.refl _ _ | assumption | refine Mod.alloc ?_ _ | refine Mod.drew ?_ | refine Mod.drewN ?_ _ | refine Mod.setCell ?_ (by first | exact Or.inl rfl | (right; simp; done) | (right; simp; omega) | (left; simp; done)) _))
  have hi1 : W1.heap[w.heap.size]? = some (.cells #[.slice A n c] 66 (0, 0)) := by rw [hW1]; exact hp_new _ _
  have hA1 : W1.cell? ⟨w.heap.size, 0, none⟩ = some (.slice A xs.length c) := by rw [hp_cell hi1, ← hn]; rfl
  have hR1 := hR.keep (hm1.agree fun z hz => ⟨hD z hz, id⟩)
  have hwl := wlist_any (fun z => O z ∧ z < w.heap.size) p 125 x t n 117 #[.pointer (some ⟨w.heap.size, 0, none⟩)] (attrsL xs) (fun z => z = w.heap.size ∨ D0 z) W1 (hat.tight.keep hm1 (fun _ _ h => h) (fun h => h)) (by rw [hn]; simp [attrsL])
    enters_put1 (fun y hy => by
      obtain ⟨a, ha, rfl⟩ := List.mem_map.1 hy
      have := hf a ha
      exact ⟨show (3 : UInt8) ≠ 0 by decide, by show (attrI a).length ≤ _; rw [attrI_len]; omega⟩) (by rw [valsV_attrs]; exact hlen) hsz
    (fun k hk => by
      have hk' : k < xs.length := by simpa [attrsL] using hk
      have he : (attrsL xs)[k] = (3, attrI xs[k]) := by simp [attrsL]
      rw [he]
      exact put1_puts w.heap.size A c xs D0 W1 hA1 hR1 k hk' xs[k] rfl (hf _ (List.getElem_mem hk')))
    (fun z hz => by
      have hs : W1.heap.size = w.heap.size + 1 := by rw [hW1]; simp
      rcases hz with h | h
      · omega
      · have := hD z h; omega)
  rw [valsV_attrs, hW1] at hwl
  have HW := Lib.hid hwl
  have HM1 := Lib.hid hm1
  rw [hW1] at HM1
  have HNo := Lib.hid hat.no
  rw [← hn]
  clear hwl hm1 hW1 hi1 hA1 hR1 hR hat hD hf hlen hn hsz
  go_enter Tryz.func95, Tryz.ntmps95
  go_wp2_with (first
    | (go_at_call 69
       (with_reducible refine HW.out.mono ?_)
       rintro e w2 ⟨rfl, hat2, hm2⟩
       have HAT2 := Lib.hid hat2
       have HM2 := Lib.hid hm2
       clear hat2 hm2)
    | fail)
  exact bodyPost_end (v := .tuple #[]) (by simp [results, Tryz.results95, go_sem]) rfl ⟨⟨_, rfl⟩, WrAt.in_ HM1.out HNo.out hlt HAT2.out, Mod.in_ HM1.out HM2.out⟩
end Go.Proofs.YtmalclclopnlnaaGreat
/-
  The package entry: an entry's bytes.
-/
namespace Go.Proofs.YtmalclclopnlnaaGreat
open Go.RowKit Go.Shelf
attribute [local go_sem] Oper.semAt_some

/-- What Bytes answers. -/
def BytEnds (nm : Bs) (xs : List At) (w : World) (e : Ending) (w' : World) : Prop :=
  (if mayE nm xs = true then ∃ A c, e = .returned (.tuple #[.slice A (packV nm xs).length c, .int .i64 0]) ∧ OwnS w.heap.size 5 1 csU w' (.slice A (packV nm xs).length c) (packV nm xs) else e = .returned (.tuple #[.slice none 0 0, .int .i64 2])) ∧ Mod (fun _ => False) w w'
theorem mayE_fits {nm : Bs} {xs : List At} (h : mayE nm xs = true) : nm.length ≤ 1000 ∧ (attrsV xs).length ≤ 52350 ∧ ∀ a ∈ xs, a.T.length + a.V.length ≤ 4194294 := by
  unfold mayE at h
  rw [Bool.and_eq_true] at h
  obtain ⟨h1, h2⟩ := h
  obtain ⟨hl, hm, _⟩ := (mayAs_iff xs).1 h2
  have hal := attrsV_len xs hm
  refine ⟨by unfold mayNm at h1; simp at h1; exact h1.1, by omega, fun a ha => ?_⟩
  have := mayA_fits (hm a ha)
  omega
theorem WrAt.new0 {p : Nat} {w : World} (h : w.heap[p]? = some (.cells #[.slice none 0 0, .int .i64 0] 125 (0, 0))) : WrAt (fun b => p < b) p 125 w ⟨[], 0⟩ :=
  ⟨none, 0, 0, h, OwnS.nil _ _ _ _ _, rfl, fun b hb => (by cases hb), Nat.lt_irrefl _⟩
set_option maxRecDepth 100000 in
set_option maxHeartbeats 2000000 in
theorem ebytes_any (nm : Bs) (A : Option Addr) (c : Nat) (xs : List At) (w : World) (hnm : nm.length ≤ 9223372036854775807) (hA : Rd (fun b => b < w.heap.size) w 2 At.cs A xs) (hl : xs.length ≤ 1099511627776) (hf : ∀ a ∈ xs, FitA a) :
    Calls Tryz.prog 71 #[.agg #[.string ⟨nm.toArray⟩, .slice A xs.length c]] w (BytEnds nm xs w) := by
  obtain ⟨n, hn⟩ : ∃ n, n = xs.length := ⟨_, rfl⟩
  obtain ⟨W1, hW1⟩ : ∃ W1, W1 = w.alloc (.cells #[.string ⟨nm.toArray⟩, .slice A n c] 68) := ⟨_, rfl⟩
  have hm1 : Mod (fun _ => False) w W1 := by rw [hW1]; (repeat' (first | exact Mod.refl _ _ | assumption | refine Mod.alloc ?_ _ | refine Mod.drew ?_ | refine Mod.drewN ?_ _ | refine Mod.setCell ?_ (by first | exact Or.inl rfl | (right; simp; done) | (right; simp; omega) | (left; simp; done)) _))
  have hb1 : W1.heap[w.heap.size]? = some (.cells #[.string ⟨nm.toArray⟩, .slice A n c] 68 (0, 0)) := by rw [hW1]; exact hp_new _ _
  have hs1 : W1.heap.size = w.heap.size + 1 := by rw [hW1]; simp
  have hA1 := hA.keep (hm1.agree fun b hb => ⟨hb, id⟩)
  have hy := eentry_any nm A c xs W1 hnm (hA1.mono fun b hb => by omega) hl hf
  rw [← hn] at hy ⊢
  obtain ⟨z, hz⟩ : ∃ z, z = mayE nm xs := ⟨_, rfl⟩
  rw [← hz] at hy
  have HY := Lib.hid hy
  have HM1 := Lib.hid hm1
  have HA1 := Lib.hid hA1
  have HB1 := Lib.hid hb1
  have HZ := Lib.hid hz
  have HN := Lib.hid hn
  rw [hW1] at HY HM1 HA1 HB1
  clear hy hm1 hA1 hb1 hs1 hW1 hz hn hnm hA hl hf
  cases z
  · go_enter Tryz.func71, Tryz.ntmps71
    go_wp2_with (first
      | (go_at_call 66
         (with_reducible refine HY.out.mono ?_)
         rintro e w2 ⟨rfl, hm2⟩
         have HM2 := Lib.hid hm2
         clear hm2)
      | fail)
    refine bodyPost_ret (v := .tuple #[.slice none 0 0, .int .i64 2]) (by simp [results, Tryz.results71, go_sem]) rfl ⟨?_, HM1.out.trans' HM2.out⟩
    rw [if_neg (by rw [← HZ.out]; simp)]
  · have hfit := mayE_fits HZ.out.symm
    have HFit := Lib.hid hfit
    clear hfit
    go_enter Tryz.func71, Tryz.ntmps71
    go_wp2_with (first
      | (go_at_call 66
         (with_reducible refine HY.out.mono ?_)
         rintro e w2 ⟨rfl, hm2⟩
         have hb2 := hp_mod HB1.out hm2 id
         have hlt2 := hp_lt hb2
         have x0 : w2.cell? ⟨w.heap.size, 0, none⟩ = some (.string ⟨nm.toArray⟩) := by rw [hp_cell hb2]; rfl
         have hwt := wtext_any (fun b => w2.heap.size < b) w2.heap.size 125 ⟨[], 0⟩ 1 nm (w2.alloc (.cells #[.slice none 0 0, .int .i64 0] 125)) (WrAt.new0 (hp_new _ _)) (by simp) (by have := HFit.out.1; omega)
         rw [show (((1 : UInt8).toNat : Nat) : Int) = 1 from rfl, Wt.bytes_ok [] (t := 1) (by decide) (by have := HFit.out.1; omega), List.nil_append] at hwt
         have HWT := Lib.hid hwt
         have HM2 := Lib.hid hm2
         have HB2 := Lib.hid hb2
         clear hm2 hwt hb2)
      | (go_at_call 94
         (with_reducible refine HWT.out.mono ?_)
         rintro e w4 ⟨rfl, hat4, hm4⟩
         have hs2 : (w2.alloc (.cells #[.slice none 0 0, .int .i64 0] 125)).heap.size = w2.heap.size + 1 := by simp
         have hat4 : WrAt (fun b => w2.heap.size < b) w2.heap.size 125 w4 ⟨valV 1 nm, 0⟩ := hat4.more (fun b hb => by omega) (by omega)
         have hb4 := hp_mod (hp_alloc HB2.out _) hm4 (by omega)
         have x1 : w4.cell? ⟨w.heap.size, 1, none⟩ = some (.slice A n c) := by rw [hp_cell hb4]; rfl
         have x1' : w4.cell? ⟨w.heap.size, 0 + 1, none⟩ = some (.slice A n c) := by rw [hp_cell hb4]; rfl
         have hA4 := ((HA1.out.keep (HM2.out.agree fun b hb => ⟨by simp; omega, id⟩)).keep (((Mod.refl (fun _ => False) w2).alloc (.cells #[.slice none 0 0, .int .i64 0] 125)).agree fun b hb => ⟨by omega, id⟩)).keep (hm4.agree fun b hb => ⟨by omega, by omega⟩)
         have hpt := eput_any (fun b => w2.heap.size < b) w2.heap.size ⟨valV 1 nm, 0⟩ 2 A c xs _ w4 hat4 (by have := HFit.out.1; rw [valV_len]; omega) hA4 (fun b hb => by have := hp_lt hb4; omega) HFit.out.2.2 (by have := HFit.out.2.1; omega)
         rw [show (((2 : UInt8).toNat : Nat) : Int) = 2 from rfl, Wt.bytes_ok _ (t := 2) (by decide) (by have := HFit.out.2.1; omega), ← HN.out] at hpt
         have HPT := Lib.hid hpt
         have HM4 := Lib.hid ((((HM1.out.trans' HM2.out).alloc _).mono fun _ _ h => h.elim).trans (C := fun b => w.heap.size ≤ b) hm4 fun b hb => by left; omega)
         have hlt4 := hp_lt hb4
         clear hat4 hm4 hb4 hA4 hpt hs2)
      | (go_at_call 95
         (with_reducible refine HPT.out.mono ?_)
         rintro e w5 ⟨⟨r5, rfl⟩, hat5, hm5⟩
         have hat5 : WrAt (fun b => w2.heap.size < b ∨ w4.heap.size ≤ b) w2.heap.size 125 w5 ⟨packV nm xs, 0⟩ := hat5
         have hpl : (packV nm xs).length ≤ 1099511627776 := by
           have h1 := HFit.out.1
           have h2 := HFit.out.2.1
           unfold packV
           rw [List.length_append, valV_len, valV_len]
           omega
         have hen := wend_any _ _ _ _ w5 hat5 hpl
         have HEn := Lib.hid hen
         have HM5 := Lib.hid (HM4.out.trans hm5 fun b hb => by left; omega)
         clear hat5 hm5 hen hpl)
      | (go_at_call 73
         (with_reducible refine HEn.out.mono ?_)
         rintro e w6 ⟨he6, hm6⟩
         rw [if_pos rfl] at he6
         obtain ⟨A6, c6, he6, ho6⟩ := he6
         have ho6 : OwnS w5.heap.size 5 1 csU w6 (.slice A6 (packV nm xs).length c6) (packV nm xs) := ho6
         have he6 : e = .returned (.tuple #[.slice A6 (packV nm xs).length c6, .int .i64 0]) := he6
         obtain ⟨k, hk⟩ : ∃ k, k = (packV nm xs).length := ⟨_, rfl⟩
         rw [← hk] at he6
         subst he6
         have HK := Lib.hid hk
         have HO6 := Lib.hid ho6
         have HM6 := Lib.hid (HM5.out.trans hm6 fun _ h => h.elim)
         clear hm6 hk ho6)
      | fail)
    refine bodyPost_ret (v := .tuple #[.slice A6 k c6, .int .i64 0]) (by simp [results, Tryz.results71, go_sem]) rfl ⟨?_, HM6.out.mono fun b hb h => absurd h (by omega)⟩
    rw [if_pos HZ.out.symm]
    exact ⟨A6, c6, by rw [HK.out], HO6.out.less HM5.out.size⟩
end Go.Proofs.YtmalclclopnlnaaGreat
/-
  The package message: a result's bytes.
-/
namespace Go.Proofs.YtmalclclopnlnaaGreat
open Go.RowKit Go.Shelf
attribute [local go_sem] Oper.semAt_some

set_option maxRecDepth 100000 in
set_option maxHeartbeats 2000000 in
theorem pack1_puts (bR : Nat) (r : RC) (D0 : Nat → Prop) (w : World) (hR : w.heap[bR]? = some (.cells r.cs.toArray 37 (0, 0))) (hok : r.Ok D0 w) (i : Nat) (hi : i < r.es.length) (x : EnC) (hx : r.es[i] = x) (hmay : mayEn x.ent = true) :
    PutsV 70 #[.pointer (some ⟨bR, 0, none⟩)] 1 (entV x.ent) i (fun b => b = bR ∨ D0 b) w := by
  intro O p b W hat hag hD hb
  have hlt := hat.lt
  have hR' := hp_agree hR hag (.inl rfl)
  have hok' := hok.keep (hag.mono fun b hb => .inr hb)
  obtain ⟨n, hn⟩ : ∃ n, n = r.es.length := ⟨_, rfl⟩
  have x2 : W.cell? ⟨bR, 2, none⟩ = some (.slice r.A n r.cA) := by rw [hp_cell hR', hn]; rfl
  have x2' : W.cell? ⟨bR, 0 + 2, none⟩ = some (.slice r.A n r.cA) := x2
  obtain ⟨b1, o1, hA, -, p0, p1⟩ := rdEn hok'.rdE hi
  rw [hx] at p0 p1
  rw [hA] at x2 x2'
  have hox := hok'.ok x (by rw [← hx]; exact List.getElem_mem _)
  have hlen : x.ats.length ≤ 1099511627776 := by
    obtain ⟨h1, h2⟩ := mayEn_iff.1 hmay
    obtain ⟨h3, -⟩ := (mayAs_iff x.ats).1 h2
    omega
  have hby := ebytes_any x.nm x.A x.c x.ats W hox.nm (hox.rd.mono fun b hb => (hD b (.inr hb)).1) hlen hox.fit
  have HBy := Lib.hid hby
  have HAT := Lib.hid hat
  have HM := Lib.hid (show mayE x.nm x.ats = true from hmay)
  have HEl := Lib.hid (entV_len hmay)
  have HB := Lib.hid hb
  have hin : i < n := by rw [hn]; exact hi
  clear hby hat hmay hb hR hR' hok hok' hag hD hA hn hx hi hox hlen
  show Calls Tryz.prog 70 #[.pointer (some ⟨p, 0, none⟩), .int .i64 (i : Int), .pointer (some ⟨bR, 0, none⟩)] W _
  go_enter Tryz.func70, Tryz.ntmps70
  go_wp2_with (first
    | (go_at_call 71
       (with_reducible refine HBy.out.mono ?_)
       rintro e w1 ⟨h1, hm1⟩
       rw [if_pos HM.out] at h1
       obtain ⟨A1, c1, he1, ho1⟩ := h1
       obtain ⟨k, hk⟩ : ∃ k, k = (packV x.nm x.ats).length := ⟨_, rfl⟩
       rw [← hk] at he1 ho1
       subst he1
       have hw := wbytes_any (fun z => O z ∧ z < W.heap.size) p 125 ⟨b, 0⟩ 1 _ A1 k c1 (entV x.ent) w1 (HAT.out.tight.keep hm1 (fun _ _ h => h) (fun h => h)) (fun z hz h => by have := (ho1.fresh z hz).1; omega) (rd_of5 ho1 csU_len) hk HB.out (by have h : (packV x.nm x.ats).length ≤ 60000 := HEl.out; omega)
       rw [Wt.bytes_ok b (t := 1) (by decide) (by have := HEl.out; omega)] at hw
       rw [show (((1 : UInt8).toNat : Nat) : Int) = 1 from rfl] at hw
       have HW := Lib.hid hw
       have HM1 := Lib.hid hm1
       clear hw hm1 ho1 hk)
    | (go_at_call 72
       (with_reducible refine HW.out.mono ?_)
       intro e w2 hr2
       have HE2 := Lib.hid (WrEnds.in_ HAT.out HM1.out hr2)
       obtain ⟨hr2, -, -⟩ := hr2
       subst hr2)
    | fail)
  exact bodyPost_end (v := .tuple #[]) (by simp [results, Tryz.results70, go_sem]) rfl ⟨⟨_, rfl⟩, HE2.out.2.1, HE2.out.2.2⟩
end Go.Proofs.YtmalclclopnlnaaGreat
