/-
  The package tlv: a writer takes a list.
-/
import Derived.Test.YtccnkcaagigceaaGreatTlvI
namespace Go.Proofs.YtccnkcaagigceaaGreat
open Go.RowKit Go.Shelf
attribute [local go_sem] Oper.semAt_some

/-- Values, one behind the other. -/
def valsV (l : List (UInt8 × Bs)) : Bs := l.flatMap fun y => valV y.1 y.2
theorem valsV_take (l : List (UInt8 × Bs)) (k : Nat) (h : k < l.length) : valsV (l.take (k + 1)) = valsV (l.take k) ++ valV l[k].1 l[k].2 := by
  unfold valsV
  rw [List.take_succ_eq_append_getElem h, List.flatMap_append]
  simp
theorem valsV_take_len (l : List (UInt8 × Bs)) (k : Nat) : (valsV (l.take k)).length ≤ (valsV l).length := by
  conv => rhs; rw [← List.take_append_drop k l]
  unfold valsV
  rw [List.flatMap_append, List.length_append]
  omega
theorem valsV_many (l : List (UInt8 × Bs)) : l.length ≤ (valsV l).length := by
  induction l with
  | nil => exact Nat.zero_le _
  | cons y l ih =>
    have : valsV (y :: l) = valV y.1 y.2 ++ valsV l := rfl
    rw [this, List.length_append, valV_len, List.length_cons]
    omega
theorem run_neq_func_nil {P : Program} (w : World) {t : TypeId} {a b : Array TypeId} {c : Bool} (h : P.underlying t = some (.func a b c)) (f : Fn) (x y : Array Value) : (binOp .neq t (.func f x y) .nilFunc).run P w = .ok (.bool true) w := by
  have h' : ∀ d : Nat, (Op.equalIn (d + 1) t (.func f x y) .nilFunc).run P w = .ok false w := fun d => by simp [Op.equalIn, run_underlying h]
  simp only [binOp]
  simp [Op.equal, Op.maxDepth, h' 9999]
/-- The closure g (over lb) puts, asked for the i-th, one value. It looks at blocks of D. -/
def PutsV (g : Nat) (lb : Array Value) (t : UInt8) (v : Bs) (i : Nat) (D : Nat → Prop) (w0 : World) : Prop :=
  ∀ (O : Nat → Prop) (p : Nat) (b : Bs) (W : World), WrAt O p 39 W ⟨b, 0⟩ → Agree D w0 W → (∀ x, D x → x < W.heap.size ∧ ¬ O x ∧ x ≠ p) → b.length ≤ 1099511627776 →
    Calls Tryz.prog g (#[.pointer (some ⟨p, 0, none⟩), .int .i64 (i : Int)] ++ lb) W fun e w' => (∃ r, e = .returned r) ∧ WrAt (fun x => O x ∨ W.heap.size ≤ x) p 39 w' ⟨b ++ valV t v, 0⟩ ∧ Mod (fun x => x = p ∨ O x) W w'
set_option maxRecDepth 100000 in
set_option maxHeartbeats 4000000 in
theorem wlist_any (O : Nat → Prop) (p T : Nat) (x : Wt) (t : UInt8) (n : Nat) (g : Nat) (lb : Array Value) (l : List (UInt8 × Bs)) (D : Nat → Prop) (w : World) (hx : WrAt O p T w x) (hn : n = l.length)
    (eg : ∀ args w, (callFunc g args).run Tryz.prog w = .ok (.enter g args) w) (hok : ∀ y ∈ l, y.1 ≠ 0 ∧ y.2.length ≤ 4194304) (hlen : (valsV l).length ≤ 1099511627776) (hsz : x.b.length ≤ 1099511627776)
    (hput : ∀ (i : Nat) (h : i < l.length), PutsV g lb l[i].1 l[i].2 i D w) (hD : ∀ b, D b → b < w.heap.size) :
    Calls Tryz.prog 28 #[.pointer (some ⟨p, 0, none⟩), .int .u8 (t.toNat : Int), .int .i64 (n : Int), .func (.func g) #[] lb] w (WrEnds O p T w (x.bytes t (valsV l))) := by
  have hlt := hx.lt
  have HX := Lib.hid hx
  obtain ⟨xb, e⟩ := x
  obtain ⟨A, m, c, hp, -, -, -, hpO⟩ := hx
  have q1 : w.cell? ⟨p, 0 + 1, none⟩ = some (.int .i64 (e : Int)) := by rw [hp_cell hp]; rfl
  have q1' : w.cell? ⟨p, 1, none⟩ = some (.int .i64 (e : Int)) := by rw [hp_cell hp]; rfl
  have HPO := Lib.hid hpO
  have HN := Lib.hid hn
  have HOK := Lib.hid hok
  have HLen := Lib.hid hlen
  have HPut := Lib.hid hput
  have HD := Lib.hid hD
  have HSz := Lib.hid (show xb.length ≤ 1099511627776 from hsz)
  clear hp hpO hn hok hlen hput hD hsz
  by_cases he : e = 0
  · subst he
    obtain ⟨S, hS⟩ : ∃ S, S = valsV l := ⟨_, rfl⟩
    rw [← hS] at HLen ⊢
    have HS := Lib.hid hS
    have hnn : ¬ (n : Int) < 0 := by omega
    have hnl : n ≤ 1099511627776 := by have h1 := valsV_many l; have h2 := HLen.out; rw [HS.out, ← HN.out] at *; omega
    clear hS
    go_enter Tryz.func28, Tryz.ntmps28
    go_wp2
    go_step3
    go_wp2
    go_step3
    go_wp2
    obtain ⟨q, hq⟩ : ∃ q, q = w.heap.size := ⟨_, rfl⟩
    have HQ := Lib.hid hq
    obtain ⟨W1, hW1⟩ : ∃ W1, W1 = w.alloc (.cells #[.slice none 0 0, .int .i64 0] 39) := ⟨_, rfl⟩
    have hat0 : WrAt (fun b => q + 1 ≤ b) q 39 W1 ⟨[], 0⟩ := by
      subst hW1
      exact ⟨none, 0, 0, by rw [hq]; exact hp_new _ _, OwnS.nil _ _ _ _ _, rfl, fun b hb => by simp [Value.ownBlock] at hb, by omega⟩
    have hm0 : Mod (fun _ => False) w W1 := by subst hW1; (repeat' (first | exact Mod.refl _ _ | assumption | refine Mod.alloc ?_ _ | refine Mod.drew ?_ | refine Mod.drewN ?_ _ | refine Mod.setCell ?_ (by first | exact Or.inl rfl | (right; simp; done) | (right; simp; omega) | (left; simp; done)) _))
    rw [← hW1, ← hq]
    clear hW1 hq
    go_loopw [29] (fun i wr => ∃ k : Nat, k ≤ n ∧ i = .int .i64 k ∧ WrAt (fun b => q + 1 ≤ b) q 39 wr ⟨valsV (l.take k), 0⟩ ∧ Mod (fun _ => False) w wr) (fun i _ => n - (intOf i).toNat)
    case atStart => exact ⟨0, Nat.zero_le _, rfl, hat0, hm0⟩
    case round =>
      obtain ⟨k, hk, rfl, hat, hm⟩ := hrel
      have HAT := Lib.hid hat
      have HM := Lib.hid hm
      have hqlt := hat.lt
      have hbl := valsV_take_len l k
      rw [← HS.out] at hbl
      have hSl := HLen.out
      obtain ⟨b, hb⟩ : ∃ b, b = valsV (l.take k) := ⟨_, rfl⟩
      rw [← hb] at hat hbl
      have HB := Lib.hid hb
      obtain ⟨A1, m1, c1, hp1, ho1, hm1', hO1, -⟩ := hat
      have hm1 : m1 = b.length := hm1'
      clear hm1'
      have x0 : wr.cell? ⟨q, 0, none⟩ = some (.slice A1 m1 c1) := by rw [hp_cell hp1]; rfl
      have x1 : wr.cell? ⟨q, 1, none⟩ = some (.int .i64 0) := by rw [hp_cell hp1]; rfl
      have x1' : wr.cell? ⟨q, 0 + 1, none⟩ = some (.int .i64 0) := by rw [hp_cell hp1]; rfl
      have hqw1 : q ≤ w.heap.size := by rw [HQ.out]; exact Nat.le_refl _
      have hqw2 : w.heap.size ≤ q := by rw [HQ.out]; exact Nat.le_refl _
      have HM1 := Lib.hid hm1
      have hm1l : m1 ≤ 1099511627776 := by omega
      have HO1 := Lib.hid ho1
      have HP1 := Lib.hid hp1
      clear hat0 hm0 hb hm1
      by_cases hkn : k < n
      · have hkl : k < l.length := by rw [← HN.out]; exact hkn
        obtain ⟨y, hy⟩ : ∃ y, y = l[k] := ⟨_, rfl⟩
        have hyo := HOK.out l[k] (List.getElem_mem hkl)
        have hpt := HPut.out k hkl
        have hvt := valsV_take l k hkl
        have hvl := valsV_take_len l (k + 1)
        rw [← HS.out] at hvl
        rw [← HB.out] at hvt
        rw [← hy] at hyo hpt hvt
        obtain ⟨j, hj⟩ : ∃ j, j = (valV y.1 y.2).length := ⟨_, rfl⟩
        have hj5 : 5 ≤ j := by rw [hj, valV_len]; omega
        have hmj : m1 + j ≤ 1099511627776 := by
          rw [hvt, List.length_append, ← hj, ← HM1.out] at hvl
          omega
        have hcl := hpt (fun b => q + 1 ≤ b) q b wr (by rw [HB.out]; exact HAT.out) (hm.agree fun z hz => ⟨HD.out z hz, id⟩) (fun z hz => by have := HD.out z hz; omega) (by omega)
        have HCl := Lib.hid hcl
        have HVT := Lib.hid hvt
        have HJ := Lib.hid hj
        have HYO := Lib.hid hyo
        have HMany := Lib.hid (manyV_val hyo.1 hyo.2)
        clear hkl hy hyo hpt hvt hvl hj hbl hcl hm hSl hO1 ho1 hp1
        have q3 := fun w => run_neq_func_nil (P := Tryz.prog) w Tryz.underlying62 (.func g) #[] lb
        go_wp2_with (first
          | (with_reducible refine HCl.out.mono ?_
             rintro e w2 ⟨⟨r, rfl⟩, hat2, hm2⟩
             have hat2 : WrAt (fun b => q + 1 ≤ b) q 39 w2 ⟨b ++ valV y.1 y.2, 0⟩ := hat2.more (fun z hz => by omega) (by omega)
             have HAT2 := Lib.hid hat2
             obtain ⟨A2, m2, c2, hp2, ho2, hm2', hO2, -⟩ := hat2
             have hl2 : (b ++ valV y.1 y.2).length = m1 + j := by rw [List.length_append, HJ.out, HM1.out]
             have hm2e : m2 = m1 + j := hm2'.trans hl2
             clear hm2'
             obtain ⟨g2, c2', hv2, -, hg2, -⟩ := ho2.at_ (by rw [hl2]; omega)
             rw [hl2] at hv2
             injection hv2 with e1 e2 e3
             subst e1 e2 e3
             have hcap := (ho2.cap rfl).1
             have hrd2 := rd_drop (rd_of5 ho2 csU_len) (j := m1) (by rw [hl2]; omega)
             rw [Nat.zero_add, Nat.mul_one, HM1.out, List.drop_left, ← HM1.out] at hrd2
             have hcc : ¬ c2 = m1 := by omega
             have hcm : ¬ m1 = c2 := by omega
             have hjl : m1 + j - m1 = j := by omega
             have hmn := tmany_any _ (c2 - m1) (valV y.1 y.2) _ w2 (by rw [← HJ.out]; omega) (by rw [← HJ.out]; omega) hrd2 (fun z hz => (ho2.fresh z hz).2)
             rw [← HJ.out, HMany.out] at hmn
             have HMn := Lib.hid hmn
             have x0 : w2.cell? ⟨q, 0, none⟩ = some (.slice (some ⟨g2, 0, none⟩) (m1 + j) c2) := by rw [hp_cell hp2]; rfl
             have x1 : w2.cell? ⟨q, 1, none⟩ = some (.int .i64 0) := by rw [hp_cell hp2]; rfl
             have x1' : w2.cell? ⟨q, 0 + 1, none⟩ = some (.int .i64 0) := by rw [hp_cell hp2]; rfl
             have HM2 := Lib.hid (HM.out.trans hm2 (fun z hz => by right; omega))
             clear hp2 ho2 hO2 hl2 hrd2 hmn hm2)
          | (go_at_call 55
             (with_reducible refine HMn.out.mono ?_)
             rintro e w3 ⟨rfl, hm3⟩
             have HM3 := Lib.hid hm3
             clear hm3)
          | fail)
        go_roundw
        case rel => exact ⟨k + 1, by omega, by go_num, by rw [HVT.out]; exact HAT2.out.keep HM3.out (fun _ _ h => h) (fun h => h), HM2.out.trans' HM3.out⟩
        case measure => simp only [intOf]; omega
      · obtain rfl : k = n := by omega
        clear hkn
        have hbS : b = valsV l := by rw [HB.out, HN.out, List.take_length]
        subst hbS
        have HW := Lib.hid (wbytes_any (fun b => O b ∧ b < w.heap.size) p T ⟨xb, 0⟩ t (fun b => q + 1 ≤ b) A1 m1 c1 (valsV l) wr (HX.out.tight.keep hm (fun _ _ h => h) (fun h => h)) (fun z hz h => by omega) ((rd_of5 ho1 csU_len).mono hO1) HM1.out HSz.out hm1l)
        clear ho1 hp1 hO1
        go_wp2_with (first
          | (go_at_call 50
             (with_reducible refine HW.out.mono ?_)
             rintro e w3 ⟨rfl, hat3, hm3⟩
             have HAT3 := Lib.hid hat3
             have HM3 := Lib.hid hm3
             clear hat3 hm3)
          | fail)
        rw [Exit.noGoto_ret]
        go_ret
        have hsM := HM.out.size
        refine ⟨rfl, ?_, ?_⟩
        · rw [HS.out]
          refine HAT3.out.more (fun z hz => ?_) (fun h => ?_)
          · rcases hz with h | h
            · exact .inl h.1
            · right; omega
          · rcases h with h | h
            · exact HPO.out h
            · omega
        · refine (HM.out.mono fun z _ h => h.elim).trans HM3.out (fun z hz => .inl ?_)
          rcases hz with h | h
          · exact .inl h
          · exact .inr h.1
  · have he1 : ((e : Int) == 0) = false := by rw [beq_eq_false_iff_ne]; omega
    have HE := Lib.hid (show Wt.bytes ⟨xb, e⟩ t (valsV l) = ⟨xb, e⟩ by unfold Wt.bytes; rw [if_pos he])
    clear eg
    go_enter Tryz.func28, Tryz.ntmps28
    go_wp2
    go_step3
    go_wp2
    rw [Exit.noGoto_ret]
    go_ret
    exact ⟨rfl, by rw [HE.out]; exact HX.out.new hlt, Mod.refl _ _⟩
end Go.Proofs.YtccnkcaagigceaaGreat
