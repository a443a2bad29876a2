/-
  Texts of this claim, one behind the other: ResN.
-/
import Derived.Test.YtmalclclopnlnaaGreatPk18
import Derived.Test.YtmalclclopnlnaaGreatPk20
/-
  The package message: a result is read from its bytes.
-/
namespace Go.Proofs.YtmalclclopnlnaaGreat
open Go.RowKit Go.Shelf
attribute [local go_sem] Oper.semAt_some

theorem numG_len (t : UInt8) (s : Bs) (bad : Bool) : (numG t s bad).2.1.length ≤ s.length := by
  have := gotV_len t s bad
  unfold numG
  split
  · exact this
  · split <;> exact this
theorem numM_len (m : Nat) (t : UInt8) (s : Bs) (bad : Bool) : (numM m t s bad).2.1.length ≤ s.length := by
  have := numG_len t s bad
  unfold numM
  split <;> exact this
theorem numM_le (m : Nat) (t : UInt8) (s : Bs) (bad : Bool) : (numM m t s bad).1 ≤ m := by
  unfold numM
  split
  · exact Nat.zero_le _
  · omega
theorem flagG_len (t : UInt8) (s : Bs) (bad : Bool) : (flagG t s bad).2.1.length ≤ s.length := by
  have := gotV_len t s bad
  unfold flagG
  split
  · exact this
  · split
    · exact this
    · split <;> exact this
theorem listE_len : ∀ (f : Nat) (l : List Ent) (s : Bs), l.length ≤ 1000 → (listR stepE f l s).1.length ≤ 1001
  | 0, l, s, h => by show l.length ≤ 1001; omega
  | f + 1, l, s, h => by
    have he : (stepE l s).1.length = l.length + 1 := by rw [stepE_eq]; simp
    simp only [listR]
    split
    · show l.length ≤ 1001; omega
    · split
      · show (stepE l s).1.length ≤ 1001; omega
      · rename_i h2
        refine listE_len f _ _ ?_
        have h3 : (stepE l s).2.2.2 = true := by
          cases hh : (stepE l s).2.2.2 with
          | true => rfl
          | false => exact absurd (.inl hh) h2
        rw [stepE_eq] at h3
        have h4 := (Bool.and_eq_true_iff.1 h3).2
        rw [he]
        exact of_decide_eq_true h4
theorem resL_many (s : Bs) : (resL s).1.length ≤ 1001 := by
  unfold resL listG
  cases (if (resY s).2.2 = true then none else takeV 3 (resY s).2.1) with
  | none => exact Nat.zero_le _
  | some v =>
    obtain ⟨b, r⟩ := v
    exact listE_len _ _ _ (Nat.zero_le _)
theorem enters_of1 (args : Array Value) (w : World) : (callFunc 52 args).run Tryz.prog w = .ok (.enter 52 args) w := enters_of Tryz.func52 (by kernel_rfl) rfl args w
/-- What reading a result ends in. -/
def ROf (O : Option Res) (w : World) (e : Ending) (w' : World) : Prop :=
  (match O with
    | some x => ∃ r : RC, e = .returned (.tuple #[r.val, .int .i64 0]) ∧ r.res = x ∧ r.Ok (fun b => w.heap.size ≤ b ∧ b < w'.heap.size) w' ∧ r.Fit
    | none => e = .returned (.tuple #[(RC.nil 0).val, .int .i64 4])) ∧ Mod (fun _ => False) w w'
def ROfEnds (s : Bs) : World → Ending → World → Prop := ROf (resOf s)
theorem resOf_bad {s : Bs} (h : (resK s).2.2 = true ∨ 0 < (resK s).2.1.length) : resOf s = none := by unfold resOf; rw [if_pos h]
theorem resOf_ok {s : Bs} (h : ¬ ((resK s).2.2 = true ∨ 0 < (resK s).2.1.length)) : resOf s = if mayR (resX s) = true then some (resX s) else none := by unfold resOf; rw [if_neg h]
/-- The result as it was read. -/
theorem je_ok {bX : Nat} {code : Int} {y : Bool} {l : List Ent} {C D : Nat → Prop} {W : World} {B : Option Addr} {g : Bs} {z : Nat} (h : JE bX code y l C W) (hB : Rd D W 1 csU B g) (hD : ∀ b, D b → z < b ∧ b < W.heap.size ∧ b ≠ bX) (hz : z < bX) (hl : l.length ≤ 1001) (hc : -9223372036854775808 ≤ code ∧ code ≤ 9223372036854775807) (hg : g.length ≤ 1099511627776) :
    ∃ r : RC, W.heap[bX]? = some (.cells #[.int .i64 r.code, .bool r.yes, .slice r.A r.es.length r.cA, .slice none 0 0] 37 (0, 0)) ∧ r.B = B ∧ r.cur = g ∧ r.cB = g.length ∧ r.code = code ∧ r.yes = y ∧ r.es.map EnC.ent = l ∧ r.Ok (fun b => z < b ∧ b < W.heap.size ∧ b ≠ bX) W ∧ r.Fit := by
  obtain ⟨v, xs, DX, h1, h2, h3, h4, h5, -⟩ := h
  obtain ⟨A, c, hv, hrd, hfr, hml⟩ := OwnS.rd h2 EnC.cs_len
  have hxl : xs.length ≤ 1001 := by rw [← h3, List.length_map] at hl; exact hl
  refine ⟨⟨code, y, A, xs, c, B, g, g.length⟩, by rw [h1, hv], rfl, rfl, rfl, rfl, rfl, h3, ⟨hrd.mono fun b hb => by have := hfr b hb; omega, fun e he => ((h4 e he).1).mono fun b hb => by have := h5 b hb; omega, hB.mono hD, hc, hml, by show g.length ≤ _; unfold maxLen; omega, (h2.cap hv).1, Nat.le_refl _⟩, ⟨by show xs.length ≤ _; omega, fun e he => (h4 e he).2⟩⟩
/-- Four cells stored into a block. -/
def st4 (w : World) (b : Nat) (v0 v1 v2 v3 : Value) : World := (((w.setCell ⟨b, 0, none⟩ v0).setCell ⟨b, 1, none⟩ v1).setCell ⟨b, 2, none⟩ v2).setCell ⟨b, 3, none⟩ v3
theorem st4_at {w : World} {b t : Nat} {a0 a1 a2 a3 : Value} (h : w.heap[b]? = some (.cells #[a0, a1, a2, a3] t (0, 0))) (v0 v1 v2 v3 : Value) : (st4 w b v0 v1 v2 v3).heap[b]? = some (.cells #[v0, v1, v2, v3] t (0, 0)) :=
  hp_eq (hp_set (hp_set (hp_set (hp_set h 0 v0) 1 v1) 2 v2) 3 v3) rfl
theorem st4_mod (w : World) (b : Nat) (v0 v1 v2 v3 : Value) : Mod (fun x => x = b) w (st4 w b v0 v1 v2 v3) := by unfold st4; (repeat' (first | exact Mod.refl _ _ | assumption | refine Mod.alloc ?_ _ | refine Mod.drew ?_ | refine Mod.drewN ?_ _ | refine Mod.setCell ?_ (by first | exact Or.inl rfl | (right; simp; done) | (right; simp; omega) | (left; simp; done)) _))
set_option maxRecDepth 100000 in
set_option maxHeartbeats 4000000 in
theorem mof_any (D0 : Nat → Prop) (A : Option Addr) (c : Nat) (s : Bs) (w : World) (hA : Rd D0 w 1 csU A s) (hl : s.length ≤ 1099511627776) :
    Calls Tryz.prog 32 #[.slice A s.length c] w (ROfEnds s w) := by
  obtain ⟨n, hn⟩ : ∃ n, n = s.length := ⟨_, rfl⟩
  obtain ⟨W1, hW1⟩ : ∃ W1, W1 = w.alloc (.cells #[.int .i64 0, .bool false, .slice none 0 0, .slice none 0 0] 37) := ⟨_, rfl⟩
  have hm1 : Mod (fun _ => False) w W1 := by rw [hW1]; (repeat' (first | exact Mod.refl _ _ | assumption | refine Mod.alloc ?_ _ | refine Mod.drew ?_ | refine Mod.drewN ?_ _ | refine Mod.setCell ?_ (by first | exact Or.inl rfl | (right; simp; done) | (right; simp; omega) | (left; simp; done)) _))
  have hb1 : W1.heap[w.heap.size]? = some (.cells #[.int .i64 0, .bool false, .slice none 0 0, .slice none 0 0] 37 (0, 0)) := by rw [hW1]; exact hp_new _ _
  have hrd := tread_any _ A c s W1 ((hA.lt csU_len (by decide)).keep (hm1.agree fun b hb => ⟨hb.2, id⟩)) hl
  have hs1 : W1.heap.size = w.heap.size + 1 := by rw [hW1]; simp
  rw [← hn] at hrd ⊢
  have hNu := fun D p T X (hX : RrAt D p T X s false) => mnumber_any D p T s false 1 255 (by decide) X hX hl
  have hFl := fun D p T X (hX : RrAt D p T X (resC s).2.1 (resC s).2.2) => rflag_any D p T (resC s).2.1 (resC s).2.2 2 X hX (Nat.le_trans (numM_len 255 1 s false) hl)
  have hlY : (resY s).2.1.length ≤ 1099511627776 := Nat.le_trans (flagG_len 2 _ _) (Nat.le_trans (numM_len 255 1 s false) hl)
  have hLi := fun D p T bX X (hX : RrAt D p T X (resY s).2.1 (resY s).2.2) (hb : X.heap[bX]? = some (.cells #[.int .i64 (((resC s).1 : Nat) : Int), .bool (resY s).1, .slice none 0 0, .slice none 0 0] 37 (0, 0))) (hne : bX ≠ p ∧ ¬ D bX) =>
    rlist_any D p T (resY s).2.1 (resY s).2.2 3 52 #[.pointer (some ⟨bX, 0, none⟩)] stepE (JE bX (((resC s).1 : Nat) : Int) (resY s).1) (fun l _ => l.length ≤ 1000) [] (fun b => b = bX ∨ (Value.slice none 0 0).ownBlock = some b ∨ False) X hX hlY enters_of1 stepE_len (of1_takes bX _ _)
      (fun a b ha hok _ _ => by rw [stepE_eq] at hok ⊢; have h4 := of_decide_eq_true (Bool.and_eq_true_iff.1 hok).2; show (a ++ [_]).length ≤ 1000; rw [List.length_append]; exact h4) (fun _ _ _ => Nat.zero_le _) (JE_stab bX _ _)
      ⟨_, [], fun _ => False, hb, OwnS.nil _ _ _ _ _, rfl, fun x hx => (by cases hx), fun _ h => h.elim, rfl⟩ (fun b hb' => by
        rcases hb' with rfl | h | h
        · exact ⟨hp_lt hb, hne.1, hne.2⟩
        · simp [Value.ownBlock] at h
        · exact h.elim)
  have hlL : (resL s).2.1.length ≤ 1099511627776 := Nat.le_trans (listG_len stepE 3 [] _ _) hlY
  have hBy := fun D p T X (hX : RrAt D p T X (resL s).2.1 (resL s).2.2.1) => rbytes_any D p T (resL s).2.1 (resL s).2.2.1 4 X hX hlL
  have hlK : (resK s).1.length ≤ 1099511627776 := Nat.le_trans (gotV_len2 4 _ _) hlL
  rw [show (((1 : UInt8).toNat : Nat) : Int) = 1 from rfl, show ((255 : Nat) : Int) = 255 from rfl] at hNu
  rw [show (((2 : UInt8).toNat : Nat) : Int) = 2 from rfl] at hFl
  rw [show (((3 : UInt8).toNat : Nat) : Int) = 3 from rfl] at hLi
  rw [show (((4 : UInt8).toNat : Nat) : Int) = 4 from rfl] at hBy
  have hNu : ∀ D p T X, RrAt D p T X s false → Calls Tryz.prog 49 #[.pointer (some ⟨p, 0, none⟩), .int .u8 1, .int .u64 255] X fun r w' => r = .returned (.int .i64 (((resC s).1 : Nat) : Int)) ∧ RrAt D p T w' (resC s).2.1 (resC s).2.2 ∧ Mod (fun b => b = p) X w' := hNu
  have hFl : ∀ D p T X, RrAt D p T X (resC s).2.1 (resC s).2.2 → Calls Tryz.prog 50 #[.pointer (some ⟨p, 0, none⟩), .int .u8 2] X fun r w' => r = .returned (.bool (resY s).1) ∧ RrAt D p T w' (resY s).2.1 (resY s).2.2 ∧ Mod (fun b => b = p) X w' := hFl
  have hLi : ∀ D p T bX X, RrAt D p T X (resY s).2.1 (resY s).2.2 → X.heap[bX]? = some (.cells #[.int .i64 (((resC s).1 : Nat) : Int), .bool (resY s).1, .slice none 0 0, .slice none 0 0] 37 (0, 0)) → (bX ≠ p ∧ ¬ D bX) →
    Calls Tryz.prog 51 #[.pointer (some ⟨p, 0, none⟩), .int .u8 3, .func (.func 52) #[] #[.pointer (some ⟨bX, 0, none⟩)]] X (StepEnds (JE bX (((resC s).1 : Nat) : Int) (resY s).1) D p T (fun b => b = bX ∨ (Value.slice none 0 0).ownBlock = some b ∨ False) (resL s) X) := hLi
  have hBy : ∀ D p T X, RrAt D p T X (resL s).2.1 (resL s).2.2.1 → Calls Tryz.prog 54 #[.pointer (some ⟨p, 0, none⟩), .int .u8 4] X (GotEnds D p T (resK s) X) := hBy
  have hEn := fun D p T X (hX : RrAt D p T X (resK s).2.1 (resK s).2.2) => rend_any D p T (resK s).2.1 (resK s).2.2 X hX
  have hX : (resX s) = ⟨(((resC s).1 : Nat) : Int), (resY s).1, (resL s).1, (resK s).1⟩ := rfl
  have hcl : (((resC s).1 : Nat) : Int) ≤ 255 := by have : (resC s).1 ≤ 255 := numM_le 255 1 s false; omega
  have hml := resL_many s
  have hbad := @resOf_bad s
  have hgood := @resOf_ok s
  unfold ROfEnds
  obtain ⟨O, hO⟩ : ∃ O, O = resOf s := ⟨_, rfl⟩
  rw [← hO] at hbad hgood ⊢
  obtain ⟨X, hXX⟩ : ∃ X, X = resX s := ⟨_, rfl⟩
  rw [← hXX] at hX hgood
  obtain ⟨cc, hcc⟩ : ∃ z, z = (resC s).1 := ⟨_, rfl⟩
  obtain ⟨yy, hyy⟩ : ∃ z, z = (resY s).1 := ⟨_, rfl⟩
  obtain ⟨ll, hll⟩ : ∃ z, z = (resL s).1 := ⟨_, rfl⟩
  obtain ⟨K, hK⟩ : ∃ z, z = resK s := ⟨_, rfl⟩
  obtain ⟨m, hm⟩ : ∃ m, m = K.1.length := ⟨_, rfl⟩
  rw [← hcc] at hNu hLi hX hcl
  rw [← hyy] at hFl hLi hX
  rw [← hll] at hX hml
  rw [← hK] at hBy hEn hX hbad hgood hlK
  have hLi := fun D p T bX X h1 h2 h3 => (hLi D p T bX X h1 h2 h3).mono fun e w' (h : StepEnds _ D p T _ (resL s) X e w') => (by obtain ⟨h1, h2, h3, C', h4, h5⟩ := h; rw [← hll] at h4; exact ⟨_, h1, h2, h3, C', h4, h5⟩ : ∃ b, e = .returned (.bool b) ∧ RrAt D p T w' (resL s).2.1 (resL s).2.2.1 ∧ Mod (fun b => b = p ∨ (b = bX ∨ (Value.slice none 0 0).ownBlock = some b ∨ False)) X w' ∧ ∃ C' : Nat → Prop, JE bX (cc : Int) yy ll C' w' ∧ ∀ b, C' b → b < w'.heap.size ∧ ((b = bX ∨ (Value.slice none 0 0).ownBlock = some b ∨ False) ∨ X.heap.size ≤ b))
  have hBy := fun D p T X h1 => (hBy D p T X h1).mono fun e w' (h : GotEnds D p T K X e w') => (by obtain ⟨A, h1, h2⟩ := h; rw [← hm] at h1; exact ⟨A, h1, h2⟩ : ∃ A, e = .returned (.slice A m m) ∧ Rd D w' 1 csU A K.1 ∧ RrAt D p T w' K.2.1 K.2.2 ∧ Mod (fun b => b = p) X w')
  have HNu := Lib.hid hNu
  have HFl := Lib.hid hFl
  have HLi := Lib.hid hLi
  have HBy := Lib.hid hBy
  have HEn := Lib.hid hEn
  have HRd := Lib.hid hrd
  have HM1 := Lib.hid hm1
  have HB1 := Lib.hid hb1
  have HW1 := Lib.hid hW1
  have HBad := Lib.hid (show K.2.2 = true ∨ 0 < K.2.1.length → O = none from hbad)
  have HGood := Lib.hid (show ¬(K.2.2 = true ∨ 0 < K.2.1.length) → O = if mayR X = true then some X else none from hgood)
  have HX := Lib.hid hX
  have HCl := Lib.hid hcl
  have HMl := Lib.hid hml
  have HLK := Lib.hid hlK
  have HMm := Lib.hid hm
  have HS1 := Lib.hid hs1
  clear hNu hFl hLi hBy hEn hrd hm1 hb1 hW1 hbad hgood hX hcl hml hO hXX hcc hyy hll hK hm hs1 hA hl hlY hlL hlK hn
  obtain rfl := HW1.out
  clear HW1
  by_cases hbe : K.2.2 = true ∨ 0 < K.2.1.length
  · have HO := Lib.hid (HBad.out hbe)
    rw [if_pos hbe] at HEn
    clear HBad HGood hbe
    go_enter Tryz.func32, Tryz.ntmps32
    go_wp2_with (first
      | (go_at_call 48
         (with_reducible refine HRd.out.mono ?_)
         rintro e w2 ⟨p, T, D, rfl, hp, hD, hat2, hm2⟩
         have hpw : w.heap.size < p := by have := HS1.out; omega
         have HD := Lib.hid (show ∀ b, D b → w.heap.size < b from fun b hb => by have := hD b hb; have := HS1.out; omega)
         have HAT2 := Lib.hid hat2
         have M2 := Lib.hid (HM1.out.trans' hm2)
         have HPl := Lib.hid hat2.lt
         have HB2 := Lib.hid (hp_mod HB1.out hm2 id)
         have hs2 : w.heap.size + 1 ≤ w2.heap.size := by have := hm2.size; have := HS1.out; omega
         clear hp hD hat2 hm2)
      | (go_at_call 49
         (with_reducible refine (HNu.out D p T w2 HAT2.out).mono ?_)
         rintro e w3 ⟨rfl, hat3, hm3⟩
         have HAT3 := Lib.hid hat3
         have M3 := Lib.hid (M2.out.trans hm3 fun b hb => by right; omega)
         have HB3 := Lib.hid (hp_mod HB2.out hm3 (by omega))
         have hs3 := hm3.size
         clear hat3 hm3)
      | (go_at_call 50
         (with_reducible refine (HFl.out D p T w3 HAT3.out).mono ?_)
         rintro e w4 ⟨rfl, hat4, hm4⟩
         have HAT4 := Lib.hid hat4
         have M4 := Lib.hid (M3.out.trans hm4 fun b hb => by right; omega)
         have HB4 := Lib.hid (hp_mod HB3.out hm4 (by omega))
         have hs4 := hm4.size
         clear hat4 hm4)
      | (go_at_call 51
         have hpl4 : p < w4.heap.size := by have := HPl.out; omega
         have hDl4 : ∀ b, D b → b ≠ p ∧ b < w4.heap.size := by obtain ⟨_, _, _, _, _, _, _, h5⟩ := HAT4.out; exact h5
         have HDl4 := Lib.hid hDl4
         have hW5 : Mod (fun _ => False) w4 (w4.alloc (.cells #[.int .i64 (cc : Int), .bool yy, .slice none 0 0, .slice none 0 0] 37)) := by (repeat' (first | exact Mod.refl _ _ | assumption | refine Mod.alloc ?_ _ | refine Mod.drew ?_ | refine Mod.drewN ?_ _ | refine Mod.setCell ?_ (by first | exact Or.inl rfl | (right; simp; done) | (right; simp; omega) | (left; simp; done)) _))
         have hsW : (w4.alloc (.cells #[.int .i64 (cc : Int), .bool yy, .slice none 0 0, .slice none 0 0] 37)).heap.size = w4.heap.size + 1 := by simp
         (with_reducible refine (HLi.out D p T w4.heap.size _ (HAT4.out.keep hW5 id fun _ _ => id) (hp_new _ _) ⟨by omega, fun h => by have := (hDl4 _ h).2; omega⟩).mono ?_)
         rintro e w5 ⟨ok5, rfl, hat5, hm5, C5, hj5, hc5⟩
         have HAT5 := Lib.hid hat5
         have HJ5 := Lib.hid hj5
         have HC5 := Lib.hid (show ∀ b, C5 b → b < w5.heap.size ∧ b ≠ p from fun b hb => by
           have h := hc5 b hb
           refine ⟨h.1, ?_⟩
           rcases h.2 with (h | h | h) | h
           · omega
           · simp [Value.ownBlock] at h
           · exact h.elim
           · omega)
         have M5 := Lib.hid ((M4.out.trans' hW5).trans hm5 fun b hb => by
           rcases hb with h | h | h | h
           · right; omega
           · right; omega
           · simp [Value.ownBlock] at h
           · exact h.elim)
         have HB5 := Lib.hid (hp_mod (hp_mod HB4.out hW5 id) hm5 (by
           rintro (h | h | h | h)
           · omega
           · omega
           · simp [Value.ownBlock] at h
           · exact h.elim))
         have hs5 : w4.heap.size < w5.heap.size := by have := hm5.size; omega
         clear hat5 hm5 hj5 hc5 hDl4 hW5 hsW)
      | (go_at_call 54
         (with_reducible refine (HBy.out D p T w5 HAT5.out).mono ?_)
         rintro e w6 ⟨A6, rfl, hrd6, hat6, hm6⟩
         have hj6 := JE_stab _ _ _ _ _ _ _ HJ5.out (hm6.agree fun b hb => HC5.out b hb)
         have hs6 := hm6.size
         obtain ⟨r, hr6, hrB, hrc, hrcB, hrco, hry, hre, hrok, hrfit⟩ := je_ok (z := w.heap.size) hj6 hrd6 (fun b hb => by have h1 := HD.out b hb; have h2 := HDl4.out b hb; omega) (by omega) HMl.out (by have := HCl.out; omega) HLK.out
         obtain ⟨n5, hn5⟩ : ∃ k, k = r.es.length := ⟨_, rfl⟩
         have hr6' : w6.heap[w4.heap.size]? = some (.cells #[.int .i64 (cc : Int), .bool yy, .slice r.A n5 r.cA, .slice none 0 0] 37 (0, 0)) := by rw [hr6, hrco, hry, hn5]
         have x0 : w6.cell? ⟨w4.heap.size, 0, none⟩ = some (.int .i64 (cc : Int)) := by rw [hp_cell hr6']; rfl
         have x1 : w6.cell? ⟨w4.heap.size, 1, none⟩ = some (.bool yy) := by rw [hp_cell hr6']; rfl
         have x2 : w6.cell? ⟨w4.heap.size, 2, none⟩ = some (.slice r.A n5 r.cA) := by rw [hp_cell hr6']; rfl
         have x3 : w6.cell? ⟨w4.heap.size, 3, none⟩ = some (.slice none 0 0) := by rw [hp_cell hr6']; rfl
         have f3 : w6.frozen? ⟨w4.heap.size, 3, none⟩ = false := hp_free hr6' _
         have hm7 : Mod (fun b => b = w4.heap.size) w6 (w6.setCell ⟨w4.heap.size, 3, none⟩ (.slice A6 m m)) := by (repeat' (first | exact Mod.refl _ _ | assumption | refine Mod.alloc ?_ _ | refine Mod.drew ?_ | refine Mod.drewN ?_ _ | refine Mod.setCell ?_ (by first | exact Or.inl rfl | (right; simp; done) | (right; simp; omega) | (left; simp; done)) _))
         have hat7 := hat6.keep hm7 (by omega) fun b hb => by have h2 := HDl4.out b hb; omega
         have HEn7 := Lib.hid (HEn.out D p T _ hat7)
         have HB6 := Lib.hid (hp_mod HB5.out hm6 (by omega))
         have y0 : w6.cell? ⟨w.heap.size, 0, none⟩ = some (.int .i64 0) := by rw [hp_cell HB6.out]; rfl
         have y1 : w6.cell? ⟨w.heap.size, 1, none⟩ = some (.bool false) := by rw [hp_cell HB6.out]; rfl
         have y2 : w6.cell? ⟨w.heap.size, 2, none⟩ = some (.slice none 0 0) := by rw [hp_cell HB6.out]; rfl
         have y3 : w6.cell? ⟨w.heap.size, 3, none⟩ = some (.slice none 0 0) := by rw [hp_cell HB6.out]; rfl
         have g0 : w6.frozen? ⟨w.heap.size, 0, none⟩ = false := hp_free HB6.out _
         have g1 : w6.frozen? ⟨w.heap.size, 1, none⟩ = false := hp_free HB6.out _
         have g2 : w6.frozen? ⟨w.heap.size, 2, none⟩ = false := hp_free HB6.out _
         have g3 : w6.frozen? ⟨w.heap.size, 3, none⟩ = false := hp_free HB6.out _
         have e1 : ¬ w4.heap.size = w.heap.size := by omega
         have e2 : ¬ w.heap.size = w4.heap.size := by omega
         have HB7 := Lib.hid (hp_far HB6.out (p := ⟨w4.heap.size, 3, none⟩) (by show w.heap.size ≠ w4.heap.size; omega) (.slice A6 m m))
         have HR7 := Lib.hid (show (w6.setCell ⟨w4.heap.size, 3, none⟩ (.slice A6 m m)).heap[w4.heap.size]? = some (.cells #[.int .i64 (cc : Int), .bool yy, .slice r.A n5 r.cA, .slice A6 m m] 37 (0, 0)) from hp_eq (hp_set hr6' 3 _) rfl)
         have HVal := Lib.hid (show r.val = .agg #[.int .i64 (cc : Int), .bool yy, .slice r.A n5 r.cA, .slice A6 m m] by unfold RC.val; rw [hrco, hry, hn5, hrB, hrc, hrcB, ← HMm.out])
         have HRes := Lib.hid (show r.res = X by rw [HX.out]; unfold RC.res; rw [hrco, hry, hre, hrc])
         have hok7 := hrok.mod hm7 (fun b hb => ⟨hb.2.1, hb.2.2⟩)
         have HOk7 := Lib.hid (hok7.mono (D' := fun b => w.heap.size < b ∧ b < (w6.setCell ⟨w4.heap.size, 3, none⟩ (.slice A6 m m)).heap.size) fun b hb => ⟨hb.1, by have := hb.2.1; simpa using this⟩)
         have HFit := Lib.hid hrfit
         have M7 := Lib.hid ((M5.out.trans hm6 fun b hb => by right; omega).trans hm7 fun b hb => by right; omega)
         clear hrd6 hat6 hm6 hj6 hr6 hr6' hrB hrc hrcB hrco hry hre hrok hrfit hn5 hm7 hat7 hok7)
      | (go_at_call 55
         (with_reducible refine HEn7.out.mono ?_)
         rintro e w8 ⟨rfl, rfl⟩)
      | fail)
    have h9 := st4_at HB7.out (.int .i64 0) (.bool false) (.slice none 0 0) (.slice none 0 0)
    have hm9 := st4_mod (w6.setCell ⟨w4.heap.size, 3, none⟩ (.slice A6 m m)) w.heap.size (.int .i64 0) (.bool false) (.slice none 0 0) (.slice none 0 0)
    change bodyPost _ _ _ _ _ (st4 (w6.setCell ⟨w4.heap.size, 3, none⟩ (.slice A6 m m)) w.heap.size (.int .i64 0) (.bool false) (.slice none 0 0) (.slice none 0 0))
    obtain ⟨W9, hW9⟩ : ∃ W9, W9 = st4 (w6.setCell ⟨w4.heap.size, 3, none⟩ (.slice A6 m m)) w.heap.size (.int .i64 0) (.bool false) (.slice none 0 0) (.slice none 0 0) := ⟨_, rfl⟩
    rw [← hW9] at h9 hm9 ⊢
    have M9 := M7.out.trans hm9 fun b hb => by right; omega
    have k0 := hp_cell h9 0
    have k1 := hp_cell h9 1
    have k2 := hp_cell h9 2
    have k3 := hp_cell h9 3
    clear h9 hm9 hW9
    refine bodyPost_ret (v := .tuple #[.agg #[.int .i64 0, .bool false, .slice none 0 0, .slice none 0 0], .int .i64 4]) (by simp [results, Tryz.results32, go_sem] at k0 k1 k2 k3 ⊢; simp [k0, k1, k2, k3]) rfl (by rw [HO.out]; exact ⟨rfl, M9⟩)
  · rw [if_neg hbe] at HEn
    have hOm := HGood.out hbe
    obtain ⟨my, hmy⟩ : ∃ z, z = mayR X := ⟨_, rfl⟩
    rw [← hmy] at hOm
    have HMy := Lib.hid hmy
    have HOm := Lib.hid hOm
    clear HBad HGood hbe hmy hOm
    cases my
    · have HO := Lib.hid (show O = none from HOm.out)
      go_enter Tryz.func32, Tryz.ntmps32
      go_wp2_with (first
        | (go_at_call 48
           (with_reducible refine HRd.out.mono ?_)
           rintro e w2 ⟨p, T, D, rfl, hp, hD, hat2, hm2⟩
           have hpw : w.heap.size < p := by have := HS1.out; omega
           have HD := Lib.hid (show ∀ b, D b → w.heap.size < b from fun b hb => by have := hD b hb; have := HS1.out; omega)
           have HAT2 := Lib.hid hat2
           have M2 := Lib.hid (HM1.out.trans' hm2)
           have HPl := Lib.hid hat2.lt
           have HB2 := Lib.hid (hp_mod HB1.out hm2 id)
           have hs2 : w.heap.size + 1 ≤ w2.heap.size := by have := hm2.size; have := HS1.out; omega
           clear hp hD hat2 hm2)
        | (go_at_call 49
           (with_reducible refine (HNu.out D p T w2 HAT2.out).mono ?_)
           rintro e w3 ⟨rfl, hat3, hm3⟩
           have HAT3 := Lib.hid hat3
           have M3 := Lib.hid (M2.out.trans hm3 fun b hb => by right; omega)
           have HB3 := Lib.hid (hp_mod HB2.out hm3 (by omega))
           have hs3 := hm3.size
           clear hat3 hm3)
        | (go_at_call 50
           (with_reducible refine (HFl.out D p T w3 HAT3.out).mono ?_)
           rintro e w4 ⟨rfl, hat4, hm4⟩
           have HAT4 := Lib.hid hat4
           have M4 := Lib.hid (M3.out.trans hm4 fun b hb => by right; omega)
           have HB4 := Lib.hid (hp_mod HB3.out hm4 (by omega))
           have hs4 := hm4.size
           clear hat4 hm4)
        | (go_at_call 51
           have hpl4 : p < w4.heap.size := by have := HPl.out; omega
           have hDl4 : ∀ b, D b → b ≠ p ∧ b < w4.heap.size := by obtain ⟨_, _, _, _, _, _, _, h5⟩ := HAT4.out; exact h5
           have HDl4 := Lib.hid hDl4
           have hW5 : Mod (fun _ => False) w4 (w4.alloc (.cells #[.int .i64 (cc : Int), .bool yy, .slice none 0 0, .slice none 0 0] 37)) := by (repeat' (first | exact Mod.refl _ _ | assumption | refine Mod.alloc ?_ _ | refine Mod.drew ?_ | refine Mod.drewN ?_ _ | refine Mod.setCell ?_ (by first | exact Or.inl rfl | (right; simp; done) | (right; simp; omega) | (left; simp; done)) _))
           have hsW : (w4.alloc (.cells #[.int .i64 (cc : Int), .bool yy, .slice none 0 0, .slice none 0 0] 37)).heap.size = w4.heap.size + 1 := by simp
           (with_reducible refine (HLi.out D p T w4.heap.size _ (HAT4.out.keep hW5 id fun _ _ => id) (hp_new _ _) ⟨by omega, fun h => by have := (hDl4 _ h).2; omega⟩).mono ?_)
           rintro e w5 ⟨ok5, rfl, hat5, hm5, C5, hj5, hc5⟩
           have HAT5 := Lib.hid hat5
           have HJ5 := Lib.hid hj5
           have HC5 := Lib.hid (show ∀ b, C5 b → b < w5.heap.size ∧ b ≠ p from fun b hb => by
             have h := hc5 b hb
             refine ⟨h.1, ?_⟩
             rcases h.2 with (h | h | h) | h
             · omega
             · simp [Value.ownBlock] at h
             · exact h.elim
             · omega)
           have M5 := Lib.hid ((M4.out.trans' hW5).trans hm5 fun b hb => by
             rcases hb with h | h | h | h
             · right; omega
             · right; omega
             · simp [Value.ownBlock] at h
             · exact h.elim)
           have HB5 := Lib.hid (hp_mod (hp_mod HB4.out hW5 id) hm5 (by
             rintro (h | h | h | h)
             · omega
             · omega
             · simp [Value.ownBlock] at h
             · exact h.elim))
           have hs5 : w4.heap.size < w5.heap.size := by have := hm5.size; omega
           clear hat5 hm5 hj5 hc5 hDl4 hW5 hsW)
        | (go_at_call 54
           (with_reducible refine (HBy.out D p T w5 HAT5.out).mono ?_)
           rintro e w6 ⟨A6, rfl, hrd6, hat6, hm6⟩
           have hj6 := JE_stab _ _ _ _ _ _ _ HJ5.out (hm6.agree fun b hb => HC5.out b hb)
           have hs6 := hm6.size
           obtain ⟨r, hr6, hrB, hrc, hrcB, hrco, hry, hre, hrok, hrfit⟩ := je_ok (z := w.heap.size) hj6 hrd6 (fun b hb => by have h1 := HD.out b hb; have h2 := HDl4.out b hb; omega) (by omega) HMl.out (by have := HCl.out; omega) HLK.out
           obtain ⟨n5, hn5⟩ : ∃ k, k = r.es.length := ⟨_, rfl⟩
           have hr6' : w6.heap[w4.heap.size]? = some (.cells #[.int .i64 (cc : Int), .bool yy, .slice r.A n5 r.cA, .slice none 0 0] 37 (0, 0)) := by rw [hr6, hrco, hry, hn5]
           have x0 : w6.cell? ⟨w4.heap.size, 0, none⟩ = some (.int .i64 (cc : Int)) := by rw [hp_cell hr6']; rfl
           have x1 : w6.cell? ⟨w4.heap.size, 1, none⟩ = some (.bool yy) := by rw [hp_cell hr6']; rfl
           have x2 : w6.cell? ⟨w4.heap.size, 2, none⟩ = some (.slice r.A n5 r.cA) := by rw [hp_cell hr6']; rfl
           have x3 : w6.cell? ⟨w4.heap.size, 3, none⟩ = some (.slice none 0 0) := by rw [hp_cell hr6']; rfl
           have f3 : w6.frozen? ⟨w4.heap.size, 3, none⟩ = false := hp_free hr6' _
           have hm7 : Mod (fun b => b = w4.heap.size) w6 (w6.setCell ⟨w4.heap.size, 3, none⟩ (.slice A6 m m)) := by (repeat' (first | exact Mod.refl _ _ | assumption | refine Mod.alloc ?_ _ | refine Mod.drew ?_ | refine Mod.drewN ?_ _ | refine Mod.setCell ?_ (by first | exact Or.inl rfl | (right; simp; done) | (right; simp; omega) | (left; simp; done)) _))
           have hat7 := hat6.keep hm7 (by omega) fun b hb => by have h2 := HDl4.out b hb; omega
           have HEn7 := Lib.hid (HEn.out D p T _ hat7)
           have HB6 := Lib.hid (hp_mod HB5.out hm6 (by omega))
           have y0 : w6.cell? ⟨w.heap.size, 0, none⟩ = some (.int .i64 0) := by rw [hp_cell HB6.out]; rfl
           have y1 : w6.cell? ⟨w.heap.size, 1, none⟩ = some (.bool false) := by rw [hp_cell HB6.out]; rfl
           have y2 : w6.cell? ⟨w.heap.size, 2, none⟩ = some (.slice none 0 0) := by rw [hp_cell HB6.out]; rfl
           have y3 : w6.cell? ⟨w.heap.size, 3, none⟩ = some (.slice none 0 0) := by rw [hp_cell HB6.out]; rfl
           have g0 : w6.frozen? ⟨w.heap.size, 0, none⟩ = false := hp_free HB6.out _
           have g1 : w6.frozen? ⟨w.heap.size, 1, none⟩ = false := hp_free HB6.out _
           have g2 : w6.frozen? ⟨w.heap.size, 2, none⟩ = false := hp_free HB6.out _
           have g3 : w6.frozen? ⟨w.heap.size, 3, none⟩ = false := hp_free HB6.out _
           have e1 : ¬ w4.heap.size = w.heap.size := by omega
           have e2 : ¬ w.heap.size = w4.heap.size := by omega
           have HB7 := Lib.hid (hp_far HB6.out (p := ⟨w4.heap.size, 3, none⟩) (by show w.heap.size ≠ w4.heap.size; omega) (.slice A6 m m))
           have HR7 := Lib.hid (show (w6.setCell ⟨w4.heap.size, 3, none⟩ (.slice A6 m m)).heap[w4.heap.size]? = some (.cells #[.int .i64 (cc : Int), .bool yy, .slice r.A n5 r.cA, .slice A6 m m] 37 (0, 0)) from hp_eq (hp_set hr6' 3 _) rfl)
           have HVal := Lib.hid (show r.val = .agg #[.int .i64 (cc : Int), .bool yy, .slice r.A n5 r.cA, .slice A6 m m] by unfold RC.val; rw [hrco, hry, hn5, hrB, hrc, hrcB, ← HMm.out])
           have HRes := Lib.hid (show r.res = X by rw [HX.out]; unfold RC.res; rw [hrco, hry, hre, hrc])
           have hok7 := hrok.mod hm7 (fun b hb => ⟨hb.2.1, hb.2.2⟩)
           have HOk7 := Lib.hid (hok7.mono (D' := fun b => w.heap.size < b ∧ b < (w6.setCell ⟨w4.heap.size, 3, none⟩ (.slice A6 m m)).heap.size) fun b hb => ⟨hb.1, by have := hb.2.1; simpa using this⟩)
           have HFit := Lib.hid hrfit
           have M7 := Lib.hid ((M5.out.trans hm6 fun b hb => by right; omega).trans hm7 fun b hb => by right; omega)
           clear hrd6 hat6 hm6 hj6 hr6 hr6' hrB hrc hrcB hrco hry hre hrok hrfit hn5 hm7 hat7 hok7)
        | (go_at_call 55
           (with_reducible refine HEn7.out.mono ?_)
           rintro e w8 ⟨rfl, rfl⟩)
        | (go_at_call 46
           have hmm := mmay_any r _ (HOk7.out.mono fun b hb => hb.2) HFit.out
           rw [HVal.out, HRes.out, ← HMy.out] at hmm
           (with_reducible refine hmm.mono ?_)
           rintro e w8 ⟨rfl, hm8⟩
           have HB8 := Lib.hid (hp_mod HB7.out hm8 id)
           have HR8 := Lib.hid (hp_mod HR7.out hm8 id)
           have HOk8 := Lib.hid (HOk7.out.mod hm8 (fun b hb => ⟨hb.2, id⟩))
           have M8 := Lib.hid (M7.out.trans hm8 fun _ h => h.elim)
           have y0 : w8.cell? ⟨w.heap.size, 0, none⟩ = some (.int .i64 0) := by rw [hp_cell HB8.out]; rfl
           have y1 : w8.cell? ⟨w.heap.size, 1, none⟩ = some (.bool false) := by rw [hp_cell HB8.out]; rfl
           have y2 : w8.cell? ⟨w.heap.size, 2, none⟩ = some (.slice none 0 0) := by rw [hp_cell HB8.out]; rfl
           have y3 : w8.cell? ⟨w.heap.size, 3, none⟩ = some (.slice none 0 0) := by rw [hp_cell HB8.out]; rfl
           have g0 : w8.frozen? ⟨w.heap.size, 0, none⟩ = false := hp_free HB8.out _
           have g1 : w8.frozen? ⟨w.heap.size, 1, none⟩ = false := hp_free HB8.out _
           have g2 : w8.frozen? ⟨w.heap.size, 2, none⟩ = false := hp_free HB8.out _
           have g3 : w8.frozen? ⟨w.heap.size, 3, none⟩ = false := hp_free HB8.out _
           have z0 : w8.cell? ⟨w4.heap.size, 0, none⟩ = some (.int .i64 (cc : Int)) := by rw [hp_cell HR8.out]; rfl
           have z1 : w8.cell? ⟨w4.heap.size, 1, none⟩ = some (.bool yy) := by rw [hp_cell HR8.out]; rfl
           have z2 : w8.cell? ⟨w4.heap.size, 2, none⟩ = some (.slice r.A n5 r.cA) := by rw [hp_cell HR8.out]; rfl
           have z3 : w8.cell? ⟨w4.heap.size, 3, none⟩ = some (.slice A6 m m) := by rw [hp_cell HR8.out]; rfl
           have hs8 := hm8.size
           clear hm8)
        | fail)
      have h9 := st4_at HB8.out (.int .i64 0) (.bool false) (.slice none 0 0) (.slice none 0 0)
      have hm9 := st4_mod (w8) w.heap.size (.int .i64 0) (.bool false) (.slice none 0 0) (.slice none 0 0)
      change bodyPost _ _ _ _ _ (st4 (w8) w.heap.size (.int .i64 0) (.bool false) (.slice none 0 0) (.slice none 0 0))
      obtain ⟨W9, hW9⟩ : ∃ W9, W9 = st4 (w8) w.heap.size (.int .i64 0) (.bool false) (.slice none 0 0) (.slice none 0 0) := ⟨_, rfl⟩
      rw [← hW9] at h9 hm9 ⊢
      have M9 := M8.out.trans hm9 fun b hb => by right; omega
      have k0 := hp_cell h9 0
      have k1 := hp_cell h9 1
      have k2 := hp_cell h9 2
      have k3 := hp_cell h9 3
      clear h9 hm9 hW9
      refine bodyPost_ret (v := .tuple #[.agg #[.int .i64 0, .bool false, .slice none 0 0, .slice none 0 0], .int .i64 4]) (by simp [results, Tryz.results32, go_sem] at k0 k1 k2 k3 ⊢; simp [k0, k1, k2, k3]) rfl (by rw [HO.out]; exact ⟨rfl, M9⟩)
    · have HO := Lib.hid (show O = some X from HOm.out)
      go_enter Tryz.func32, Tryz.ntmps32
      go_wp2_with (first
        | (go_at_call 48
           (with_reducible refine HRd.out.mono ?_)
           rintro e w2 ⟨p, T, D, rfl, hp, hD, hat2, hm2⟩
           have hpw : w.heap.size < p := by have := HS1.out; omega
           have HD := Lib.hid (show ∀ b, D b → w.heap.size < b from fun b hb => by have := hD b hb; have := HS1.out; omega)
           have HAT2 := Lib.hid hat2
           have M2 := Lib.hid (HM1.out.trans' hm2)
           have HPl := Lib.hid hat2.lt
           have HB2 := Lib.hid (hp_mod HB1.out hm2 id)
           have hs2 : w.heap.size + 1 ≤ w2.heap.size := by have := hm2.size; have := HS1.out; omega
           clear hp hD hat2 hm2)
        | (go_at_call 49
           (with_reducible refine (HNu.out D p T w2 HAT2.out).mono ?_)
           rintro e w3 ⟨rfl, hat3, hm3⟩
           have HAT3 := Lib.hid hat3
           have M3 := Lib.hid (M2.out.trans hm3 fun b hb => by right; omega)
           have HB3 := Lib.hid (hp_mod HB2.out hm3 (by omega))
           have hs3 := hm3.size
           clear hat3 hm3)
        | (go_at_call 50
           (with_reducible refine (HFl.out D p T w3 HAT3.out).mono ?_)
           rintro e w4 ⟨rfl, hat4, hm4⟩
           have HAT4 := Lib.hid hat4
           have M4 := Lib.hid (M3.out.trans hm4 fun b hb => by right; omega)
           have HB4 := Lib.hid (hp_mod HB3.out hm4 (by omega))
           have hs4 := hm4.size
           clear hat4 hm4)
        | (go_at_call 51
           have hpl4 : p < w4.heap.size := by have := HPl.out; omega
           have hDl4 : ∀ b, D b → b ≠ p ∧ b < w4.heap.size := by obtain ⟨_, _, _, _, _, _, _, h5⟩ := HAT4.out; exact h5
           have HDl4 := Lib.hid hDl4
           have hW5 : Mod (fun _ => False) w4 (w4.alloc (.cells #[.int .i64 (cc : Int), .bool yy, .slice none 0 0, .slice none 0 0] 37)) := by (repeat' (first | exact Mod.refl _ _ | assumption | refine Mod.alloc ?_ _ | refine Mod.drew ?_ | refine Mod.drewN ?_ _ | refine Mod.setCell ?_ (by first | exact Or.inl rfl | (right; simp; done) | (right; simp; omega) | (left; simp; done)) _))
           have hsW : (w4.alloc (.cells #[.int .i64 (cc : Int), .bool yy, .slice none 0 0, .slice none 0 0] 37)).heap.size = w4.heap.size + 1 := by simp
           (with_reducible refine (HLi.out D p T w4.heap.size _ (HAT4.out.keep hW5 id fun _ _ => id) (hp_new _ _) ⟨by omega, fun h => by have := (hDl4 _ h).2; omega⟩).mono ?_)
           rintro e w5 ⟨ok5, rfl, hat5, hm5, C5, hj5, hc5⟩
           have HAT5 := Lib.hid hat5
           have HJ5 := Lib.hid hj5
           have HC5 := Lib.hid (show ∀ b, C5 b → b < w5.heap.size ∧ b ≠ p from fun b hb => by
             have h := hc5 b hb
             refine ⟨h.1, ?_⟩
             rcases h.2 with (h | h | h) | h
             · omega
             · simp [Value.ownBlock] at h
             · exact h.elim
             · omega)
           have M5 := Lib.hid ((M4.out.trans' hW5).trans hm5 fun b hb => by
             rcases hb with h | h | h | h
             · right; omega
             · right; omega
             · simp [Value.ownBlock] at h
             · exact h.elim)
           have HB5 := Lib.hid (hp_mod (hp_mod HB4.out hW5 id) hm5 (by
             rintro (h | h | h | h)
             · omega
             · omega
             · simp [Value.ownBlock] at h
             · exact h.elim))
           have hs5 : w4.heap.size < w5.heap.size := by have := hm5.size; omega
           clear hat5 hm5 hj5 hc5 hDl4 hW5 hsW)
        | (go_at_call 54
           (with_reducible refine (HBy.out D p T w5 HAT5.out).mono ?_)
           rintro e w6 ⟨A6, rfl, hrd6, hat6, hm6⟩
           have hj6 := JE_stab _ _ _ _ _ _ _ HJ5.out (hm6.agree fun b hb => HC5.out b hb)
           have hs6 := hm6.size
           obtain ⟨r, hr6, hrB, hrc, hrcB, hrco, hry, hre, hrok, hrfit⟩ := je_ok (z := w.heap.size) hj6 hrd6 (fun b hb => by have h1 := HD.out b hb; have h2 := HDl4.out b hb; omega) (by omega) HMl.out (by have := HCl.out; omega) HLK.out
           obtain ⟨n5, hn5⟩ : ∃ k, k = r.es.length := ⟨_, rfl⟩
           have hr6' : w6.heap[w4.heap.size]? = some (.cells #[.int .i64 (cc : Int), .bool yy, .slice r.A n5 r.cA, .slice none 0 0] 37 (0, 0)) := by rw [hr6, hrco, hry, hn5]
           have x0 : w6.cell? ⟨w4.heap.size, 0, none⟩ = some (.int .i64 (cc : Int)) := by rw [hp_cell hr6']; rfl
           have x1 : w6.cell? ⟨w4.heap.size, 1, none⟩ = some (.bool yy) := by rw [hp_cell hr6']; rfl
           have x2 : w6.cell? ⟨w4.heap.size, 2, none⟩ = some (.slice r.A n5 r.cA) := by rw [hp_cell hr6']; rfl
           have x3 : w6.cell? ⟨w4.heap.size, 3, none⟩ = some (.slice none 0 0) := by rw [hp_cell hr6']; rfl
           have f3 : w6.frozen? ⟨w4.heap.size, 3, none⟩ = false := hp_free hr6' _
           have hm7 : Mod (fun b => b = w4.heap.size) w6 (w6.setCell ⟨w4.heap.size, 3, none⟩ (.slice A6 m m)) := by (repeat' (first | exact Mod.refl _ _ | assumption | refine Mod.alloc ?_ _ | refine Mod.drew ?_ | refine Mod.drewN ?_ _ | refine Mod.setCell ?_ (by first | exact Or.inl rfl | (right; simp; done) | (right; simp; omega) | (left; simp; done)) _))
           have hat7 := hat6.keep hm7 (by omega) fun b hb => by have h2 := HDl4.out b hb; omega
           have HEn7 := Lib.hid (HEn.out D p T _ hat7)
           have HB6 := Lib.hid (hp_mod HB5.out hm6 (by omega))
           have y0 : w6.cell? ⟨w.heap.size, 0, none⟩ = some (.int .i64 0) := by rw [hp_cell HB6.out]; rfl
           have y1 : w6.cell? ⟨w.heap.size, 1, none⟩ = some (.bool false) := by rw [hp_cell HB6.out]; rfl
           have y2 : w6.cell? ⟨w.heap.size, 2, none⟩ = some (.slice none 0 0) := by rw [hp_cell HB6.out]; rfl
           have y3 : w6.cell? ⟨w.heap.size, 3, none⟩ = some (.slice none 0 0) := by rw [hp_cell HB6.out]; rfl
           have g0 : w6.frozen? ⟨w.heap.size, 0, none⟩ = false := hp_free HB6.out _
           have g1 : w6.frozen? ⟨w.heap.size, 1, none⟩ = false := hp_free HB6.out _
           have g2 : w6.frozen? ⟨w.heap.size, 2, none⟩ = false := hp_free HB6.out _
           have g3 : w6.frozen? ⟨w.heap.size, 3, none⟩ = false := hp_free HB6.out _
           have e1 : ¬ w4.heap.size = w.heap.size := by omega
           have e2 : ¬ w.heap.size = w4.heap.size := by omega
           have HB7 := Lib.hid (hp_far HB6.out (p := ⟨w4.heap.size, 3, none⟩) (by show w.heap.size ≠ w4.heap.size; omega) (.slice A6 m m))
           have HR7 := Lib.hid (show (w6.setCell ⟨w4.heap.size, 3, none⟩ (.slice A6 m m)).heap[w4.heap.size]? = some (.cells #[.int .i64 (cc : Int), .bool yy, .slice r.A n5 r.cA, .slice A6 m m] 37 (0, 0)) from hp_eq (hp_set hr6' 3 _) rfl)
           have HVal := Lib.hid (show r.val = .agg #[.int .i64 (cc : Int), .bool yy, .slice r.A n5 r.cA, .slice A6 m m] by unfold RC.val; rw [hrco, hry, hn5, hrB, hrc, hrcB, ← HMm.out])
           have HRes := Lib.hid (show r.res = X by rw [HX.out]; unfold RC.res; rw [hrco, hry, hre, hrc])
           have hok7 := hrok.mod hm7 (fun b hb => ⟨hb.2.1, hb.2.2⟩)
           have HOk7 := Lib.hid (hok7.mono (D' := fun b => w.heap.size < b ∧ b < (w6.setCell ⟨w4.heap.size, 3, none⟩ (.slice A6 m m)).heap.size) fun b hb => ⟨hb.1, by have := hb.2.1; simpa using this⟩)
           have HFit := Lib.hid hrfit
           have M7 := Lib.hid ((M5.out.trans hm6 fun b hb => by right; omega).trans hm7 fun b hb => by right; omega)
           clear hrd6 hat6 hm6 hj6 hr6 hr6' hrB hrc hrcB hrco hry hre hrok hrfit hn5 hm7 hat7 hok7)
        | (go_at_call 55
           (with_reducible refine HEn7.out.mono ?_)
           rintro e w8 ⟨rfl, rfl⟩)
        | (go_at_call 46
           have hmm := mmay_any r _ (HOk7.out.mono fun b hb => hb.2) HFit.out
           rw [HVal.out, HRes.out, ← HMy.out] at hmm
           (with_reducible refine hmm.mono ?_)
           rintro e w8 ⟨rfl, hm8⟩
           have HB8 := Lib.hid (hp_mod HB7.out hm8 id)
           have HR8 := Lib.hid (hp_mod HR7.out hm8 id)
           have HOk8 := Lib.hid (HOk7.out.mod hm8 (fun b hb => ⟨hb.2, id⟩))
           have M8 := Lib.hid (M7.out.trans hm8 fun _ h => h.elim)
           have y0 : w8.cell? ⟨w.heap.size, 0, none⟩ = some (.int .i64 0) := by rw [hp_cell HB8.out]; rfl
           have y1 : w8.cell? ⟨w.heap.size, 1, none⟩ = some (.bool false) := by rw [hp_cell HB8.out]; rfl
           have y2 : w8.cell? ⟨w.heap.size, 2, none⟩ = some (.slice none 0 0) := by rw [hp_cell HB8.out]; rfl
           have y3 : w8.cell? ⟨w.heap.size, 3, none⟩ = some (.slice none 0 0) := by rw [hp_cell HB8.out]; rfl
           have g0 : w8.frozen? ⟨w.heap.size, 0, none⟩ = false := hp_free HB8.out _
           have g1 : w8.frozen? ⟨w.heap.size, 1, none⟩ = false := hp_free HB8.out _
           have g2 : w8.frozen? ⟨w.heap.size, 2, none⟩ = false := hp_free HB8.out _
           have g3 : w8.frozen? ⟨w.heap.size, 3, none⟩ = false := hp_free HB8.out _
           have z0 : w8.cell? ⟨w4.heap.size, 0, none⟩ = some (.int .i64 (cc : Int)) := by rw [hp_cell HR8.out]; rfl
           have z1 : w8.cell? ⟨w4.heap.size, 1, none⟩ = some (.bool yy) := by rw [hp_cell HR8.out]; rfl
           have z2 : w8.cell? ⟨w4.heap.size, 2, none⟩ = some (.slice r.A n5 r.cA) := by rw [hp_cell HR8.out]; rfl
           have z3 : w8.cell? ⟨w4.heap.size, 3, none⟩ = some (.slice A6 m m) := by rw [hp_cell HR8.out]; rfl
           have hs8 := hm8.size
           clear hm8)
        | fail)
      have h9 := st4_at HB8.out (.int .i64 (cc : Int)) (.bool yy) (.slice r.A n5 r.cA) (.slice A6 m m)
      have hm9 := st4_mod w8 w.heap.size (.int .i64 (cc : Int)) (.bool yy) (.slice r.A n5 r.cA) (.slice A6 m m)
      change bodyPost _ _ _ _ _ (st4 w8 w.heap.size (.int .i64 (cc : Int)) (.bool yy) (.slice r.A n5 r.cA) (.slice A6 m m))
      obtain ⟨W9, hW9⟩ : ∃ W9, W9 = st4 w8 w.heap.size (.int .i64 (cc : Int)) (.bool yy) (.slice r.A n5 r.cA) (.slice A6 m m) := ⟨_, rfl⟩
      rw [← hW9] at h9 hm9 ⊢
      have M9 := M8.out.trans hm9 fun b hb => by right; omega
      have hok9 := (HOk8.out.mod hm9 (fun b hb => ⟨Nat.lt_of_lt_of_le hb.2 hs8, by omega⟩)).mono (D' := fun b => w.heap.size ≤ b ∧ b < W9.heap.size) fun b hb => ⟨by omega, Nat.lt_of_lt_of_le hb.2 (Nat.le_trans hs8 hm9.size)⟩
      have k0 := hp_cell h9 0
      have k1 := hp_cell h9 1
      have k2 := hp_cell h9 2
      have k3 := hp_cell h9 3
      clear h9 hm9 hW9
      refine bodyPost_ret (v := .tuple #[.agg #[.int .i64 (cc : Int), .bool yy, .slice r.A n5 r.cA, .slice A6 m m], .int .i64 0]) (by simp [results, Tryz.results32, go_sem] at k0 k1 k2 k3 ⊢; simp [k0, k1, k2, k3]) rfl (by rw [HO.out]; exact ⟨⟨r, by rw [HVal.out], HRes.out, hok9, HFit.out⟩, M9⟩)
end Go.Proofs.YtmalclclopnlnaaGreat
