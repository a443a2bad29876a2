/-
  Texts of this claim, one behind the other: Qt, LawX.
-/
import Derived.Test.YtmalclclopnlnaaGreatPk05
import Derived.Test.YtmalclclopnlnaaGreatPk09
import Derived.Test.YtmalclclopnlnaaGreatPk31
import Derived.Test.YtmalclclopnlnaaGreatPk38
import Derived.StillTail
/-
  A region that draws its order, in a round or not: operations that read, and callees that lay blocks at most, ahead of a tail in one order that may write.
-/
namespace Go.Proofs.YtmalclclopnlnaaGreat
open Go.RowKit Go.Sort

section
variable {P : Program} {ops : Array Oper} {md : Region.Mode} {C : World → Prop} {ro : Option Nat}
abbrev Fw (ro : Option Nat) : Fence := { Fence.wide with round := ro }
theorem calls_fw {n : Nat} {f : FuncId} {args : Array Value} {w : World} {R : Ending → World → Prop} (c : Calls P f args w R) : CallsIn (Fw ro) n P f args w R := by
  cases ro with
  | none => exact ci c fun _ _ h => h
  | some l => exact cir c fun _ _ h => h
theorem fw_quiet {n : Nat} {o : Oper} {a : Act} {K : Act → Prop} {K' : Act → World → Prop} {Q' : Exit → Act → World → Prop} {w : World} (hd : notDefer o = true) (hw : C w) (h : ∀ a w', C w' → K a → K' a w') (hh : o.quiet P a C K) : o.wpIn (Fw ro) n P a w K' Q' := by
  obtain ⟨v, h1, h2⟩ := hh
  have h3 := h1 w hw
  unfold Oper.quietAt at h3
  unfold Oper.wpIn
  refine ⟨fun _ _ => trivial, ?_⟩
  rw [Oper.semAt_eq _ _ _ (notDefer_ne hd)]
  generalize (execOp a.eval o).run P w = r at *
  cases r with
  | ok x w' =>
    cases x <;> simp only [Oper.quietUpon] at h3 <;> simp only [Oper.uponIn]
    case value u =>
      obtain ⟨e1, e2⟩ := h3
      rw [e1, e2]
      exact h _ _ hw h2
    case skip =>
      obtain ⟨e1, e2⟩ := h3
      rw [e1, ← e2]
      exact h _ _ hw h2
    case enter f args =>
      obtain ⟨e1, hc⟩ := h3
      rw [e1]
      refine ⟨fun hf => by simp [Fw, Fence.wide] at hf, calls_fw (hc.mono fun e w'' ⟨he, hw''⟩ => ?_)⟩
      subst he
      exact h _ _ hw'' h2
  | halt x w' => simp only [Oper.quietUpon] at h3
theorem fw_qOp {n : Nat} {i : Nat} {a : Act} {K : Act → Prop} {K' : Act → World → Prop} {Q' : Exit → Act → World → Prop} {w : World} (hd : ∀ (i : Nat) o, ops[i]? = some o → notDefer o = true) (hC : C w) (h : ∀ a w', C w' → K a → K' a w') (hh : qOp P ops C i K a) : wpOpIn (Fw ro) n P ops Q' i K' a w := by
  unfold qOp at hh
  unfold wpOpIn
  split
  · rename_i ho; simp only [ho] at hh; exact h _ _ hC hh
  · rename_i o ho
    simp only [ho] at hh
    split
    · rename_i hw; simp only [hw, if_true] at hh; exact fw_quiet (hd i o ho) hC h hh
    · rename_i hw; simp only [hw] at hh; exact ⟨fun _ _ => trivial, h _ _ hC hh⟩
theorem fw_any {n : Nat} {Q : Act → Prop} {Q' : Exit → Act → World → Prop} (hd : ∀ (i : Nat) o, ops[i]? = some o → notDefer o = true) (hQ : ∀ a w, C w → Q a → Q' .normal a w) : ∀ (fuel : Nat) (listed : Array Bool) (a : Act) (w : World), C w →
    wpAnyQ P md ops C Q fuel listed a → wpAnyIn (Fw ro) n P md ops Q' fuel listed a w
  | 0, _, _, _, hw, h => ⟨h.1, hQ _ _ hw h.2⟩
  | fuel + 1, _, _, _, hw, h => ⟨fun h0 => hQ _ _ hw (h.1 h0), fun i hi => fw_qOp hd hw (fun a' w' hw' => fw_any hd hQ fuel _ a' w' hw') (h.2 i hi)⟩
/-- Quiet through and through. -/
theorem fw_region_quiet {id n : Nat} {Q : Exit → Act → World → Prop} {a : Act} {w : World} {l : List Oper} (hm : P.follows .mixedOrders = true) (hB : Region.lexB .any l.toArray = true) (hd : l.all notDefer = true) (hC : C w.drew)
    (h : wpQuiet P l.toArray C (fun a' => ∀ w', C w' → Q .normal a' w') l a) : (Code.region id l.toArray true).wpIn (Fw ro) n P Q a w := by
  simp only [Region.lexB, Bool.and_eq_true] at hB
  refine wpIn_region_any hm (fw_any (Q := fun a' => ∀ w', C w' → Q .normal a' w') (all_notDefer hd) (fun _ w' hw' h => h w' hw') _ _ _ _ hC ?_)
  have := wpAnyQ_lex (C := C) (md := .any) hB.1 l 0 (Array.replicate l.toArray.size false) a (by simp) (by simpa using hB.2) h
  simpa using this
/-- At the worlds behind w with blocks laid. -/
theorem fw_region_below {id n : Nat} {Q : Exit → Act → World → Prop} {a : Act} {w : World} {l : List Oper} (hm : P.follows .mixedOrders = true) (hB : Region.lexB .any l.toArray = true) (hd : l.all notDefer = true)
    (h : wpQuiet P l.toArray (fun w' => ∃ p : Regrown, w' = grow (redrawn w p.d) p.os) (fun a' => ∀ w', (∃ p : Regrown, w' = grow (redrawn w p.d) p.os) → Q .normal a' w') l a) : (Code.region id l.toArray true).wpIn (Fw ro) n P Q a w :=
  fw_region_quiet (C := fun w' => ∃ p : Regrown, w' = grow (redrawn w p.d) p.os) hm hB hd ⟨⟨w.drawn + 1, #[]⟩, by rw [grow_empty]; rfl⟩ h

/-! ### A tail that writes -/
/-- The head, in whatever order: below n, quiet; then L. -/
def anyL (P : Program) (md : Region.Mode) (ops : Array Oper) (C : World → Prop) (n : Nat) (L : Array Bool → Act → Prop) : Nat → Array Bool → Act → Prop
  | 0, listed, a => L listed a
  | f + 1, listed, a => Region.ready md ops listed ≠ [] ∧ ∀ i ∈ Region.ready md ops listed, i < n ∧ qOp P ops C i (anyL P md ops C n L f (listed.setIfInBounds i true)) a
theorem fw_head {n m g : Nat} {L : Array Bool → Act → Prop} {Q' : Exit → Act → World → Prop} (hd : ∀ (i : Nat) o, ops[i]? = some o → notDefer o = true) (hL : ∀ listed a w, C w → L listed a → wpAnyIn (Fw ro) m P md ops Q' g listed a w) :
    ∀ (f : Nat) (listed : Array Bool) (a : Act) (w : World), C w → anyL P md ops C n L f listed a → wpAnyIn (Fw ro) m P md ops Q' (f + g) listed a w
  | 0, listed, a, w, hw, h => by rw [Nat.zero_add]; exact hL _ _ _ hw h
  | f + 1, listed, a, w, hw, h => by
    rw [show f + 1 + g = (f + g) + 1 by omega]
    exact ⟨fun h0 => absurd h0 h.1, fun i hi => fw_qOp hd hw (fun a' w' hw' h' => fw_head hd hL f _ a' w' hw' h') (h.2 i hi).2⟩
theorem anyL_first {n i : Nat} {oi : Oper} {v : Value} {L : Array Bool → Act → Prop} (hi : ops[i]? = some oi) (hsel : ∀ (j : Nat) (o : Oper) cs b, ops[j]? = some o → o.op ≠ .select cs b)
    (hs : Region.sinkB md ops n = true) (hc : Region.chainB md ops n = true) (hn : n < ops.size) (hin : i < n) (hdone : ∀ listed a, L listed a → ∀ j ∈ Region.ready md ops listed, n ≤ j) :
    ∀ (f : Nat) (listed : Array Bool) (a : Act), HeadInv md ops n listed →
      (∀ j oj, ops[j]? = some oj → j ≠ i → listed.getD j true = false → (∀ e ∈ oj.after, Region.binds md e = true → e.on ≠ i) → oi.apart ops oj = true) →
      i ∈ Region.ready md ops listed → YieldsIn P ops C oi v a → anyL P md ops C n L f (listed.setIfInBounds i true) (a.put oi.dst v) → anyL P md ops C n L (f + 1) listed a
  | 0, listed, a, inv, _, hr, hy, H => by
    have hun := (mem_ready.1 hr).1
    refine ⟨fun h => (by rw [h] at hr; cases hr), fun j hj => ?_⟩
    have hjn : j < n := Nat.lt_of_not_le fun h => tail_waits hs hc hn inv _ i rfl hin hun j h hj
    refine ⟨hjn, ?_⟩
    by_cases hji : j = i
    · subst hji; exact hy.qOp hi H
    · have := hdone _ _ H j (ready_mono hj hji)
      omega
  | f + 1, listed, a, inv, hfree, hr, hy, H => by
    have hun := (mem_ready.1 hr).1
    refine ⟨fun h => (by rw [h] at hr; cases hr), fun j hj => ?_⟩
    have hjn : j < n := Nat.lt_of_not_le fun h => tail_waits hs hc hn inv _ i rfl hin hun j h hj
    refine ⟨hjn, ?_⟩
    by_cases hji : j = i
    · subst hji; exact hy.qOp hi H
    · have h1 := (H.2 j (ready_mono hj hji)).2
      obtain ⟨hjun, oj, hoj, hall⟩ := mem_ready.1 hj
      have hnot : ∀ e ∈ oj.after, Region.binds md e = true → e.on ≠ i := fun e he hb heq => by
        have h1 := hall e he hb
        rw [heq, getD_both hun] at h1
        cases h1
      have h2 := qOp_put hoj (hfree j oj hoj hji hjun hnot) (fun cs b => hsel i oi cs b hi) (fun cs b => hsel j oj cs b hoj) hy h1
      refine qOp_mono (fun a' h3 => anyL_first hi hsel hs hc hn hin hdone f (listed.setIfInBounds j true) a' (inv.set hj hjn) (fun k ok hk hki hun2 hno => ?_) (ready_mono hr (Ne.symm hji)) h3.1 ?_) h2
      · refine hfree k ok hk hki ?_ hno
        by_cases hjk : j = k
        · subst hjk; exact hjun
        · rw [getD_set_ne true hjk] at hun2; exact hun2
      · rw [Array.setIfInBounds_comm _ _ hji]
        exact h3.2
theorem anyL_lex {n g : Nat} {Lq : Act → Prop} (hsel : Region.noSelect ops = true) (hs : Region.sinkB md ops n = true) (hc : Region.chainB md ops n = true) (hn : n < ops.size) :
    ∀ (l : List Oper) (k : Nat) (listed : Array Bool) (a : Act), (∀ j, j < l.length → l[j]? = ops[k + j]?) → k + l.length = n → HeadInv md ops n listed →
    Region.lexHead md ops g l.length k listed = true → wpQuiet P ops C Lq l a → anyL P md ops C n (fun listed' a' => Region.seqB md ops g n listed' = true ∧ Lq a') l.length listed a
  | [], k, listed, a, _, hk, _, hB, h => by
    have : k = n := by simpa using hk
    subst this
    exact ⟨by simpa [Region.lexHead] using hB, h⟩
  | o :: l, k, listed, a, hl, hk, inv, hB, h => by
    have h0 : ops[k]? = some o := by simpa using (hl 0 (by simp)).symm
    simp only [List.length_cons, Region.lexHead, Bool.and_eq_true] at hB
    obtain ⟨⟨hr, hf⟩, hB'⟩ := hB
    have hkn : k < n := by simp only [List.length_cons] at hk; omega
    have hr' : k ∈ Region.ready md ops listed := by simpa using hr
    have hst : qOp P ops C k (wpQuiet P ops C Lq l) a := by unfold qOp; simp only [h0]; exact h
    obtain ⟨v, hy, hK⟩ := yieldsIn_of_qOp h0 hst
    exact anyL_first h0 (Region.noSelect_spec hsel) hs hc hn hkn (fun listed' a' hL => seqB_ready hL.1) l.length listed a inv (Region.free_spec h0 hf) hr' hy
      (anyL_lex hsel hs hc hn l (k + 1) _ _ (fun j hj => by have := hl (j + 1) (by simp; omega); simpa [Nat.add_assoc, Nat.add_comm 1 j] using this) (by simp only [List.length_cons] at hk; omega) (inv.set hr' hkn) hB' hK)
theorem fw_seq {m : Nat} {F : Fence} {Q' : Exit → Act → World → Prop} : ∀ (l : List Oper) (k : Nat) (listed : Array Bool) (a : Act) (w : World), (∀ j, l[j]? = ops[k + j]?) →
    Region.seqB md ops l.length k listed = true → wpListIn F m P ops Q' l a w → wpAnyIn F m P md ops Q' l.length listed a w
  | [], _, _, _, _, _, hB, h => ⟨by simpa [Region.seqB] using hB, h⟩
  | o :: l, k, listed, a, w, hl, hB, h => by
    have h0 : ops[k]? = some o := by simpa using (hl 0).symm
    simp only [List.length_cons, Region.seqB, Bool.and_eq_true, decide_eq_true_eq] at hB
    refine ⟨fun h1 => (by rw [hB.1] at h1; cases h1), fun i hi => ?_⟩
    rw [hB.1] at hi
    have hik : i = k := by simpa using hi
    subst hik
    have hw : wpOpIn F m P ops Q' i (wpListIn F m P ops Q' l) a w := by unfold wpOpIn; simp only [h0]; exact h
    exact wpOpIn_mono (fun a' w' h' => fw_seq l (i + 1) _ a' w' (fun j => by have := hl (j + 1); simpa [Nat.add_assoc, Nat.add_comm 1 j] using this) hB.2 h') hw
/-- A quiet head, then a tail in one order, at whatever world of the class. -/
theorem fw_region_tail {id m : Nat} {Q : Exit → Act → World → Prop} {a : Act} {w : World} {l : List Oper} (n : Nat) (hm : P.follows .mixedOrders = true) (hB : Region.lexTailB .any l.toArray n = true) (hd : l.all notDefer = true)
    (h : wpQuiet P l.toArray (fun w' => ∃ p : Regrown, w' = grow (redrawn w p.d) p.os) (fun a' => ∀ w', (∃ p : Regrown, w' = grow (redrawn w p.d) p.os) → wpListIn (Fw ro) m P l.toArray Q (l.drop n) a' w') (l.take n) a) : (Code.region id l.toArray true).wpIn (Fw ro) m P Q a w := by
  simp only [Region.lexTailB, Bool.and_eq_true, decide_eq_true_eq] at hB
  obtain ⟨⟨⟨⟨hsel, hn⟩, hs⟩, hc⟩, hlex⟩ := hB
  have hn' : n < l.length := by simpa using hn
  have htl : (l.take n).length = n := by simp; omega
  have hdl : (l.drop n).length = l.toArray.size - n := by simp
  have inv0 : HeadInv .any l.toArray n (Array.replicate l.toArray.size false) :=
    ⟨by simp, fun j oj _ hl => (by rw [getD_replicate_false] at hl; cases hl), fun t _ ht => getD_in (by simpa using ht) (getD_replicate_false _ _)⟩
  have H := anyL_lex (md := .any) (g := l.toArray.size - n) hsel hs hc hn (l.take n) 0 _ a (fun j hj => by
    have hj' : j < n := by rw [htl] at hj; exact hj
    simp [hj']) (by simpa using htl) inv0 (by rw [htl]; exact hlex) h
  refine wpIn_region_any hm ?_
  have := fw_head (ro := ro) (m := m) (Q' := Q) (g := l.toArray.size - n) (all_notDefer hd) (fun listed a' w' hw' hL => by
    have := fw_seq (md := .any) (F := Fw ro) (m := m) (Q' := Q) (l.drop n) n listed a' w' (fun j => by simp [List.getElem?_drop]) (by rw [hdl]; exact hL.1) (hL.2 w' hw')
    rwa [hdl] at this) _ _ _ w.drew ⟨⟨w.drawn + 1, #[]⟩, by rw [grow_empty]; rfl⟩ H
  rw [htl, show n + (l.toArray.size - n) = l.toArray.size by omega] at this
  exact this
end
end Go.Proofs.YtmalclclopnlnaaGreat
/-
  The laws of clients: the program's table and the document's look the same.
-/
namespace Go.Proofs.YtmalclclopnlnaaGreat
open Go.RowKit Go.Shelf
attribute [local go_sem] Oper.semAt_some

/-- The place gone to lies in the box z. -/
def smI (z : Nat) (k : Nat) (C : Nat → Prop) (W : World) : Prop := W.heap[z]? = some (.cells #[.int .i64 (k : Int)] 3 (0, 0)) ∧ C = fun b => b = z
theorem smI_stab (z : Nat) : Stab (smI z) := fun k C X Y ⟨h1, h2⟩ hA => ⟨hp_agree h1 hA (by rw [h2]), h2⟩
def smA (z : Nat) (L : List Told) (T enc : Array Value) (a' : Act) (k : Nat) (C : Nat → Prop) (W : World) : Prop :=
  ∃ x : Told, L[k]? = some x ∧ enc = #[.int .u64 (x.c : Int), .int .u64 (x.n : Int)] ∧ a' = { tmps := (((T.setIfInBounds 34 (.int .u64 (x.c : Int))).setIfInBounds 35 (.int .u64 (x.n : Int))).setIfInBounds 9 (.int .u64 (x.c : Int))).setIfInBounds 10 (.int .u64 (x.n : Int)), defers := [] } ∧ smI z k C W
theorem wpIn_as7 {P : Program} {c : Code} {F : Fence} {n : Nat} {Q : Exit → Act → World → Prop} {a : Act} {w : World} (Φ : World → Prop) (hΦ : Φ w) (h : ∀ W, Φ W → c.wpIn F n P Q a W) : c.wpIn F n P Q a w := h w hΦ
/-- A result in a box of its own. -/
def BoxEnds (r : RC) (x : Res) (z : Nat) (w w' : World) : Prop :=
  r.res = x ∧ r.Ok (fun b => b < w'.heap.size) w' ∧ w'.heap[z]? = some (.cells r.cs.toArray 37 (0, 0)) ∧ Mod (fun _ => False) w w'
theorem BoxEnds.new {r : RC} {x : Res} {w w3 : World} {D : Nat → Prop} {kc : Int} {ky : Bool} {rA rB : Option Addr} {rn rcA rm rcB : Nat} (hc : r.cs = [.int .i64 kc, .bool ky, .slice rA rn rcA, .slice rB rm rcB]) (h1 : r.res = x) (h2 : r.Ok D w3) (hD : ∀ b, D b → b < w3.heap.size) (hm : Mod (fun _ => False) w w3) :
    BoxEnds r x w3.heap.size w (w3.alloc (.cells #[.int .i64 kc, .bool ky, .slice rA rn rcA, .slice rB rm rcB] 37)) :=
  ⟨h1, ((h2.mod ((Mod.refl (fun _ => False) w3).alloc _) fun b hb => ⟨hD b hb, id⟩).mono fun b hb => by have := hD b hb; simp; omega), by rw [hc]; exact hp_new _ _, hm.alloc _⟩
theorem BoxEnds.old {r : RC} {x : Res} {w w3 : World} {z : Nat} {D : Nat → Prop} {v0 v1 v2 v3 : Value} {kc : Int} {ky : Bool} {rA rB : Option Addr} {rn rcA rm rcB : Nat} (hc : r.cs = [.int .i64 kc, .bool ky, .slice rA rn rcA, .slice rB rm rcB]) (h1 : r.res = x) (h2 : r.Ok D w3) (hD : ∀ b, D b → b < w3.heap.size ∧ b ≠ z) (hm : Mod (fun _ => False) w w3) (hz : w.heap.size ≤ z) (hb : w3.heap[z]? = some (.cells #[v0, v1, v2, v3] 37 (0, 0))) :
    BoxEnds r x z w (st4 w3 z (.int .i64 kc) (.bool ky) (.slice rA rn rcA) (.slice rB rm rcB)) :=
  ⟨h1, ((h2.mod (st4_mod w3 z _ _ _ _) fun b hb => hD b hb).mono fun b hb => Nat.lt_of_lt_of_le (hD b hb).1 (st4_mod w3 z _ _ _ _).size), by rw [hc]; exact st4_at hb _ _ _ _, hm.trans (st4_mod w3 z _ _ _ _) fun b hb => .inr (by omega)⟩
def noXS (_ : Code) (_ : Nat) (_ : Nat → Prop) (_ : World) : Prop := False
set_option maxRecDepth 100000 in
set_option maxHeartbeats 4000000 in
theorem same_any (F : Nat → Prop) (p m base q : Nat) (D : Nat → Prop) (L : List Told) (ms : List TC) (v : Value) (ys : List AC) (A : Option Addr) (cp : Nat) (xs : List AC) (w : World)
    (hT : TabAt F p m 47 w L ms) (hR : RefAt base 61 D q 59 w L v ys) (hX : ActsAt w A xs) (hxl : xs.length ≤ 1000) (hD : ∀ b, D b → b < w.heap.size) :
    Calls Tryz.prog 14 #[.pointer (some ⟨p, 0, none⟩), .pointer (some ⟨q, 0, none⟩), .slice A xs.length cp] w fun e w' => e = .returned (.bool true) ∧ Mod (fun _ => False) w w' := by
  obtain ⟨Ay, cy, hv, hAy, hfy, -⟩ := hR.own.rd AC.cs_len
  replace hAy := hAy.mono (D' := fun b => b < w.heap.size) fun b hb => (hfy b hb).2
  have hyL : ys.length = L.length := by have := hR.told; rw [← this, List.length_map]
  have hn16 : L.length ≤ 16 := hT.tab.2.1
  have hq := hR.ptr
  rw [hv, hyL] at hq
  obtain ⟨n, hn⟩ : ∃ n, n = L.length := ⟨_, rfl⟩
  obtain ⟨l, hl⟩ : ∃ l, l = xs.length := ⟨_, rfl⟩
  have hLen := fun X (hX : Mod (fun _ => False) w X) => tlen_any F p m 47 L ms X (hT.mod hX id id fun _ _ => id)
  rw [← hn] at hq hLen hn16
  rw [← hl] at hxl ⊢
  have HAll := Lib.hid (fun X (hX : Mod (fun _ => False) w X) => ttall_any F p m 47 L ms X (hT.mod hX id id fun _ _ => id))
  have HLen := Lib.hid hLen
  have hnf := fun W' x => run_eql_func_nil (P := Tryz.prog) (w := W') Tryz.underlying53 (.func 33) #[] x
  have HN := Lib.hid hn
  have HL := Lib.hid hl
  have HT := Lib.hid hT
  have HR := Lib.hid hR
  have HX := Lib.hid hX
  have HD := Lib.hid hD
  have HV := Lib.hid hv
  have HAy := Lib.hid hAy
  have HyL := Lib.hid hyL
  obtain ⟨B, hB⟩ : ∃ B, B = w.heap.size := ⟨_, rfl⟩
  have HB := Lib.hid hB
  have hql := hp_lt hq
  have HQp := Lib.hid hq
  clear hT hR hX hD hv hAy hyL hn hl hLen hq hfy
  refine callsIn_wide.1 (callsIn_of_wp_marks (n := 0) (F := Fence.wide) Tryz.func14 rfl trivial ?_ rfl)
  simp only [Tryz.ntmps14, List.size_toArray, List.length_cons, List.length_nil, Nat.reduceAdd, Nat.reduceSub, Array.replicate_succ, Array.replicate_zero, List.push_toArray, List.append_toArray, List.nil_append, List.cons_append]
  refine wpIn_wide.2 ?_
  go_upto_region 2 with (first
    | (go_at_call 16
       (with_reducible refine (HAll.out _ (by (repeat' (with_reducible (first | exact Mod.refl _ _ | assumption | refine Mod.alloc ?_ _ | refine Mod.drew ?_ | refine Mod.drewN ?_ _ | refine Mod.setCell ?_ (by first | exact Or.inl rfl | (right; simp; done) | (right; simp; omega) | (left; simp; done)) _))))).mono ?_)
       rintro e w1 ⟨rfl, hbt, hat, hsz, hm1⟩)
    | fail)
  simp only [World.size_alloc] at hbt hat hsz
  have M1 : Mod (fun _ => False) w w1 := Mod.trans' (by (repeat' (first | exact Mod.refl _ _ | assumption | refine Mod.alloc ?_ _ | refine Mod.drew ?_ | refine Mod.drewN ?_ _ | refine Mod.setCell ?_ (by first | exact Or.inl rfl | (right; simp; done) | (right; simp; omega) | (left; simp; done)) _))) hm1
  have hb0 : w1.heap[B]? = some (.cells #[.pointer (some ⟨q, 0, none⟩)] 26 (0, 0)) := by rw [hB]; exact hp_mod (by (repeat' (first | exact hp_new _ _ | exact hp_at _ _ (by simp; done) | refine hp_alloc ?_ _ | refine hp_drew ?_ | refine hp_drewN ?_ _ | apply hp_set | refine hp_far ?_ (by first | (simp; omega) | (simp; done)) _))) hm1 id
  have hb1 : w1.heap[B + 1]? = some (.cells #[.bool false] 4 (0, 0)) := by rw [hB]; exact hp_mod (hp_at _ _ (by simp)) hm1 id
  rw [← hB] at hbt hat hsz
  rw [← hB]
  have hql1 := hp_mod HQp.out M1 id
  have y0 := cell_regrown (show w1.cell? ⟨B, 0, none⟩ = some (.pointer (some ⟨q, 0, none⟩)) by rw [hp_cell hb0]; rfl)
  have y1 := cell_regrown (show w1.cell? ⟨q, 0, none⟩ = some (.slice Ay n cy) by rw [hp_cell hql1]; rfl)
  have HM1 := Lib.hid M1
  have HB0 := Lib.hid hb0
  have HB1 := Lib.hid hb1
  have hne : decide ((n : Int) = (n : Int)) = true := by simp
  clear M1 hm1 hB hb0 hb1 hql1
  refine wp_region_quiet_below (by kernel_rfl) (by kernel_rfl) ?_
  repeat (go_big_quiet_step ((first | (first | (go_at_call 17; with_reducible exact regE fun X hX => HLen.out X (HM1.out.trans' hX)) | fail) | fail)))
  refine wpQuiet_nil ?_
  intro W1 hW1
  have HQ := mod_of_regrown hW1
  clear hW1
  go_wp2
  obtain ⟨Z, hZ⟩ : ∃ Z, Z = W1.heap.size := ⟨_, rfl⟩
  have hs1 := HQ.size
  refine (wpIn_wide (n := 0)).1 ?_
  refine wpIn_as7 (fun W => W.heap.size = Z + 1 ∧ W.heap[B]? = some (.cells #[.pointer (some ⟨q, 0, none⟩)] 26 (0, 0)) ∧ W.heap[B + 1]? = some (.cells #[.bool false] 4 (0, 0)) ∧
      W.heap[Z]? = some (.cells #[.int .i64 0] 3 (0, 0)) ∧ Mod (fun _ => False) w1 W)
    ⟨by rw [hZ]; simp, hp_alloc (hp_mod HB0.out HQ id) _, hp_alloc (hp_mod HB1.out HQ id) _, by rw [hZ]; exact hp_new _ _, HQ.alloc _⟩ ?_
  rintro W2 ⟨hsz2, c0, c1, c2, hmW⟩
  rw [← hZ] at hs1 ⊢
  have HM2 := Lib.hid (HM1.out.trans' hmW)
  have hit := ttall1_iter (B + 1 + 1 + 2) (B + 1 + 1 + 1) (B + 1 + 1) F L ms (fun b => b = B + 1 + 1 + 2 ∨ b = B + 1 + 1 + 1 ∨ b = B + 1 + 1) W2 (cell_modC hbt hmW id) (hat.mod hmW id id fun _ _ => id) (.inl rfl) (.inr (.inl rfl)) (.inr (.inr rfl)) (fun b hb => by omega)
  have HC := Lib.hid (And.intro c0 c1)
  clear hbt hat hmW HQ hZ y0 y1 c0 c1
  refine wp_rangeG (gf := 33) (lb := #[.pointer (some ⟨B + 1 + 1 + 2, 0, none⟩)]) rfl (enters_of Tryz.func33 (by kernel_rfl) rfl) tabIt_ok hit
    (fun b hb => by
      rcases hb with hb | h
      · have hb : b = B + 1 + 1 + 2 ∨ b = B + 1 + 1 + 1 ∨ b = B + 1 + 1 := hb
        omega
      · exact h.elim) rfl
    (smI Z) noXS (smA Z L) (smI_stab _) (fun c k C X Y h hA => h)
    (fun T enc a' k C X Y ⟨x, h0, h1, h2, h3⟩ hA => ⟨x, h0, h1, h2, smI_stab _ _ _ _ _ h3 hA⟩)
    (fun b => b = Z) (fun b hb => by
      refine ⟨by omega, fun hd => ?_, id⟩
      have hd : b = B + 1 + 1 + 2 ∨ b = B + 1 + 1 + 1 ∨ b = B + 1 + 1 := hd
      omega) ⟨c2, rfl⟩ trivial ?assign ?body ?done (fun _ _ _ _ _ _ h => h.elim)
  case assign =>
    rintro l' k hk enc R C W' hi - ⟨x, hx, rfl⟩ - hm' hb'
    have HI := Lib.hid hi
    have HX := Lib.hid hx
    clear hi hx c2
    gi_wp2
    exact ⟨C, ⟨x, HX.out, rfl, rfl, HI.out⟩, Mod.refl _ _, fun b hb => ⟨(hb' b hb).1, .inl hb⟩⟩
  case body =>
    rintro l' k hk enc R C a' W' ⟨x, hx, rfl, rfl, h0, rfl⟩ - - - hm' hb' - - -
    have MW : Mod (fun b => b = Z) W2 W' := hm'.mono fun b _ h => h.elim id fun h => h.elim
    obtain ⟨hkL, -⟩ := List.getElem?_eq_some_iff.1 hx
    have hkn : k < n := by rw [HN.out]; exact hkL
    have hky : k < ys.length := by rw [HyL.out]; exact hkL
    have hyx : ys[k].told = x := by
      have h1 : (ys.map AC.told)[k]? = some x := by rw [HR.out.told]; exact hx
      rw [List.getElem?_map, List.getElem?_eq_getElem hky] at h1
      injection h1
    have hBw := HB.out
    obtain ⟨b, off, hAe, -, e0, e1, -⟩ := rdAC ((HAy.out.mod HM2.out fun b hb => ⟨hb, id⟩).mod MW fun b hb => ⟨by have := HM2.out.size; omega, by omega⟩) hky
    have hyc : ys[k].c = x.c := by rw [← hyx]; rfl
    have hyn : ys[k].n = x.n := by rw [← hyx]; rfl
    rw [hyc] at e0
    rw [hyn] at e1
    subst hAe
    have hq2 := hp_mod (hp_mod HQp.out HM2.out id) MW (by omega)
    have hb2 := hp_mod HC.out.1 MW (by omega)
    have y0 := cell_regrown (show W'.cell? ⟨Z, 0, none⟩ = some (.int .i64 (k : Int)) by rw [hp_cell h0]; rfl)
    have y1 := cell_regrown (show W'.cell? ⟨B, 0, none⟩ = some (.pointer (some ⟨q, 0, none⟩)) by rw [hp_cell hb2]; rfl)
    have y2 := cell_regrown (show W'.cell? ⟨q, 0, none⟩ = some (.slice (some ⟨b, off, none⟩) n cy) by rw [hp_cell hq2]; rfl)
    have y3 := cell_regrown e0
    have y4 := cell_regrown e1
    have d1 : decide ((n : Int) ≤ (k : Int)) = false := by simp; omega
    have d2 : decide (n ≤ k) = false := by simp; omega
    have d3 : ((x.c : Int) != (x.c : Int)) = false := by simp
    have d4 : ((x.n : Int) != (x.n : Int)) = false := by simp
    have hw1 : IntKind.i64.wrap ((k : Int) + 1) = (k : Int) + 1 := IntWalk.i64_in _ (by omega)
    have H0 := Lib.hid h0
    clear MW hx hkL hky hyx e0 e1 hyc hyn hq2 hb2 h0 hm' hb' hit c2 hBw
    gi_wp2
    refine fw_region_below (ro := some _) (by kernel_rfl) (by kernel_rfl) (by kernel_rfl) ?_
    repeat (go_big_quiet_step ((first | (fail) | fail)))
    refine wpQuiet_nil ?_
    intro W1 hW1
    have HQ := mod_of_regrown hW1
    clear hW1
    have hz := hp_mod H0.out HQ id
    have f0 := hp_free hz 0
    have g0 : W1.cell? ⟨Z, 0, none⟩ = some (.int .i64 (k : Int)) := by rw [hp_cell hz]; rfl
    have zl := hp_lt hz
    have HQ' := Lib.hid HQ
    have HZ := Lib.hid hz
    clear y0 y1 y2 y3 y4 HQ hz
    gi_wp2
    exact ⟨fun b => b = Z, ⟨hp_eq (hp_set HZ.out 0 _) (by simp), rfl⟩, (HQ'.out.mono (C' := fun b => b = Z) fun _ _ h => h.elim).setCell (p := ⟨Z, 0, none⟩) (.inl rfl) _, fun b hb => ⟨by rw [hb]; simpa [World.setCell] using zl, .inl hb⟩⟩
  case done =>
    rintro W' C' ⟨h0, rfl⟩ _ hm' hb' hK hn'
    rw [hsz2] at hK hn' ⊢
    have MW : Mod (fun b => b = Z) W2 W' := hm'.mono fun b _ h => h.elim id fun h => h.elim
    replace h0 : W'.heap[Z]? = some (.cells #[.int .i64 (n : Int)] 3 (0, 0)) := by rw [HN.out]; exact h0
    have hBw := HB.out
    have MD : Mod (fun _ => False) w W' := HM2.out.trans MW fun b hb => .inr (by omega)
    have hq2 := hp_mod HQp.out MD id
    have hb2 := hp_mod HC.out.1 MW (by omega)
    have hb3 := hp_mod HC.out.2 MW (by omega)
    have HF := Lib.hid (show ∀ X, Mod (fun _ => False) W' X → X.cell? ⟨Z, 0, none⟩ = some (.int .i64 (n : Int)) ∧ X.cell? ⟨B, 0, none⟩ = some (.pointer (some ⟨q, 0, none⟩)) ∧ X.cell? ⟨q, 0, none⟩ = some (.slice Ay n cy) from fun X hX => ⟨by rw [hp_cell (hp_mod h0 hX id)]; rfl, by rw [hp_cell (hp_mod hb2 hX id)]; rfl, by rw [hp_cell (hp_mod hq2 hX id)]; rfl⟩)
    have HR3 := Lib.hid (fun X (hX : Mod (fun _ => False) W' X) => hp_mod hb3 hX id)
    have HK := Lib.hid (fun X (hX : Mod (fun _ => False) W' X) => hp_mod hK hX id)
    have HTX := Lib.hid (fun X (hX : Mod (fun _ => False) W' X) => HT.out.mod (MD.trans' hX) id id fun _ _ => id)
    have HAX := Lib.hid (fun X (hX : Mod (fun _ => False) W' X) => (HAy.out.mod (MD.trans' hX) fun b hb => ⟨hb, id⟩))
    have HMD := Lib.hid MD
    have HZB := Lib.hid (show B + 4 < Z by omega)
    have hZl := hp_lt h0
    clear h0 hm' hb' hK hn' MW hq2 hb2 hb3 hit c2 hsz hs1
    clear hBw
    have N0 := Mod.refl (fun _ => False) W'
    go_wp2
    go_loopw [11] (fun i wr => ∃ k : Nat, k ≤ l ∧ i = .int .i64 (k : Int) ∧ Mod (fun _ => False) W' wr) (fun i _ => l - (intOf i).toNat)
    case atStart => exact ⟨0, Nat.zero_le _, rfl, N0⟩
    case round =>
      obtain ⟨k, hk, rfl, MR⟩ := hrel
      by_cases hkl : k < l
      · have hkx : k < xs.length := by rw [← HL.out]; exact hkl
        obtain ⟨b, off, kc, ky, rA, rn, rcA, rB, rm, rcB, hAe, hval, hS⟩ := HX.out.cells hkx
        subst hAe
        obtain ⟨xc, hxc⟩ : ∃ a, a = xs[k].c := ⟨_, rfl⟩
        obtain ⟨xn, hxn⟩ : ∃ a, a = xs[k].n := ⟨_, rfl⟩
        rw [← hxc, ← hxn] at hS
        have HS := Lib.hid (show ∀ X, Mod (fun _ => False) W' X → X.cell? ⟨b, off + k * 6, none⟩ = some (.int .u64 (xc : Int)) ∧ X.cell? ⟨b, off + k * 6 + 1, none⟩ = some (.int .u64 (xn : Int)) ∧ X.cell? ⟨B, 0, none⟩ = some (.pointer (some ⟨q, 0, none⟩)) from fun X hX => ⟨(hS X (HMD.out.trans' hX)).1, (hS X (HMD.out.trans' hX)).2.1, (HF.out X hX).2.1⟩)
        have HAsk := Lib.hid (fun X (hX : Mod (fun _ => False) W' X) => task_any F p m 47 L ms xc xn X (HTX.out X hX))
        have hqX := fun X (hX : Mod (fun _ => False) W' X) => hp_mod HQp.out (HMD.out.trans' hX) id
        rw [← HyL.out.trans HN.out.symm] at hqX
        have hrask := fun X (hX : Mod (fun _ => False) W' X) => rask_any q 59 Ay cy xc xn (fun b => b < w.heap.size) ys X (hqX X hX) (HAX.out X hX) (by rw [HyL.out, ← HN.out]; exact hn16) (fun y hy => ((HR.out.ok y hy).mono HD.out).mod (HMD.out.trans' hX) fun b hb => ⟨hb, id⟩) (fun b hb => Nat.lt_of_lt_of_le hb (HMD.out.trans' hX).size)
        have hrat := fun X (hX : Mod (fun _ => False) W' X) => rat_any q 59 Ay cy xc (fun b => b < w.heap.size) ys X (hqX X hX) (HAX.out X hX) (by rw [HyL.out, ← HN.out]; exact hn16)
        rw [HR.out.told] at hrask hrat
        have hlat := fun X (hX : Mod (fun _ => False) W' X) => tlatP F p m 47 L ms xc X (HTX.out X hX)
        obtain ⟨asw, has⟩ : ∃ a, a = askT xc xn L := ⟨_, rfl⟩
        rw [← has] at HAsk hrask
        obtain ⟨a1, a2⟩ := asw
        have HRask := Lib.hid hrask
        have HRat := Lib.hid hrat
        have HLat := Lib.hid hlat
        obtain ⟨z0, z1, z2⟩ := HS.out _ MR
        have HMR := Lib.hid MR
        have NR := Mod.refl (fun _ => False) wr
        clear hval hS hxc hxn hqX hrask hrat hlat has N0 MR
        go_upto_region 14 with fail
        go_cut [12, 13] from 69 to 151 (fun v u wx => ∃ (r : RC) (z : Nat), v = .int .i64 (a1 : Int) ∧ u = .pointer (some ⟨z, 0, none⟩) ∧ BoxEnds r a2 z wr wx)
        case first =>
          go_region_held3 (fun X => X.cell? ⟨b, off + k * 6, none⟩ = some (.int .u64 (xc : Int)) ∧ X.cell? ⟨b, off + k * 6 + 1, none⟩ = some (.int .u64 (xn : Int)) ∧ X.cell? ⟨B, 0, none⟩ = some (.pointer (some ⟨q, 0, none⟩))) (first | exact HS.out _ (HMR.out.trans' (by (repeat' (with_reducible (first | exact Mod.refl _ _ | assumption | refine Mod.alloc ?_ _ | refine Mod.drew ?_ | refine Mod.drewN ?_ _ | refine Mod.setCell ?_ (by first | exact Or.inl rfl | (right; simp; done) | (right; simp; omega) | (left; simp; done)) _))))) | fail) (first
            | (go_at_call 15
               (with_reducible refine (HAsk.out _ (HMR.out.trans' (by (repeat' (with_reducible (first | exact Mod.refl _ _ | assumption | refine Mod.alloc ?_ _ | refine Mod.drew ?_ | refine Mod.drewN ?_ _ | refine Mod.setCell ?_ (by first | exact Or.inl rfl | (right; simp; done) | (right; simp; omega) | (left; simp; done)) _)))))).mono ?_)
               rintro e w3 ⟨⟨r3, he, hr3, hok3, -⟩, hm3⟩
               obtain ⟨kc3, ky3, rA3, rn3, rcA3, rB3, rm3, rcB3, hval3, hcs3⟩ := r3.open
               rw [hval3] at he
               have he : e = .returned (.tuple #[.int .i64 (a1 : Int), .agg #[.int .i64 kc3, .bool ky3, .slice rA3 rn3 rcA3, .slice rB3 rm3 rcB3]]) := he
               subst he
               have N3 : Mod (fun _ => False) wr w3 := Mod.trans' (by (repeat' (with_reducible (first | exact Mod.refl _ _ | assumption | refine Mod.alloc ?_ _ | refine Mod.drew ?_ | refine Mod.drewN ?_ _ | refine Mod.setCell ?_ (by first | exact Or.inl rfl | (right; simp; done) | (right; simp; omega) | (left; simp; done)) _)))) hm3
               have HOk3 := Lib.hid hok3
               have HV3 := Lib.hid hcs3
               have HRe3 := Lib.hid hr3
               first
                 | (have hb := hp_mod (show (World.alloc wr.drew (.cells #[.int .i64 0, .bool false, .slice none 0 0, .slice none 0 0] 37)).heap[wr.heap.size]? = _ from hp_at _ _ rfl) hm3 id
                    have HBX3 := Lib.hid hb
                    have s0 : w3.cell? ⟨wr.heap.size, 0, none⟩ = some (.int .i64 0) := by rw [hp_cell hb]; rfl
                    have s1 : w3.cell? ⟨wr.heap.size, 1, none⟩ = some (.bool false) := by rw [hp_cell hb]; rfl
                    have s2 : w3.cell? ⟨wr.heap.size, 2, none⟩ = some (.slice none 0 0) := by rw [hp_cell hb]; rfl
                    have s3 : w3.cell? ⟨wr.heap.size, 3, none⟩ = some (.slice none 0 0) := by rw [hp_cell hb]; rfl
                    have g0 : w3.frozen? ⟨wr.heap.size, 0, none⟩ = false := hp_free hb _
                    have g1 : w3.frozen? ⟨wr.heap.size, 1, none⟩ = false := hp_free hb _
                    have g2 : w3.frozen? ⟨wr.heap.size, 2, none⟩ = false := hp_free hb _
                    have g3 : w3.frozen? ⟨wr.heap.size, 3, none⟩ = false := hp_free hb _
                    have glt := hp_lt hb
                    clear hb)
                 | skip
               clear hm3 hok3 hval3 hr3 hcs3
               skip)
            | fail)
          all_goals
            go_wp2
            go_meet
            first
              | exact ⟨r3, _, rfl, rfl, BoxEnds.new HV3.out HRe3.out HOk3.out (fun b hb => hb.2) N3⟩
              | exact ⟨r3, _, rfl, rfl, BoxEnds.old HV3.out HRe3.out HOk3.out (fun b hb => ⟨hb.2, (by have := hb.1; simp at this; omega)⟩) N3 (Nat.le_refl _) HBX3.out⟩
        case rest =>
          obtain ⟨r3, b3, rfl, rfl, hr3, hok3, hb3, N3⟩ := hcut
          obtain ⟨wA, rfl⟩ : ∃ x, x = wc := ⟨_, rfl⟩
          have HR31 := Lib.hid hr3
          have HR32 := Lib.hid hok3
          have HR33 := Lib.hid hb3
          have HMA := Lib.hid (HMR.out.trans' N3)
          obtain ⟨z0, z1, z2⟩ := HS.out _ HMA.out
          have NR := Mod.refl (fun _ => False) wA
          clear hr3 hok3 hb3 N3
          go_upto_region 15 with fail
          go_cut [14, 15] from 69 to 151 (fun v u wx => ∃ (r : RC) (z : Nat), v = .int .i64 (a1 : Int) ∧ u = .pointer (some ⟨z, 0, none⟩) ∧ BoxEnds r a2 z wA wx)
          case first =>
            go_region_held3 (fun X => X.cell? ⟨b, off + k * 6, none⟩ = some (.int .u64 (xc : Int)) ∧ X.cell? ⟨b, off + k * 6 + 1, none⟩ = some (.int .u64 (xn : Int)) ∧ X.cell? ⟨B, 0, none⟩ = some (.pointer (some ⟨q, 0, none⟩))) (first | exact HS.out _ (HMA.out.trans' (by (repeat' (with_reducible (first | exact Mod.refl _ _ | assumption | refine Mod.alloc ?_ _ | refine Mod.drew ?_ | refine Mod.drewN ?_ _ | refine Mod.setCell ?_ (by first | exact Or.inl rfl | (right; simp; done) | (right; simp; omega) | (left; simp; done)) _))))) | fail) (first
              | (go_at_call 30
                 (with_reducible refine (HRask.out _ (HMA.out.trans' (by (repeat' (with_reducible (first | exact Mod.refl _ _ | assumption | refine Mod.alloc ?_ _ | refine Mod.drew ?_ | refine Mod.drewN ?_ _ | refine Mod.setCell ?_ (by first | exact Or.inl rfl | (right; simp; done) | (right; simp; omega) | (left; simp; done)) _)))))).mono ?_)
                 rintro e w5 ⟨⟨r5, he, hr5, hok5⟩, hm5⟩
                 obtain ⟨kc5, ky5, rA5, rn5, rcA5, rB5, rm5, rcB5, hval5, hcs5⟩ := r5.open
                 rw [hval5] at he
                 have he : e = .returned (.tuple #[.int .i64 (a1 : Int), .agg #[.int .i64 kc5, .bool ky5, .slice rA5 rn5 rcA5, .slice rB5 rm5 rcB5]]) := he
                 subst he
                 have N5 : Mod (fun _ => False) wA w5 := Mod.trans' (by (repeat' (with_reducible (first | exact Mod.refl _ _ | assumption | refine Mod.alloc ?_ _ | refine Mod.drew ?_ | refine Mod.drewN ?_ _ | refine Mod.setCell ?_ (by first | exact Or.inl rfl | (right; simp; done) | (right; simp; omega) | (left; simp; done)) _)))) hm5
                 have HOk5 := Lib.hid hok5
                 have HV5 := Lib.hid hcs5
                 have HRe5 := Lib.hid hr5
                 first
                   | (have hb := hp_mod (show (World.alloc wA.drew (.cells #[.int .i64 0, .bool false, .slice none 0 0, .slice none 0 0] 37)).heap[wA.heap.size]? = _ from hp_at _ _ rfl) hm5 id
                      have HBX5 := Lib.hid hb
                      have s0 : w5.cell? ⟨wA.heap.size, 0, none⟩ = some (.int .i64 0) := by rw [hp_cell hb]; rfl
                      have s1 : w5.cell? ⟨wA.heap.size, 1, none⟩ = some (.bool false) := by rw [hp_cell hb]; rfl
                      have s2 : w5.cell? ⟨wA.heap.size, 2, none⟩ = some (.slice none 0 0) := by rw [hp_cell hb]; rfl
                      have s3 : w5.cell? ⟨wA.heap.size, 3, none⟩ = some (.slice none 0 0) := by rw [hp_cell hb]; rfl
                      have g0 : w5.frozen? ⟨wA.heap.size, 0, none⟩ = false := hp_free hb _
                      have g1 : w5.frozen? ⟨wA.heap.size, 1, none⟩ = false := hp_free hb _
                      have g2 : w5.frozen? ⟨wA.heap.size, 2, none⟩ = false := hp_free hb _
                      have g3 : w5.frozen? ⟨wA.heap.size, 3, none⟩ = false := hp_free hb _
                      have glt := hp_lt hb
                      clear hb)
                   | skip
                 clear hm5 hok5 hval5 hr5 hcs5
                 skip)
              | fail)
            all_goals
              go_wp2
              go_meet
              first
                | exact ⟨r5, _, rfl, rfl, BoxEnds.new HV5.out HRe5.out HOk5.out (fun b hb => (by have h1 := HMD.out.size; have h2 := HMA.out.size; have h3 := N5.size; omega)) N5⟩
                | exact ⟨r5, _, rfl, rfl, BoxEnds.old HV5.out HRe5.out HOk5.out (fun b hb => ⟨(by have h1 := HMD.out.size; have h2 := HMA.out.size; have h3 := N5.size; omega), (by have h1 := HMD.out.size; have h2 := HMA.out.size; omega)⟩) N5 (Nat.le_refl _) HBX5.out⟩
          case rest =>
            obtain ⟨r5, b5, rfl, rfl, hr5, hok5, hb5, N5⟩ := hcut
            obtain ⟨wB, rfl⟩ : ∃ x, x = wc := ⟨_, rfl⟩
            have HMB := Lib.hid (HMA.out.trans' N5)
            have hb3 := hp_mod HR33.out N5 id
            have hok3 := (HR32.out.mod N5 fun b hb => ⟨hb, id⟩).mono fun b hb => Nat.lt_of_lt_of_le hb N5.size
            have hsr := fun X (hX : Mod (fun _ => False) wB X) => rsameR_any r3 r5 X ((hok3.mod hX fun b hb => ⟨hb, id⟩).mono fun b hb => Nat.lt_of_lt_of_le hb hX.size) ((hok5.mod hX fun b hb => ⟨hb, id⟩).mono fun b hb => Nat.lt_of_lt_of_le hb hX.size)
            rw [decide_eq_true (HR31.out.trans hr5.symm)] at hsr
            obtain ⟨kc3, ky3, rA3, rn3, rcA3, rB3, rm3, rcB3, hval3, hcs3⟩ := r3.open
            obtain ⟨kc5, ky5, rA5, rn5, rcA5, rB5, rm5, rcB5, hval5, hcs5⟩ := r5.open
            rw [hval3, hval5] at hsr
            rw [hcs3] at hb3
            rw [hcs5] at hb5
            have HSr := Lib.hid hsr
            have HBX3 := Lib.hid (show ∀ X, Mod (fun _ => False) wB X → X.cell? ⟨b3, 0, none⟩ = some (.int .i64 kc3) ∧ X.cell? ⟨b3, 1, none⟩ = some (.bool ky3) ∧ X.cell? ⟨b3, 2, none⟩ = some (.slice rA3 rn3 rcA3) ∧ X.cell? ⟨b3, 3, none⟩ = some (.slice rB3 rm3 rcB3) from fun X hX => ⟨by rw [hp_cell (hp_mod hb3 hX id)]; rfl, by rw [hp_cell (hp_mod hb3 hX id)]; rfl, by rw [hp_cell (hp_mod hb3 hX id)]; rfl, by rw [hp_cell (hp_mod hb3 hX id)]; rfl⟩)
            have HBX5 := Lib.hid (show ∀ X, Mod (fun _ => False) wB X → X.cell? ⟨b5, 0, none⟩ = some (.int .i64 kc5) ∧ X.cell? ⟨b5, 1, none⟩ = some (.bool ky5) ∧ X.cell? ⟨b5, 2, none⟩ = some (.slice rA5 rn5 rcA5) ∧ X.cell? ⟨b5, 3, none⟩ = some (.slice rB5 rm5 rcB5) from fun X hX => ⟨by rw [hp_cell (hp_mod hb5 hX id)]; rfl, by rw [hp_cell (hp_mod hb5 hX id)]; rfl, by rw [hp_cell (hp_mod hb5 hX id)]; rfl, by rw [hp_cell (hp_mod hb5 hX id)]; rfl⟩)
            obtain ⟨z0, z1, z2⟩ := HS.out _ HMB.out
            have NR := Mod.refl (fun _ => False) wB
            clear hr5 hok5 hb5 N5 hb3 hok3 hsr hval3 hcs3 hval5 hcs5
            obtain ⟨lv, hlv⟩ : ∃ a, a = (latP xc L).1 := ⟨_, rfl⟩
            obtain ⟨lb, hlb⟩ : ∃ a, a = (latP xc L).2 := ⟨_, rfl⟩
            rw [← hlv, ← hlb] at HLat
            cases hat : atT xc L with
            | none =>
              rw [idxT_none hat] at HRat
              have hlb' : lb = false := by rw [hlb]; unfold latP; rw [hat]
              clear hlb
              subst hlb'
              clear hat hlv
              go_upto_region 17 with (first
                | (go_at_call 11
                   (with_reducible refine (HLat.out _ (HMB.out.trans' (by (repeat' (with_reducible (first | exact Mod.refl _ _ | assumption | refine Mod.alloc ?_ _ | refine Mod.drew ?_ | refine Mod.drewN ?_ _ | refine Mod.setCell ?_ (by first | exact Or.inl rfl | (right; simp; done) | (right; simp; omega) | (left; simp; done)) _)))))).mono ?_)
                   rintro e w6 ⟨rfl, hm6⟩
                   have N6 : Mod (fun _ => False) wB w6 := Mod.trans' (by (repeat' (with_reducible (first | exact Mod.refl _ _ | assumption | refine Mod.alloc ?_ _ | refine Mod.drew ?_ | refine Mod.drewN ?_ _ | refine Mod.setCell ?_ (by first | exact Or.inl rfl | (right; simp; done) | (right; simp; omega) | (left; simp; done)) _)))) hm6
                   clear hm6)
                | fail)
              obtain ⟨z0, z1, z2⟩ := HS.out _ (HMB.out.trans' N6)
              have y0 := cell_regrown z0
              have y1 := cell_regrown z2
              have N6' := Lib.hid N6
              clear z0 z1 z2 N6
              refine wp_region_quiet_below (by kernel_rfl) (by kernel_rfl) ?_
              repeat (go_big_quiet_step ((first | (first | (go_at_call 31; with_reducible exact regE fun X hX => (HRat.out X (HMB.out.trans' (N6'.out.trans' hX))).mono fun e w' he => ⟨he.1, he.2.symm⟩) | fail) | fail)))
              refine wpQuiet_nil ?_
              intro W1 hW1
              have HQ := mod_of_regrown hW1
              clear hW1
              have N7 : Mod (fun _ => False) wB W1 := N6'.out.trans' HQ
              obtain ⟨k0, k1, k2, k3⟩ := HBX3.out _ N7
              obtain ⟨l0, l1, l2, l3⟩ := HBX5.out _ N7
              obtain ⟨z0, z1, z2⟩ := HS.out _ (HMB.out.trans' N7)
              obtain ⟨j0, j1, j2⟩ := HF.out _ (HMB.out.trans' N7)
              have h33 : (a1 : Int) = (a1 : Int) := rfl
              clear HQ y0 y1 j0 j1
              go_wp2_with (first
                | (go_at_call 20
                   (with_reducible refine (HSr.out _ N7).mono ?_)
                   rintro e w8 ⟨rfl, hm8⟩
                   have N8 : Mod (fun _ => False) wB w8 := N7.trans' hm8
                   obtain ⟨z0, z1, z2⟩ := HS.out _ (HMB.out.trans' N8)
                   obtain ⟨j0, j1, j2⟩ := HF.out _ (HMB.out.trans' N8)
                   skip
                   clear hm8 j0 j1)
                | fail)
              go_roundw
              case rel => exact ⟨k + 1, by omega, by go_num, HMB.out.trans' N8⟩
              case measure => simp only [intOf]; omega
            | some t =>
              obtain ⟨i, hi, hix, hxi⟩ := idxT_some hat
              rw [hix] at HRat
              have hlb' : lb = true := by rw [hlb]; unfold latP; rw [hat]
              have hlv : lv = t.n := by rw [hlv]; unfold latP; rw [hat]
              clear hlb
              subst hlb'
              have hin : i < n := by rw [HN.out]; exact hi
              have hiy : i < ys.length := by rw [HyL.out]; exact hi
              obtain ⟨b9, o9, hA9, -, -, e9, -⟩ := rdAC (HAX.out _ HMB.out) hiy
              have hyn : ys[i].n = lv := by
                have h1 : (ys.map AC.told)[i]? = some t := by rw [HR.out.told, List.getElem?_eq_getElem hi, hxi]
                rw [List.getElem?_map, List.getElem?_eq_getElem hiy] at h1
                injection h1 with h1
                rw [hlv, ← h1]; rfl
              rw [hyn] at e9
              subst hA9
              have HE9 := Lib.hid (fun X (hX : Mod (fun _ => False) wB X) => cell_modC e9 hX id)
              clear hat hlv hi hix hxi hiy e9 hyn
              have hne : ((lv : Int) != (lv : Int)) = false := by simp
              go_upto_region 17 with (first
                | (go_at_call 11
                   (with_reducible refine (HLat.out _ (HMB.out.trans' (by (repeat' (with_reducible (first | exact Mod.refl _ _ | assumption | refine Mod.alloc ?_ _ | refine Mod.drew ?_ | refine Mod.drewN ?_ _ | refine Mod.setCell ?_ (by first | exact Or.inl rfl | (right; simp; done) | (right; simp; omega) | (left; simp; done)) _)))))).mono ?_)
                   rintro e w6 ⟨rfl, hm6⟩
                   have N6 : Mod (fun _ => False) wB w6 := Mod.trans' (by (repeat' (with_reducible (first | exact Mod.refl _ _ | assumption | refine Mod.alloc ?_ _ | refine Mod.drew ?_ | refine Mod.drewN ?_ _ | refine Mod.setCell ?_ (by first | exact Or.inl rfl | (right; simp; done) | (right; simp; omega) | (left; simp; done)) _)))) hm6
                   clear hm6)
                | fail)
              obtain ⟨z0, z1, z2⟩ := HS.out _ (HMB.out.trans' N6)
              have y0 := cell_regrown z0
              have y1 := cell_regrown z2
              have N6' := Lib.hid N6
              clear z0 z1 z2 N6
              refine wp_region_quiet_below (by kernel_rfl) (by kernel_rfl) ?_
              repeat (go_big_quiet_step ((first | (first | (go_at_call 31; with_reducible exact regE fun X hX => (HRat.out X (HMB.out.trans' (N6'.out.trans' hX))).mono fun e w' he => ⟨he.1, he.2.symm⟩) | fail) | fail)))
              refine wpQuiet_nil ?_
              intro W1 hW1
              have HQ := mod_of_regrown hW1
              clear hW1
              have N7 : Mod (fun _ => False) wB W1 := N6'.out.trans' HQ
              obtain ⟨k0, k1, k2, k3⟩ := HBX3.out _ N7
              obtain ⟨l0, l1, l2, l3⟩ := HBX5.out _ N7
              obtain ⟨z0, z1, z2⟩ := HS.out _ (HMB.out.trans' N7)
              obtain ⟨j0, j1, j2⟩ := HF.out _ (HMB.out.trans' N7)
              have h33 : (a1 : Int) = (a1 : Int) := rfl
              clear HQ y0 y1 j0 j1
              have e9 := HE9.out _ N7
              go_wp2_with (first
                | (go_at_call 20
                   (with_reducible refine (HSr.out _ N7).mono ?_)
                   rintro e w8 ⟨rfl, hm8⟩
                   have N8 : Mod (fun _ => False) wB w8 := N7.trans' hm8
                   obtain ⟨z0, z1, z2⟩ := HS.out _ (HMB.out.trans' N8)
                   obtain ⟨j0, j1, j2⟩ := HF.out _ (HMB.out.trans' N8)
                   have e9 := HE9.out _ N8
                   clear hm8 j0 j1)
                | fail)
              go_roundw
              case rel => exact ⟨k + 1, by omega, by go_num, HMB.out.trans' N8⟩
              case measure => simp only [intOf]; omega
      · obtain rfl : k = l := by omega
        obtain ⟨f0, f1, f2⟩ := HF.out _ MR
        have r1 := HR3.out _ MR
        have c3 : wr.cell? ⟨B + 1, 0, none⟩ = some (.bool false) := by rw [hp_cell r1]; rfl
        have fr := hp_free r1 0
        have rl := hp_lt r1
        have hnn : ((n : Int) == (n : Int)) = true := by simp
        have HMR := Lib.hid MR
        have HR1 := Lib.hid r1
        clear r1 N0 MR
        go_wp2
        go_region
        go_wp2
        have hzb := HZB.out
        have hK2 := hp_far (hp_drew (HK.out _ HMR.out)) (p := ⟨B + 1, 0, none⟩) (show Z + 1 ≠ B + 1 by omega) (.bool true)
        have hR := hp_eq (hp_set (hp_drew HR1.out) 0 (.bool true)) (cs' := #[.bool true]) (by simp)
        have hR2 : ((wr.drew.setCell ⟨B + 1, 0, none⟩ (.bool true)).putObj (Z + 1) (.deferred none)).heap[B + 1]? = some (.cells #[.bool true] 4 (0, 0)) := by
          rw [World.putObj_heap_other (by omega)]; exact hR
        have hc := hp_cell hR2 0
        refine retM1 (v := .bool true) rfl hK2 ?_ ⟨rfl, ?_⟩
        · simp [results, asAddr, go_sem] at hc ⊢
          rw [hc]
        · have hBw := HB.out
          have hs := HMD.out.size
          refine Mod.putObj ?_ (.inr (by omega)) _
          exact (HMD.out.trans' HMR.out).drew.setCell (p := ⟨B + 1, 0, none⟩) (.inr (show w.heap.size ≤ B + 1 by omega)) _
end Go.Proofs.YtmalclclopnlnaaGreat
