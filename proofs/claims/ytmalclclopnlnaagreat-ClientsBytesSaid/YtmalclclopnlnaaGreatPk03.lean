/-
  Texts of this claim, one behind the other: TlvN.
-/
import Derived.Test.YtmalclclopnlnaaGreatPk02
/-
  The package tlv: a reader takes a list.
-/
namespace Go.Proofs.YtmalclclopnlnaaGreat
open Go.RowKit Go.Shelf
attribute [local go_sem] Oper.semAt_some

section
variable {σ : Type}
/-- A list, taken step by step; a step answers the state, what is left, whether the reader failed, and its own word. -/
def listR (step : σ → Bs → σ × Bs × Bool × Bool) : Nat → σ → Bs → σ × Bool
  | 0, a, s => (a, decide (s = []))
  | f + 1, a, s => if s = [] then (a, true) else if (step a s).2.2.2 = false ∨ (step a s).2.2.1 = true ∨ (step a s).2.1.length = s.length then ((step a s).1, false) else listR step f (step a s).1 (step a s).2.1
/-- What List answers and leaves. -/
def listM (step : σ → Bs → σ × Bs × Bool × Bool) (a : σ) (s : Bs) : Option (Bs × Bs) → σ × Bs × Bool × Bool
  | none => (a, s, true, false)
  | some (b, s') => ((listR step b.length a b).1, s', !(listR step b.length a b).2, (listR step b.length a b).2)
def listG (step : σ → Bs → σ × Bs × Bool × Bool) (t : UInt8) (a : σ) (s : Bs) (bad : Bool) : σ × Bs × Bool × Bool := listM step a s (if bad = true then none else takeV t s)
/-- What a step of a list leaves: the closure's state J lies in blocks of C. -/
def StepEnds (J : σ → (Nat → Prop) → World → Prop) (D : Nat → Prop) (p T : Nat) (C : Nat → Prop) (r : σ × Bs × Bool × Bool) (w : World) (e : Ending) (w' : World) : Prop :=
  e = .returned (.bool r.2.2.2) ∧ RrAt D p T w' r.2.1 r.2.2.1 ∧ Mod (fun b => b = p ∨ C b) w w' ∧ ∃ C' : Nat → Prop, J r.1 C' w' ∧ ∀ b, C' b → b < w'.heap.size ∧ (C b ∨ w.heap.size ≤ b)
/-- The closure g (over lb) takes one step of a list, where Inv holds. -/
def TakesR (g : Nat) (lb : Array Value) (step : σ → Bs → σ × Bs × Bool × Bool) (J : σ → (Nat → Prop) → World → Prop) (Inv : σ → Bs → Prop) : Prop :=
  ∀ (D : Nat → Prop) (q : Nat) (a : σ) (s : Bs) (C : Nat → Prop) (W : World), RrAt D q 135 W s false → s.length ≤ 1099511627776 → Inv a s → J a C W → (∀ b, C b → b < W.heap.size ∧ b ≠ q ∧ ¬ D b) →
    Calls Tryz.prog g (#[.pointer (some ⟨q, 0, none⟩)] ++ lb) W (StepEnds J D q 135 C (step a s) W)
def lenAt (q : Nat) (w : World) : Nat := match w.cell? ⟨q, 0, none⟩ with
  | some (.slice _ n _) => n
  | _ => 0
theorem RrAt.len {D : Nat → Prop} {p T : Nat} {w : World} {s : Bs} {bad : Bool} (h : RrAt D p T w s bad) : lenAt p w = s.length := by
  obtain ⟨A, n, c, hp, _, hn, _⟩ := h
  unfold lenAt
  rw [hp_cell hp, ← hn]
  rfl
theorem RrAt.lt {D : Nat → Prop} {p T : Nat} {w : World} {s : Bs} {bad : Bool} (h : RrAt D p T w s bad) : p < w.heap.size := by
  obtain ⟨A, n, c, hp, _⟩ := h
  exact hp_lt hp
theorem RrAt.keep {D C : Nat → Prop} {p T : Nat} {w w' : World} {s : Bs} {bad : Bool} (h : RrAt D p T w s bad) (hm : Mod C w w') (hp : ¬ C p) (hn : ∀ b, D b → ¬ C b) : RrAt D p T w' s bad := by
  obtain ⟨A, n, c, h1, h2, h3, h4, h5⟩ := h
  exact ⟨A, n, c, hp_mod h1 hm hp, h2.keep (hm.agree fun b hb => ⟨(h5 b hb).2, hn b hb⟩), h3, h4, fun b hb => ⟨(h5 b hb).1, Nat.lt_of_lt_of_le (h5 b hb).2 hm.size⟩⟩
theorem on_mod {D C C' C2 : Nat → Prop} {p q T : Nat} {w wr w2 : World} (hm : Mod (fun z => z = p ∨ C z) w wr) (hm2 : Mod (fun z => z = q ∨ C' z) wr w2) (hc2 : ∀ z, C2 z → z < w2.heap.size ∧ (C' z ∨ wr.heap.size ≤ z))
    (hcx : ∀ z, C' z → z < wr.heap.size ∧ z ≠ q ∧ (C z ∨ w.heap.size ≤ z)) (hq : w.heap.size ≤ q) (hqr : q < wr.heap.size) :
    Mod (fun z => z = p ∨ C z) w w2 ∧ ∀ z, C2 z → z < w2.heap.size ∧ z ≠ q ∧ (C z ∨ w.heap.size ≤ z) := by
  have hs := hm.size
  refine ⟨hm.trans hm2 fun z hz => ?_, fun z hz => ⟨(hc2 z hz).1, ?_, ?_⟩⟩
  · rcases hz with h | h
    · right; omega
    · exact (hcx z h).2.2.elim (fun h => .inl (.inr h)) .inr
  · rcases (hc2 z hz).2 with h | h
    · exact (hcx z h).2.1
    · omega
  · rcases (hc2 z hz).2 with h | h
    · exact (hcx z h).2.2
    · right; omega
theorem on_no {J : σ → (Nat → Prop) → World → Prop} {D C C' C2 : Nat → Prop} {p q T : Nat} {w wr w2 : World} {x' : σ} {s' : Bs} (hm : Mod (fun z => z = p ∨ C z) w wr) (hm2 : Mod (fun z => z = q ∨ C' z) wr w2) (hc2 : ∀ z, C2 z → z < w2.heap.size ∧ (C' z ∨ wr.heap.size ≤ z))
    (hcx : ∀ z, C' z → z < wr.heap.size ∧ z ≠ q ∧ (C z ∨ w.heap.size ≤ z)) (hq : w.heap.size ≤ q) (hqr : q < wr.heap.size) (hp : p < w.heap.size) (ho : RrAt D p T w2 s' false) (hJ : ∀ a C W W', J a C W → Agree C W W' → J a C W') (hj : J x' C2 w2)
    (hC : ∀ z, C z → z < w.heap.size ∧ z ≠ p ∧ ¬ D z) : StepEnds J D p T C (x', s', true, false) w (.returned (.bool false)) (w2.setCell ⟨p, 1, none⟩ (.bool true)) := by
  obtain ⟨h1, h2⟩ := on_mod (D := D) (T := T) hm hm2 hc2 hcx hq hqr
  obtain ⟨h3, h4⟩ := ho.fault 0
  have hpc : ¬ C2 p := fun h => by
    rcases (h2 p h).2.2 with h | h
    · exact (hC p h).2.1 rfl
    · omega
  exact ⟨rfl, h3, h1.trans h4 fun z hz => .inl (.inl hz), C2, hJ _ _ _ _ hj (h4.agree fun z hz => ⟨(h2 z hz).1, fun e => hpc (e ▸ hz)⟩), fun z hz => ⟨Nat.lt_of_lt_of_le (h2 z hz).1 h4.size, (h2 z hz).2.2⟩⟩
set_option maxRecDepth 100000 in
set_option maxHeartbeats 4000000 in
theorem rlist_any (D : Nat → Prop) (p T : Nat) (s : Bs) (bad : Bool) (t : UInt8) (g : Nat) (lb : Array Value) (step : σ → Bs → σ × Bs × Bool × Bool) (J : σ → (Nat → Prop) → World → Prop) (Inv : σ → Bs → Prop) (a : σ) (C : Nat → Prop) (w : World)
    (h : RrAt D p T w s bad) (hsz : s.length ≤ 1099511627776) (eg : ∀ args w, (callFunc g args).run Tryz.prog w = .ok (.enter g args) w) (hst : ∀ a s, (step a s).2.1.length ≤ s.length) (hg : TakesR g lb step J Inv) (hI : ∀ a s, Inv a s → (step a s).2.2.2 = true → (step a s).2.2.1 = false → (step a s).2.1.length ≠ s.length → Inv (step a s).1 (step a s).2.1) (hI0 : ∀ b s', takeV t s = some (b, s') → Inv a b)
    (hJ : ∀ a C W W', J a C W → Agree C W W' → J a C W') (hj : J a C w) (hC : ∀ b, C b → b < w.heap.size ∧ b ≠ p ∧ ¬ D b) :
    Calls Tryz.prog 51 #[.pointer (some ⟨p, 0, none⟩), .int .u8 (t.toNat : Int), .func (.func g) #[] lb] w (StepEnds J D p T C (listG step t a s bad) w) := by
  have HT := Lib.hid (rtake_any D p T s bad t w h hsz)
  have HJ := Lib.hid hJ
  have HC := Lib.hid hC
  have HJa := Lib.hid hj
  have HG := Lib.hid hg
  have HSt := Lib.hid hst
  have HInv := Lib.hid hI
  have HInv0 := Lib.hid hI0
  have HH := Lib.hid h
  have HSz := Lib.hid hsz
  have hlt := h.lt
  obtain ⟨r, hr⟩ : ∃ r, r = if bad = true then none else takeV t s := ⟨_, rfl⟩
  have HR := Lib.hid hr
  have HE := Lib.hid (show listG step t a s bad = listM step a s r by rw [hr]; rfl)
  obtain ⟨G, hG⟩ : ∃ G, G = listG step t a s bad := ⟨_, rfl⟩
  rw [← hG] at HE ⊢
  clear hG hr h hsz hj hC hJ hg hst hI hI0
  cases r with
  | none =>
    go_enter Tryz.func51, Tryz.ntmps51
    go_wp2_with (first
      | (go_at_call 77
         refine HT.out.mono ?_
         rintro e w1 ⟨hr1, hm1⟩
         rw [← HR.out] at hr1
         simp only at hr1
         obtain ⟨hr1, hat⟩ := hr1
         subst hr1
         have HAT := Lib.hid hat
         have HM1 := Lib.hid hm1
         clear hat hm1)
      | fail)
    go_ret
    rw [HE.out]
    exact ⟨rfl, HAT.out, HM1.out.mono fun b _ h => .inl h, C, HJ.out _ _ _ _ HJa.out (HM1.out.agree fun b hb => ⟨(HC.out b hb).1, (HC.out b hb).2.1⟩), fun b hb => ⟨Nat.lt_of_lt_of_le (HC.out b hb).1 HM1.out.size, .inl hb⟩⟩
  | some v =>
    obtain ⟨b, s'⟩ := v
    have HE := Lib.hid (show G = ((listR step b.length a b).1, s', !(listR step b.length a b).2, (listR step b.length a b).2) from HE.out)
    go_enter Tryz.func51, Tryz.ntmps51
    go_wp2_with (first
      | (go_at_call 77
         refine HT.out.mono ?_
         rintro e w1 ⟨hr1, hm1⟩
         rw [← HR.out] at hr1
         simp only at hr1
         obtain ⟨A1, hr1, hrd1, hat⟩ := hr1
         subst hr1
         have HAT := Lib.hid hat
         have HM1 := Lib.hid hm1
         have HRd1 := Lib.hid hrd1
         clear hat hm1 hrd1)
      | fail)
    obtain ⟨q, hq⟩ : ∃ q, q = w1.heap.size := ⟨_, rfl⟩
    obtain ⟨W1, hW1⟩ : ∃ W1, W1 = w1.alloc (.cells #[.slice A1 b.length b.length, .bool false, .bool true] 135) := ⟨_, rfl⟩
    have hm0 : Mod (fun x => x = p) w W1 := by rw [hW1]; exact HM1.out.alloc _
    have hq1 : W1.heap[q]? = some (.cells #[.slice A1 b.length b.length, .bool false, .bool true] 135 (0, 0)) := by rw [hW1, hq]; exact hp_new _ _
    have hs1 : w.heap.size ≤ q := by rw [hq]; exact HM1.out.size
    have hsW : W1.heap.size = q + 1 := by rw [hW1, hq]; simp
    have ho0 : RrAt D p T W1 s' false := HAT.out.keep (C := fun _ => False) (by rw [hW1]; (repeat' (first | exact Mod.refl _ _ | assumption | refine Mod.alloc ?_ _ | refine Mod.drew ?_ | refine Mod.drewN ?_ _ | refine Mod.setCell ?_ (by first | exact Or.inl rfl | (right; simp; done) | (right; simp; omega) | (left; simp; done)) _))) id fun _ _ => id
    have hD : ∀ x, D x → x ≠ p ∧ x < w.heap.size := by
      obtain ⟨_, _, _, _, _, _, _, h5⟩ := HH.out
      exact h5
    have hi0 : RrAt D q 135 W1 b false := ⟨A1, b.length, b.length, hq1, HRd1.out.keep (Agree.below (B := q) (by rw [hW1, hq]; exact (Below.refl _ w1).alloc (Nat.le_refl _) _) fun x hx => by have := (hD x hx).2; omega), rfl, Nat.le_refl _, fun x hx => by have := (hD x hx).2; omega⟩
    have hj0 : J a C W1 := HJ.out _ _ _ _ HJa.out (hm0.agree fun x hx => ⟨(HC.out x hx).1, (HC.out x hx).2.1⟩)
    obtain ⟨R, hR⟩ : ∃ R, R = listR step b.length a b := ⟨_, rfl⟩
    rw [← hR] at HE
    have HR2 := Lib.hid hR
    rw [← hW1, ← hq]
    have hqs : w1.heap.size = q := hq.symm
    have htk : takeV t s = some (b, s') := by
      have h1 := HR.out
      split at h1
      · cases h1
      · exact h1.symm
    have HIn0 := Lib.hid (HInv0.out b s' htk)
    have hbl : b.length ≤ 1099511627776 := by
      · have h2 := (takeV_some htk).1
        have h3 := congrArg List.length h2
        rw [List.length_append, valV_len] at h3
        have := HSz.out
        omega
    have HM0 := Lib.hid hm0
    have HI0 := Lib.hid hi0
    have HO0 := Lib.hid ho0
    have HJ0 := Lib.hid hj0
    have HD := Lib.hid hD
    clear hW1 hq hq1 hqs hm0 ho0 hi0 hj0 hD hR HAT HRd1 htk
    go_loopw [10] (fun _ wr => ∃ (f : Nat) (x : σ) (r : Bs) (C' : Nat → Prop), r.length ≤ f ∧ r.length ≤ b.length ∧ listR step f x r = R ∧ Inv x r ∧ RrAt D q 135 wr r false ∧ RrAt D p T wr s' false ∧ J x C' wr ∧ (∀ z, C' z → z < wr.heap.size ∧ z ≠ q ∧ (C z ∨ w.heap.size ≤ z)) ∧ Mod (fun z => z = p ∨ C z) w wr) (fun _ wr => lenAt q wr)
    case atStart => exact ⟨b.length, a, b, C, Nat.le_refl _, Nat.le_refl _, HR2.out.symm, HIn0.out, HI0.out, HO0.out, HJ0.out, fun z hz => ⟨by have := (HC.out z hz).1; omega, by have := (HC.out z hz).1; omega, .inl hz⟩, HM0.out.mono fun _ _ h => .inl h⟩
    case round =>
      obtain ⟨f, x, r, C', hf, hrb, hres, hin, hi, ho, hj, hc, hm⟩ := hrel
      obtain ⟨Ai, ni, ci, hpi, -, hni, -, -⟩ := id hi
      have x0 : wr.cell? ⟨q, 0, none⟩ = some (.slice Ai ni ci) := by rw [hp_cell hpi]; rfl
      have HI := Lib.hid hi
      have HO := Lib.hid ho
      have HJX := Lib.hid hj
      have HCX := Lib.hid hc
      have HMX := Lib.hid hm
      have HRes := Lib.hid hres
      have HNi := Lib.hid hni
      have HLq := Lib.hid hi.len
      have hnl : ni ≤ 1099511627776 := by omega
      by_cases hr0 : r = []
      · have h0 : ni = 0 := by rw [hni, hr0]; rfl
        have HRe := Lib.hid (show R = (x, true) by rw [← hres, hr0]; cases f <;> simp [listR])
        subst h0
        clear hi ho hj hc hm hpi hni hres hr0 hf hrb hin
        go_wp2
        go_ret
        rw [HE.out, HRe.out]
        exact ⟨rfl, HO.out, HMX.out, C', HJX.out, fun z hz => ⟨(HCX.out z hz).1, (HCX.out z hz).2.2⟩⟩
      · have hr1 : 0 < r.length := List.length_pos_iff.2 hr0
        obtain ⟨f', rfl⟩ : ∃ f', f = f' + 1 := ⟨f - 1, by omega⟩
        have h0 : 0 < ni := by omega
        have h0' : decide ((0 : Int) < (ni : Int)) = true := by rw [decide_eq_true_eq]; omega
        have hcl := HG.out D q x r C' wr hi (by omega) hin hj (fun z hz => ⟨(hc z hz).1, (hc z hz).2.1, fun hd => by
          have hd1 := HD.out z hd
          rcases (hc z hz).2.2 with h | h
          · exact (HC.out z h).2.2 hd
          · omega⟩)
        have hle := HSt.out x r
        have hin2 := HInv.out x r hin
        obtain ⟨⟨x', r', BD, ok⟩, hstep⟩ : ∃ y, y = step x r := ⟨_, rfl⟩
        have hRs : R = if ok = false ∨ BD = true ∨ r'.length = r.length then (x', false) else listR step f' x' r' := by
          rw [← hres]
          simp only [listR]
          rw [if_neg hr0, ← hstep]
        rw [← hstep] at hcl hle hin2
        have HIn2 := Lib.hid (show ok = true → BD = false → r'.length ≠ r.length → Inv x' r' from hin2)
        have hcl : Calls Tryz.prog g (#[.pointer (some ⟨q, 0, none⟩)] ++ lb) wr fun e w' => e = .returned (.bool ok) ∧ RrAt D q 135 w' r' BD ∧ Mod (fun b => b = q ∨ C' b) wr w' ∧ ∃ C2 : Nat → Prop, J x' C2 w' ∧ ∀ b, C2 b → b < w'.heap.size ∧ (C' b ∨ wr.heap.size ≤ b) := hcl
        have hle : r'.length ≤ r.length := hle
        have HCl := Lib.hid hcl
        have HLe := Lib.hid hle
        have HRs := Lib.hid hRs
        have hpq : ¬ (p = q ∨ C' p) := by
          rintro (h | h)
          · omega
          · rcases (hc p h).2.2 with h | h
            · exact (HC.out p h).2.1 rfl
            · omega
        have HNP := Lib.hid hpq
        have HND := Lib.hid (show ∀ z, D z → ¬ (z = q ∨ C' z) from fun z hz h => by
          have hd1 := HD.out z hz
          rcases h with h | h
          · omega
          · rcases (hc z h).2.2 with h | h
            · exact (HC.out z h).2.2 hz
            · omega)
        have hsr : W1.heap.size ≤ W1.heap.size := Nat.le_refl _
        have hqr := hi.lt
        have q3 := fun w => run_eql_func_nil (P := Tryz.prog) w Tryz.underlying113 (.func g) #[] lb
        have HF := Lib.hid hf
        have HRB := Lib.hid hrb
        clear hstep hcl hle hin hin2 hRs hi ho hj hc hm hpi hni hres hr0 hpq hf hrb hsr
        rcases (show ok = false ∨ (ok = true ∧ BD = true) ∨ (ok = true ∧ BD = false ∧ r'.length = r.length) ∨ (ok = true ∧ BD = false ∧ ¬ r'.length = r.length) by
          cases ok <;> cases BD <;> simp <;> omega) with rfl | ⟨rfl, rfl⟩ | ⟨rfl, rfl, hq⟩ | ⟨rfl, rfl, hq⟩
        · -- its own word is no
          go_wp2_with (first
            | (with_reducible refine HCl.out.mono ?_
               rintro e w2 ⟨rfl, hi2, hm2, C2, hj2, hc2⟩
               have HI2 := Lib.hid hi2
               have HJ2 := Lib.hid hj2
               have HC2 := Lib.hid hc2
               have HM2 := Lib.hid hm2
               have ho2 := HO.out.keep hm2 HNP.out HND.out
               have HO2 := Lib.hid ho2
               obtain ⟨A2, n2, c2, hp2, -, hn2, -, -⟩ := hi2
               obtain ⟨A3, n3, c3, hp3, -, hn3, -, -⟩ := ho2
               have y0 : w2.cell? ⟨q, 0, none⟩ = some (.slice A2 n2 c2) := by rw [hp_cell hp2]; rfl
               have y1 : w2.cell? ⟨q, 1, none⟩ = some (.bool BD) := by rw [hp_cell hp2]; rfl
               have y1' : w2.cell? ⟨q, 0 + 1, none⟩ = some (.bool BD) := by rw [hp_cell hp2]; rfl
               have z1 : w2.cell? ⟨p, 1, none⟩ = some (.bool false) := by rw [hp_cell hp3]; rfl
               have z1' : w2.cell? ⟨p, 0 + 1, none⟩ = some (.bool false) := by rw [hp_cell hp3]; rfl
               have g1 : w2.frozen? ⟨p, 0 + 1, none⟩ = false := hp_free hp3 _
               have g1' : w2.frozen? ⟨p, 1, none⟩ = false := hp_free hp3 _
               clear hp2 hp3 hn3 hn2 hm2 hj2 hc2)
            | fail)
          go_ret
          rw [HE.out, HRs.out, if_pos (by simp)]
          exact on_no HMX.out HM2.out HC2.out HCX.out hs1 hqr hlt HO2.out HJ.out HJ2.out HC.out
        · -- the reader failed
          go_wp2_with (first
            | (with_reducible refine HCl.out.mono ?_
               rintro e w2 ⟨rfl, hi2, hm2, C2, hj2, hc2⟩
               have HI2 := Lib.hid hi2
               have HJ2 := Lib.hid hj2
               have HC2 := Lib.hid hc2
               have HM2 := Lib.hid hm2
               have ho2 := HO.out.keep hm2 HNP.out HND.out
               have HO2 := Lib.hid ho2
               obtain ⟨A2, n2, c2, hp2, -, hn2, -, -⟩ := hi2
               obtain ⟨A3, n3, c3, hp3, -, hn3, -, -⟩ := ho2
               have y0 : w2.cell? ⟨q, 0, none⟩ = some (.slice A2 n2 c2) := by rw [hp_cell hp2]; rfl
               have y1 : w2.cell? ⟨q, 1, none⟩ = some (.bool true) := by rw [hp_cell hp2]; rfl
               have y1' : w2.cell? ⟨q, 0 + 1, none⟩ = some (.bool true) := by rw [hp_cell hp2]; rfl
               have z1 : w2.cell? ⟨p, 1, none⟩ = some (.bool false) := by rw [hp_cell hp3]; rfl
               have z1' : w2.cell? ⟨p, 0 + 1, none⟩ = some (.bool false) := by rw [hp_cell hp3]; rfl
               have g1 : w2.frozen? ⟨p, 0 + 1, none⟩ = false := hp_free hp3 _
               have g1' : w2.frozen? ⟨p, 1, none⟩ = false := hp_free hp3 _
               clear hp2 hp3 hn3 hn2 hm2 hj2 hc2)
            | fail)
          go_ret
          rw [HE.out, HRs.out, if_pos (by simp)]
          exact on_no HMX.out HM2.out HC2.out HCX.out hs1 hqr hlt HO2.out HJ.out HJ2.out HC.out
        · -- nothing was taken
          go_wp2_with (first
            | (with_reducible refine HCl.out.mono ?_
               rintro e w2 ⟨rfl, hi2, hm2, C2, hj2, hc2⟩
               have HI2 := Lib.hid hi2
               have HJ2 := Lib.hid hj2
               have HC2 := Lib.hid hc2
               have HM2 := Lib.hid hm2
               have ho2 := HO.out.keep hm2 HNP.out HND.out
               have HO2 := Lib.hid ho2
               obtain ⟨A2, n2, c2, hp2, -, hn2, -, -⟩ := hi2
               obtain ⟨A3, n3, c3, hp3, -, hn3, -, -⟩ := ho2
               have y0 : w2.cell? ⟨q, 0, none⟩ = some (.slice A2 n2 c2) := by rw [hp_cell hp2]; rfl
               have y1 : w2.cell? ⟨q, 1, none⟩ = some (.bool false) := by rw [hp_cell hp2]; rfl
               have y1' : w2.cell? ⟨q, 0 + 1, none⟩ = some (.bool false) := by rw [hp_cell hp2]; rfl
               have z1 : w2.cell? ⟨p, 1, none⟩ = some (.bool false) := by rw [hp_cell hp3]; rfl
               have z1' : w2.cell? ⟨p, 0 + 1, none⟩ = some (.bool false) := by rw [hp_cell hp3]; rfl
               have g1 : w2.frozen? ⟨p, 0 + 1, none⟩ = false := hp_free hp3 _
               have g1' : w2.frozen? ⟨p, 1, none⟩ = false := hp_free hp3 _
               obtain rfl : n2 = ni := hn2.trans (hq.trans HNi.out.symm)
               clear hp2 hp3 hn3 hn2 hm2 hj2 hc2)
            | fail)
          go_ret
          rw [HE.out, HRs.out, if_pos (by simp [hq])]
          exact on_no HMX.out HM2.out HC2.out HCX.out hs1 hqr hlt HO2.out HJ.out HJ2.out HC.out
        · -- on
          go_wp2_with (first
            | (with_reducible refine HCl.out.mono ?_
               rintro e w2 ⟨rfl, hi2, hm2, C2, hj2, hc2⟩
               have HI2 := Lib.hid hi2
               have HJ2 := Lib.hid hj2
               have HC2 := Lib.hid hc2
               have HM2 := Lib.hid hm2
               have ho2 := HO.out.keep hm2 HNP.out HND.out
               have HO2 := Lib.hid ho2
               obtain ⟨A2, n2, c2, hp2, -, hn2, -, -⟩ := hi2
               obtain ⟨A3, n3, c3, hp3, -, hn3, -, -⟩ := ho2
               have y0 : w2.cell? ⟨q, 0, none⟩ = some (.slice A2 n2 c2) := by rw [hp_cell hp2]; rfl
               have y1 : w2.cell? ⟨q, 1, none⟩ = some (.bool false) := by rw [hp_cell hp2]; rfl
               have y1' : w2.cell? ⟨q, 0 + 1, none⟩ = some (.bool false) := by rw [hp_cell hp2]; rfl
               have z1 : w2.cell? ⟨p, 1, none⟩ = some (.bool false) := by rw [hp_cell hp3]; rfl
               have z1' : w2.cell? ⟨p, 0 + 1, none⟩ = some (.bool false) := by rw [hp_cell hp3]; rfl
               have g1 : w2.frozen? ⟨p, 0 + 1, none⟩ = false := hp_free hp3 _
               have g1' : w2.frozen? ⟨p, 1, none⟩ = false := hp_free hp3 _
               have hx : ¬ n2 = ni := fun e => hq (hn2.symm.trans (e.trans HNi.out))
               clear hp2 hp3 hn3 hn2 hm2 hj2 hc2)
            | fail)
          obtain ⟨k1, k2⟩ := on_mod (D := D) (T := T) HMX.out HM2.out HC2.out HCX.out hs1 hqr
          have hle := HLe.out
          have hf := HF.out
          have hrb := HRB.out
          exact ⟨⟨f', x', r', C2, by omega, by omega, by rw [HRs.out, if_neg (by simp [hq])], (by first | exact HIn2.out rfl rfl hq | exact HIn2.out trivial trivial hq | (have h := HIn2.out; simp at h; exact h hq)), HI2.out, HO2.out, HJ2.out, k2, k1⟩, by rw [HI2.out.len, HLq.out]; omega⟩
end
end Go.Proofs.YtmalclclopnlnaaGreat
