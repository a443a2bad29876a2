/-
  Texts of this claim, one behind the other: EntryW, EntryY, EntryD.
-/
import Derived.Test.YtmalclclopnlnaaGreatPk01
import Derived.Test.YtmalclclopnlnaaGreatPk03
import Derived.Test.YtmalclclopnlnaaGreatPk08
import Derived.Test.YtmalclclopnlnaaGreatPk09
import Derived.BigQuiet
import Derived.Laws.StructEq
/-
  Plain theory of entries as bytes.
-/
namespace Go.Proofs.YtmalclclopnlnaaGreat

def attrI (a : At) : Bs := valV 1 a.T ++ valV 2 a.V
def attrV (a : At) : Bs := valV 3 (attrI a)
def attrsV (l : List At) : Bs := l.flatMap attrV
def packV (nm : Bs) (l : List At) : Bs := valV 1 nm ++ valV 2 (attrsV l)
def attrP (x : Bs) : Option At := match takeV 1 x with
  | some (t, r) => match takeV 2 r with
    | some (v, []) => some ⟨t, v⟩
    | _ => none
  | none => none
def attrsP : Nat → Bs → Option (List At)
  | 0, s => if s = [] then some [] else none
  | f + 1, s => if s = [] then some [] else match takeV 3 s with
    | some (x, r) => match attrP x with
      | some a => (attrsP f r).map (a :: ·)
      | none => none
    | none => none
def takeA (t : UInt8) (s : Bs) : Option (List At × Bs) := match takeV t s with
  | some (b, r) => match attrsP b.length b with
    | some l => if mayAs l then some (l, r) else none
    | none => none
  | none => none
def ofE (s : Bs) : Option (Bs × List At) := match takeV 1 s with
  | some (nm, r) => match takeA 2 r with
    | some (l, []) => if mayNm nm && mayAs l then some (nm, l) else none
    | _ => none
  | none => none
theorem attrI_len (a : At) : (attrI a).length = 10 + a.T.length + a.V.length := by unfold attrI; rw [List.length_append, valV_len, valV_len]; omega
theorem attrV_len (a : At) : (attrV a).length = 15 + a.T.length + a.V.length := by unfold attrV; rw [valV_len, attrI_len]; omega
theorem attrP_enc (a : At) (h1 : a.T.length ≤ 4194304) (h2 : a.V.length ≤ 4194304) : attrP (attrI a) = some a := by
  unfold attrP attrI
  rw [takeV_val (by decide) h1]
  have := takeV_val (t := 2) (b := a.V) (by decide) h2 []
  rw [List.append_nil] at this
  simp only
  rw [this]
theorem attrP_some {x : Bs} {a : At} (h : attrP x = some a) : x = attrI a := by
  unfold attrP at h
  cases h1 : takeV 1 x with
  | none => rw [h1] at h; cases h
  | some p =>
    obtain ⟨t, r⟩ := p
    rw [h1] at h
    simp only at h
    cases h2 : takeV 2 r with
    | none => rw [h2] at h; cases h
    | some q =>
      obtain ⟨v, r'⟩ := q
      rw [h2] at h
      cases r' with
      | nil =>
        simp only at h
        injection h with h
        subst h
        have e1 := (takeV_some h1).1
        have e2 := (takeV_some h2).1
        rw [List.append_nil] at e2
        rw [e1, e2]; rfl
      | cons y l => cases h
def Fits (a : At) : Prop := a.T.length + a.V.length ≤ 4194294
theorem attrsV_nil_iff (l : List At) : attrsV l = [] ↔ l = [] := by
  constructor
  · intro h
    cases l with
    | nil => rfl
    | cons a l =>
      have := congrArg List.length h
      unfold attrsV at this
      rw [List.flatMap_cons, List.length_append, attrV_len] at this
      simp at this
  · rintro rfl; rfl
theorem attrsP_enc : ∀ (l : List At) (f : Nat), (attrsV l).length ≤ f → (∀ a ∈ l, Fits a) → attrsP f (attrsV l) = some l
  | [], f, _, _ => by cases f <;> rfl
  | a :: l, 0, h, _ => by
    unfold attrsV at h
    rw [List.flatMap_cons, List.length_append, attrV_len] at h
    omega
  | a :: l, f + 1, h, hf => by
    have ha : a.T.length + a.V.length ≤ 4194294 := hf a (by simp)
    have hne : attrsV (a :: l) ≠ [] := fun e => by have := (attrsV_nil_iff _).1 e; cases this
    have hc : attrsV (a :: l) = valV 3 (attrI a) ++ attrsV l := rfl
    simp only [attrsP]
    rw [if_neg hne, hc, takeV_val (by decide) (by rw [attrI_len]; omega)]
    simp only
    rw [attrP_enc a (by omega) (by omega)]
    simp only
    rw [attrsP_enc l f (by rw [hc, List.length_append, valV_len] at h; omega) (fun b hb => hf b (by simp [hb]))]
    rfl
theorem attrsP_some : ∀ (f : Nat) (s : Bs) (l : List At), attrsP f s = some l → s = attrsV l
  | 0, s, l, h => by
    simp only [attrsP] at h
    split at h
    · rename_i e
      injection h with h; subst h; exact e
    · cases h
  | f + 1, s, l, h => by
    simp only [attrsP] at h
    split at h
    · rename_i e
      injection h with h; subst h; exact e
    · cases h1 : takeV 3 s with
      | none => rw [h1] at h; cases h
      | some p =>
        obtain ⟨x, r⟩ := p
        rw [h1] at h
        simp only at h
        cases h2 : attrP x with
        | none => rw [h2] at h; cases h
        | some a =>
          rw [h2] at h
          simp only at h
          cases h3 : attrsP f r with
          | none => rw [h3] at h; cases h
          | some l' =>
            rw [h3] at h
            injection h with h
            subst h
            rw [(takeV_some h1).1, attrP_some h2, attrsP_some f r l' h3]
            rfl
theorem takeA_enc (t : UInt8) (ht : t ≠ 0) (l : List At) (hl : mayAs l = true) (hb : (attrsV l).length ≤ 4194304) (hf : ∀ a ∈ l, Fits a) (s : Bs) : takeA t (valV t (attrsV l) ++ s) = some (l, s) := by
  unfold takeA
  rw [takeV_val ht hb]
  simp only
  rw [attrsP_enc l _ (Nat.le_refl _) hf]
  simp only
  rw [if_pos hl]
theorem takeA_some {t : UInt8} {s r : Bs} {l : List At} (h : takeA t s = some (l, r)) : s = valV t (attrsV l) ++ r ∧ mayAs l = true := by
  unfold takeA at h
  cases h1 : takeV t s with
  | none => rw [h1] at h; cases h
  | some p =>
    obtain ⟨b, r'⟩ := p
    rw [h1] at h
    simp only at h
    cases h2 : attrsP b.length b with
    | none => rw [h2] at h; cases h
    | some l' =>
      rw [h2] at h
      simp only at h
      split at h
      · rename_i hm
        injection h with h
        injection h with h3 h4
        subst h3 h4
        exact ⟨by rw [(takeV_some h1).1, ← attrsP_some _ _ _ h2], hm⟩
      · cases h
theorem mayA_fits {a : At} (h : mayA a = true) : a.T.length ≤ 32 ∧ a.V.length ≤ 1000 := by
  unfold mayA mayTy mayNm at h
  simp only [Bool.and_eq_true, decide_eq_true_eq] at h
  omega
theorem attrsV_len (l : List At) (h : ∀ a ∈ l, mayA a = true) : (attrsV l).length ≤ 1047 * l.length := by
  induction l with
  | nil => simp [attrsV]
  | cons a l ih =>
    have ha := mayA_fits (h a (by simp))
    have := ih fun b hb => h b (by simp [hb])
    unfold attrsV at this ⊢
    rw [List.flatMap_cons, List.length_append, attrV_len]
    simp only [List.length_cons]; omega
theorem ofE_pack {nm : Bs} {l : List At} (h1 : mayNm nm = true) (h2 : mayAs l = true) : ofE (packV nm l) = some (nm, l) := by
  obtain ⟨hl, hm, _⟩ := (mayAs_iff l).1 h2
  have hnl : nm.length ≤ 1000 := by unfold mayNm at h1; simp at h1; exact h1.1
  have hal := attrsV_len l hm
  unfold ofE packV
  rw [takeV_val (by decide) (by omega)]
  simp only
  have := takeA_enc 2 (by decide) l h2 (by omega) (fun a ha => by have := mayA_fits (hm a ha); unfold Fits; omega) []
  rw [List.append_nil] at this
  rw [this]
  simp only
  rw [h1, h2]; rfl
theorem ofE_some {s nm : Bs} {l : List At} (h : ofE s = some (nm, l)) : s = packV nm l ∧ mayNm nm = true ∧ mayAs l = true := by
  unfold ofE at h
  cases h1 : takeV 1 s with
  | none => rw [h1] at h; cases h
  | some p =>
    obtain ⟨n', r⟩ := p
    rw [h1] at h
    simp only at h
    cases h2 : takeA 2 r with
    | none => rw [h2] at h; cases h
    | some q =>
      obtain ⟨l', r'⟩ := q
      rw [h2] at h
      cases r' with
      | cons y z => cases h
      | nil =>
        simp only at h
        split at h
        · rename_i hm
          rw [Bool.and_eq_true] at hm
          injection h with h
          injection h with h3 h4
          subst h3 h4
          have e2 := (takeA_some h2).1
          rw [List.append_nil] at e2
          exact ⟨by rw [(takeV_some h1).1, e2]; rfl, hm⟩
        · cases h
theorem packV_inj {a b : Bs} {l m : List At} (h1 : mayNm a = true) (h2 : mayAs l = true) (h3 : mayNm b = true) (h4 : mayAs m = true) (h : packV a l = packV b m) : a = b ∧ l = m := by
  have e1 := ofE_pack h1 h2
  rw [h, ofE_pack h3 h4] at e1
  injection e1 with e1
  injection e1 with e2 e3
  exact ⟨e2.symm, e3.symm⟩
end Go.Proofs.YtmalclclopnlnaaGreat
/-
  The package entry: an attribute is taken.
-/
namespace Go.Proofs.YtmalclclopnlnaaGreat
open Go.RowKit Go.Shelf
attribute [local go_sem] Oper.semAt_some

theorem enters_take1 : ∀ args w, (callFunc 98 args).run Tryz.prog w = .ok (.enter 98 args) w := enters_of Tryz.func98 (by kernel_rfl) rfl
theorem enters_take11 : ∀ args w, (callFunc 99 args).run Tryz.prog w = .ok (.enter 99 args) w := enters_of Tryz.func99 (by kernel_rfl) rfl
/-- One step of an attribute's list: its parts by their tags. -/
def step2 (x : Nat × At) (s : Bs) : (Nat × At) × Bs × Bool × Bool :=
  ((x.1 + 1, if x.1 = 0 then ⟨(gotV 1 s false).1, x.2.V⟩ else ⟨x.2.T, (gotV 2 s false).1⟩), (if x.1 = 0 then gotV 1 s false else gotV 2 s false).2.1, (if x.1 = 0 then gotV 1 s false else gotV 2 s false).2.2, decide (x.1 + 1 ≤ 2))
def J2 (bn ba : Nat) (x : Nat × At) (C : Nat → Prop) (W : World) : Prop :=
  W.heap[bn]? = some (.cells #[.int .i64 (x.1 : Int)] 3 (0, 0)) ∧ W.heap[ba]? = some (.cells #[.string ⟨x.2.T.toArray⟩, .string ⟨x.2.V.toArray⟩] 144 (0, 0)) ∧ bn ≠ ba ∧ C = fun b => b = bn ∨ b = ba
theorem J2_stab (bn ba : Nat) (x : Nat × At) (C : Nat → Prop) (W W' : World) (h : J2 bn ba x C W) (hA : Agree C W W') : J2 bn ba x C W' := by
  obtain ⟨h1, h2, h3, h4⟩ := h
  exact ⟨hp_agree h1 hA (by rw [h4]; exact .inl rfl), hp_agree h2 hA (by rw [h4]; exact .inr rfl), h3, h4⟩
set_option maxRecDepth 100000 in
set_option maxHeartbeats 2000000 in
theorem take11_takes (bn ba : Nat) : TakesR 99 #[.pointer (some ⟨bn, 0, none⟩), .pointer (some ⟨ba, 0, none⟩)] step2 (J2 bn ba) (fun x _ => x.1 ≤ 2) := by
  intro D q x s C W hat hsz hin hj hC
  obtain ⟨k, a⟩ := x
  obtain ⟨h1, h2, hne, rfl⟩ := hj
  have h1 : W.heap[bn]? = some (.cells #[.int .i64 (k : Int)] 3 (0, 0)) := h1
  have h2 : W.heap[ba]? = some (.cells #[.string ⟨a.T.toArray⟩, .string ⟨a.V.toArray⟩] 144 (0, 0)) := h2
  have hk : k ≤ 2 := hin
  have hbn := hC bn (.inl rfl)
  have hba := hC ba (.inr rfl)
  have c1 := hp_cell h1 0
  have f1 := hp_free h1 0
  have H1 := Lib.hid h1
  have H2 := Lib.hid h2
  have HNE := Lib.hid hne
  obtain ⟨m, hmk⟩ : ∃ m : Int, m = (k : Int) + 1 := ⟨_, rfl⟩
  obtain ⟨W1, hW1⟩ : ∃ W1, W1 = W.setCell ⟨bn, 0, none⟩ (.int .i64 m) := ⟨_, rfl⟩
  have hm1 : Mod (fun b => b = bn) W W1 := by rw [hW1]; (repeat' (first | exact Mod.refl _ _ | assumption | refine Mod.alloc ?_ _ | refine Mod.drew ?_ | refine Mod.drewN ?_ _ | refine Mod.setCell ?_ (by first | exact Or.inl rfl | (right; simp; done) | (right; simp; omega) | (left; simp; done)) _))
  have hat1 : RrAt D q 135 W1 s false := hat.keep hm1 (fun e => hbn.2.1 e.symm) (fun b hb e => (hC b (.inl e)).2.2 hb)
  have hn1 : W1.heap[bn]? = some (.cells #[.int .i64 m] 3 (0, 0)) := by rw [hW1]; exact hp_eq (hp_set h1 0 _) rfl
  have ha1 := hp_mod h2 hm1 (fun e => hne e.symm)
  have hr1 := rtext_any D q 135 s false 1 W1 hat1 hsz
  have hr2 := rtext_any D q 135 s false 2 W1 hat1 hsz
  rw [show (((1 : UInt8).toNat : Nat) : Int) = 1 from rfl] at hr1
  rw [show (((2 : UInt8).toNat : Nat) : Int) = 2 from rfl] at hr2
  have HR1 := Lib.hid hr1
  have HR2 := Lib.hid hr2
  have HN1 := Lib.hid hn1
  have HA1 := Lib.hid ha1
  have HM1 := Lib.hid hm1
  have HC := Lib.hid hC
  have HQ := Lib.hid (show ¬ bn = q ∧ ¬ ba = q from ⟨hbn.2.1, hba.2.1⟩)
  have hne' : ¬ ba = bn := fun e => hne e.symm
  subst hW1
  clear hr1 hr2 hn1 ha1 hm1 hC h1 h2 hat hat1 hsz hin hbn hba
  show Calls Tryz.prog 99 #[.pointer (some ⟨q, 0, none⟩), .pointer (some ⟨bn, 0, none⟩), .pointer (some ⟨ba, 0, none⟩)] W _
  rcases (show k = 0 ∨ k = 1 ∨ k = 2 by omega) with rfl | rfl | rfl
  · obtain rfl : m = 1 := by rw [hmk]; rfl
    clear hmk
    obtain ⟨g, hg⟩ : ∃ g, g = gotV 1 s false := ⟨_, rfl⟩
    have HG := Lib.hid hg
    rw [← hg] at HR1
    clear hg
    go_enter Tryz.func99, Tryz.ntmps99
    go_wp2_with (first
      | (go_at_call 78
         (with_reducible refine HR1.out.mono ?_)
         rintro e w2 ⟨rfl, hat2, hm2⟩
         have hn2 := hp_mod HN1.out hm2 HQ.out.1
         have ha2 := hp_mod HA1.out hm2 HQ.out.2
         have d1 := hp_cell hn2 0
         have d2 := hp_cell ha2 0
         have d2' : w2.cell? ⟨ba, 0 + 0, none⟩ = _ := hp_cell ha2 0
         have g2 : w2.frozen? ⟨ba, 0, none⟩ = false := hp_free ha2 _
         have g2' : w2.frozen? ⟨ba, 0 + 0, none⟩ = false := hp_free ha2 _
         have HN2 := Lib.hid hn2
         have HA2 := Lib.hid ha2
         have HAT2 := Lib.hid hat2
         have HM2 := Lib.hid hm2
         clear hat2 hm2 hn2 ha2)
      | fail)
    go_ret
    have hm3 : Mod (fun b => b = ba) w2 (w2.setCell ⟨ba, 0, none⟩ (.string ⟨g.1.toArray⟩)) := by (repeat' (first | exact Mod.refl _ _ | assumption | refine Mod.alloc ?_ _ | refine Mod.drew ?_ | refine Mod.drewN ?_ _ | refine Mod.setCell ?_ (by first | exact Or.inl rfl | (right; simp; done) | (right; simp; omega) | (left; simp; done)) _))
    have hs : step2 (0, a) s = ((1, ⟨g.1, a.V⟩), g.2.1, g.2.2, true) := by rw [HG.out]; rfl
    rw [hs]
    refine ⟨rfl, HAT2.out.keep hm3 (fun e => HQ.out.2 e.symm) (fun b hb e => (HC.out b (.inr e)).2.2 hb), ?_, fun b => b = bn ∨ b = ba, ⟨hp_far HN2.out hne _, hp_eq (hp_set HA2.out 0 _) rfl, hne, rfl⟩, fun b hb => ⟨?_, .inl hb⟩⟩
    · refine ((HM1.out.mono fun b _ h => .inr (.inl h)).trans HM2.out fun b hb => .inl (.inl hb)).trans hm3 fun b hb => .inl (.inr (.inr hb))
    · have h1 := (HC.out b hb).1
      have h2 := HM1.out.size
      have h3 := HM2.out.size
      have h4 := hm3.size
      omega
  · obtain rfl : m = 2 := by rw [hmk]; rfl
    clear hmk
    obtain ⟨g, hg⟩ : ∃ g, g = gotV 2 s false := ⟨_, rfl⟩
    have HG := Lib.hid hg
    rw [← hg] at HR2
    clear hg
    go_enter Tryz.func99, Tryz.ntmps99
    go_wp2_with (first
      | (go_at_call 78
         (with_reducible refine HR2.out.mono ?_)
         rintro e w2 ⟨rfl, hat2, hm2⟩
         have hn2 := hp_mod HN1.out hm2 HQ.out.1
         have ha2 := hp_mod HA1.out hm2 HQ.out.2
         have d1 := hp_cell hn2 0
         have d2 := hp_cell ha2 1
         have d2' : w2.cell? ⟨ba, 0 + 1, none⟩ = _ := hp_cell ha2 1
         have g2 : w2.frozen? ⟨ba, 1, none⟩ = false := hp_free ha2 _
         have g2' : w2.frozen? ⟨ba, 0 + 1, none⟩ = false := hp_free ha2 _
         have HN2 := Lib.hid hn2
         have HA2 := Lib.hid ha2
         have HAT2 := Lib.hid hat2
         have HM2 := Lib.hid hm2
         clear hat2 hm2 hn2 ha2)
      | fail)
    go_ret
    have hm3 : Mod (fun b => b = ba) w2 (w2.setCell ⟨ba, 1, none⟩ (.string ⟨g.1.toArray⟩)) := by (repeat' (first | exact Mod.refl _ _ | assumption | refine Mod.alloc ?_ _ | refine Mod.drew ?_ | refine Mod.drewN ?_ _ | refine Mod.setCell ?_ (by first | exact Or.inl rfl | (right; simp; done) | (right; simp; omega) | (left; simp; done)) _))
    have hs : step2 (1, a) s = ((2, ⟨a.T, g.1⟩), g.2.1, g.2.2, true) := by rw [HG.out]; rfl
    rw [hs]
    refine ⟨rfl, HAT2.out.keep hm3 (fun e => HQ.out.2 e.symm) (fun b hb e => (HC.out b (.inr e)).2.2 hb), ?_, fun b => b = bn ∨ b = ba, ⟨hp_far HN2.out hne _, hp_eq (hp_set HA2.out 1 _) rfl, hne, rfl⟩, fun b hb => ⟨?_, .inl hb⟩⟩
    · refine ((HM1.out.mono fun b _ h => .inr (.inl h)).trans HM2.out fun b hb => .inl (.inl hb)).trans hm3 fun b hb => .inl (.inr (.inr hb))
    · have h1 := (HC.out b hb).1
      have h2 := HM1.out.size
      have h3 := HM2.out.size
      have h4 := hm3.size
      omega
  · obtain rfl : m = 3 := by rw [hmk]; rfl
    clear hmk
    obtain ⟨g, hg⟩ : ∃ g, g = gotV 2 s false := ⟨_, rfl⟩
    have HG := Lib.hid hg
    rw [← hg] at HR2
    clear hg
    go_enter Tryz.func99, Tryz.ntmps99
    go_wp2_with (first
      | (go_at_call 78
         (with_reducible refine HR2.out.mono ?_)
         rintro e w2 ⟨rfl, hat2, hm2⟩
         have hn2 := hp_mod HN1.out hm2 HQ.out.1
         have ha2 := hp_mod HA1.out hm2 HQ.out.2
         have d1 := hp_cell hn2 0
         have d2 := hp_cell ha2 1
         have d2' : w2.cell? ⟨ba, 0 + 1, none⟩ = _ := hp_cell ha2 1
         have g2 : w2.frozen? ⟨ba, 1, none⟩ = false := hp_free ha2 _
         have g2' : w2.frozen? ⟨ba, 0 + 1, none⟩ = false := hp_free ha2 _
         have HN2 := Lib.hid hn2
         have HA2 := Lib.hid ha2
         have HAT2 := Lib.hid hat2
         have HM2 := Lib.hid hm2
         clear hat2 hm2 hn2 ha2)
      | fail)
    go_ret
    have hm3 : Mod (fun b => b = ba) w2 (w2.setCell ⟨ba, 1, none⟩ (.string ⟨g.1.toArray⟩)) := by (repeat' (first | exact Mod.refl _ _ | assumption | refine Mod.alloc ?_ _ | refine Mod.drew ?_ | refine Mod.drewN ?_ _ | refine Mod.setCell ?_ (by first | exact Or.inl rfl | (right; simp; done) | (right; simp; omega) | (left; simp; done)) _))
    have hs : step2 (2, a) s = ((3, ⟨a.T, g.1⟩), g.2.1, g.2.2, false) := by rw [HG.out]; rfl
    rw [hs]
    refine ⟨rfl, HAT2.out.keep hm3 (fun e => HQ.out.2 e.symm) (fun b hb e => (HC.out b (.inr e)).2.2 hb), ?_, fun b => b = bn ∨ b = ba, ⟨hp_far HN2.out hne _, hp_eq (hp_set HA2.out 1 _) rfl, hne, rfl⟩, fun b hb => ⟨?_, .inl hb⟩⟩
    · refine ((HM1.out.mono fun b _ h => .inr (.inl h)).trans HM2.out fun b hb => .inl (.inl hb)).trans hm3 fun b hb => .inl (.inr (.inr hb))
    · have h1 := (HC.out b hb).1
      have h2 := HM1.out.size
      have h3 := HM2.out.size
      have h4 := hm3.size
      omega
end Go.Proofs.YtmalclclopnlnaaGreat
/-
  Lists of attributes that may be, the document's way; entries that may be; two lists the same; how much is gone through.
-/
namespace Go.Proofs.YtmalclclopnlnaaGreat
open Go.RowKit Go.Shelf
attribute [local go_sem] Oper.semAt_some

set_option maxRecDepth 100000 in
set_option maxHeartbeats 4000000 in
theorem rmays_any (A : Option Addr) (c : Nat) (xs : List At) (w : World) (hA : Rd (fun b => b < w.heap.size) w 2 At.cs A xs) (hl : xs.length ≤ 1099511627776) (hf : ∀ a ∈ xs, FitA a) :
    Calls Tryz.prog 61 #[.slice A xs.length c] w fun e w' => e = .returned (.bool (mayAs xs)) ∧ Mod (fun _ => False) w w' := by
  obtain ⟨z, hz⟩ : ∃ z, z = mayAs xs := ⟨_, rfl⟩
  rw [← hz]
  have HZ := Lib.hid hz
  obtain ⟨n, hn⟩ : ∃ n, n = xs.length := ⟨_, rfl⟩
  rw [← hn] at hl ⊢
  have HN := Lib.hid hn
  by_cases h50 : 50 < n
  · obtain rfl : z = false := by rw [hz]; unfold mayAs; rw [Bool.and_eq_false_imp]; intro h; rw [decide_eq_true_eq] at h; omega
    clear hz HZ hn HN hf hA
    go_enter Tryz.func61, Tryz.ntmps61
    go_wp2
    go_ret
    exact ⟨rfl, Mod.refl _ _⟩
  have HF := Lib.hid hf
  have HA := Lib.hid (fun X (hX : Mod (fun _ => False) w X) => (hA.mod hX (fun b hb => ⟨hb, id⟩)))
  clear hA hz hn hf
  go_enter Tryz.func61, Tryz.ntmps61
  go_wp2
  go_loopw [3] (fun i wr => ∃ k : Nat, k ≤ n ∧ i = .int .i64 k ∧ (∀ i, i < k → okAt xs i = true) ∧ Mod (fun _ => False) w wr) (fun i _ => n - (intOf i).toNat)
  case atStart => exact ⟨0, by omega, rfl, fun i h => by omega, Mod.refl _ _⟩
  case round =>
    obtain ⟨k, hk, rfl, hok, hm⟩ := hrel
    have HOk := Lib.hid hok
    have HM := Lib.hid hm
    clear hok hm
    by_cases hlt : k < n
    · have hkx : k < xs.length := by rw [← HN.out]; exact hlt
      obtain ⟨b, off, rfl, hbl, k0, k1⟩ := rd2 (HA.out _ HM.out) hkx
      obtain ⟨x, hx⟩ : ∃ x, x = xs[k] := ⟨_, rfl⟩
      rw [← hx] at k0 k1
      have hfx := HF.out x (by rw [hx]; exact List.getElem_mem hkx)
      have HAt := Lib.hid (fun X => rattr_any x X hfx.1 hfx.2)
      have HO := Lib.hid (show okAt xs k = (mayA x && (decide (k = 0) || ltA (xs.getD (k - 1) ⟨[], []⟩) x)) by rw [okAt_at hkx, ← hx])
      have HX := Lib.hid hx
      clear hx hfx
      obtain ⟨m, hm⟩ : ∃ m, m = mayA x := ⟨_, rfl⟩
      rw [← hm] at HAt HO
      clear hm
      obtain ⟨xT, xV⟩ := x
      unfold At.val at HAt
      simp only at HAt k0 k1
      cases m
      · have hno := Lib.hid (show z = false by rw [HZ.out]; exact mayAs_no hkx (by rw [HO.out]; rfl))
        go_wp2
        have a0 := cell_regrown k0
        have a1 := cell_regrown k1
        refine wp_region_quiet_below (by kernel_rfl) (by kernel_rfl) ?_
        repeat (go_big_quiet_step ((first | (go_at_call 84; exact regM fun X _ => HAt.out X) | fail)))
        refine wpQuiet_nil ?_
        intro W1 hW1
        have HM1 := Lib.hid (HM.out.trans' (mod_of_regrown hW1))
        clear hW1 a0 a1
        have hzz := hno.out
        subst hzz
        go_wp2
        go_ret
        exact ⟨rfl, HM1.out⟩
      · obtain ⟨q0, hq0⟩ | ⟨j, rfl⟩ : (∃ q0 : Unit, k = 0) ∨ ∃ j, k = j + 1 := by
          cases k with
          | zero => exact .inl ⟨(), rfl⟩
          | succ j => exact .inr ⟨j, rfl⟩
        · subst hq0
          simp only [Nat.zero_mul, Nat.add_zero] at k0 k1
          have hyes := Lib.hid (show okAt xs 0 = true by rw [HO.out]; rfl)
          go_wp2
          have a0 := cell_regrown k0
          have a1 := cell_regrown k1
          refine wp_region_quiet_below (by kernel_rfl) (by kernel_rfl) ?_
          repeat (go_big_quiet_step ((first | (go_at_call 84; exact regM fun X _ => HAt.out X) | fail)))
          refine wpQuiet_nil ?_
          intro W1 hW1
          have HM1 := Lib.hid (HM.out.trans' (mod_of_regrown hW1))
          clear hW1 a0 a1
          go_wp2
          have hall : ∀ i, i < 1 → okAt xs i = true := fun i hi => by
            obtain rfl : i = 0 := by omega
            exact hyes.out
          exact ⟨⟨1, by omega, rfl, hall, HM1.out⟩, by simp only [intOf]; omega⟩
        · have hjx : j < xs.length := by omega
          obtain ⟨b', off', he, hbl', p0, p1⟩ := rd2 (HA.out _ HM.out) hjx
          injection he with he
          injection he with e1 e2
          subst e1 e2
          obtain ⟨y, hy⟩ : ∃ y, y = xs[j] := ⟨_, rfl⟩
          rw [← hy] at p0 p1
          have HO2 := Lib.hid (show okAt xs (j + 1) = ltA y ⟨xT, xV⟩ by
            rw [HO.out, Nat.add_sub_cancel, List.getD_eq_getElem?_getD, List.getElem?_eq_getElem hjx, Option.getD_some, ← hy]; simp)
          obtain ⟨yT, yV⟩ := y
          simp only at p0 p1
          have HC := Lib.hid (fun X => rless_any ⟨yT, yV⟩ ⟨xT, xV⟩ X)
          obtain ⟨lt, hlt2⟩ : ∃ lt, lt = ltA ⟨yT, yV⟩ ⟨xT, xV⟩ := ⟨_, rfl⟩
          unfold At.val at HC
          simp only at HC
          rw [← hlt2] at HC HO2
          clear hlt2 hy
          have hw1 : IntKind.i64.wrap (j : Int) = j := IntWalk.i64_in _ (by omega)
          go_wp2
          have a0 := cell_regrown k0
          have a1 := cell_regrown k1
          have b0 := cell_regrown p0
          have b1 := cell_regrown p1
          refine wp_region_quiet_below (by kernel_rfl) (by kernel_rfl) ?_
          repeat (go_big_quiet_step ((first | (go_at_call 84; exact regM fun X _ => HAt.out X) | (go_at_call 85; exact regM fun X _ => (HC.out X).mono fun _ _ ⟨he, hm⟩ => ⟨he, by rw [← hm]; (repeat' (first | exact Mod.refl _ _ | assumption | refine Mod.alloc ?_ _ | refine Mod.drew ?_ | refine Mod.drewN ?_ _ | refine Mod.setCell ?_ (by first | exact Or.inl rfl | (right; simp; done) | (right; simp; omega) | (left; simp; done)) _))⟩) | fail)))
          refine wpQuiet_nil ?_
          intro W1 hW1
          have HM1 := Lib.hid (HM.out.trans' (mod_of_regrown hW1))
          clear hW1 a0 a1 b0 b1
          cases lt
          · obtain rfl : z = false := by rw [HZ.out]; exact mayAs_no hkx HO2.out
            go_wp2
            go_ret
            exact ⟨rfl, HM1.out⟩
          · go_wp2
            have hall : ∀ i, i < j + 1 + 1 → okAt xs i = true := fun i hi => by
              rcases Nat.lt_or_ge i (j + 1) with h | h
              · exact HOk.out i h
              · obtain rfl : i = j + 1 := by omega
                exact HO2.out
            exact ⟨⟨j + 1 + 1, by omega, by go_num, hall, HM1.out⟩, by simp only [intOf]; omega⟩
    · obtain rfl : k = n := by omega
      have hz : z = decide (k ≤ 50) := by rw [HZ.out, HN.out]; exact mayAs_yes fun i hi => HOk.out i (by rw [HN.out]; exact hi)
      obtain rfl : z = true := by rw [hz, decide_eq_true_eq]; omega
      clear hz
      go_wp2
      go_ret
      exact ⟨rfl, HM.out⟩

theorem eql_at (x y : At) (w : World) : (binOp .eql 144 x.val y.val).run Tryz.prog w = .ok (.bool (decide (x = y))) w := by
  have u9 := Tryz.underlying9
  have a9 := Tryz.isAgg9
  have z9 := Tryz.sizeOf9
  have hS : Tryz.prog.underlying 144 = some (.struct (Tryz.prog.fieldsOf 144)) := by kernel_rfl
  have hp : Tryz.prog.stoodInHeld 144 = false := by kernel_rfl
  obtain ⟨xT, xV⟩ := x
  obtain ⟨yT, yV⟩ := y
  unfold At.val
  have he : decide ((⟨xT, xV⟩ : At) = ⟨yT, yV⟩) = (decide (xT = yT) && decide (xV = yV)) := by rw [Bool.eq_iff_iff]; simp
  rw [he, run_eql_struct, show (10000 : Nat) = 9999 + 1 from rfl, run_equalIn_agg w 9999 144 _ _ hS hp]
  simp only [Program.fieldsOf, Tryz.underlying144]
  by_cases h1 : xT = yT <;> by_cases h2 : xV = yV
  all_goals
    go_simp
    try simp [*]
theorem neq_at (x y : At) (w : World) : (binOp .neq 144 x.val y.val).run Tryz.prog w = .ok (.bool (!decide (x = y))) w := by
  have h := eql_at x y w
  unfold At.val at h ⊢
  rw [run_eql_struct] at h
  rw [run_neq_struct]
  generalize (Op.equalIn 10000 144 (.agg #[.string ⟨x.T.toArray⟩, .string ⟨x.V.toArray⟩]) (.agg #[.string ⟨y.T.toArray⟩, .string ⟨y.V.toArray⟩])).run Tryz.prog w = q at *
  cases q with
  | ok b w1 => simp only [Result.andThen_ok, Result.ok.injEq, Value.bool.injEq] at h ⊢; rw [h.1, h.2]; simp
  | halt x w1 => cases h
end Go.Proofs.YtmalclclopnlnaaGreat
