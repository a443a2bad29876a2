/-
  Plain theory of entries as bytes.
-/
import Derived.Test.YtccnkcaagigceaaGreatTlvP
import Derived.Test.YtccnkcaagigceaaGreatEntryP
namespace Go.Proofs.YtccnkcaagigceaaGreat

def attrI (a : At) : Bs := valV 1 a.T ++ valV 2 a.V
def attrV (a : At) : Bs := valV 3 (attrI a)
def attrsV (l : List At) : Bs := l.flatMap attrV
def packV (nm : Bs) (l : List At) : Bs := valV 1 nm ++ valV 2 (attrsV l)
def attrP (x : Bs) : Option At := match takeV 1 x with
  | some (t, r) => match takeV 2 r with
    | some (v, []) => some ⟨t, v⟩
    | _ => none
  | none => none
def attrsP : Nat → Bs → Option (List At)
  | 0, s => if s = [] then some [] else none
  | f + 1, s => if s = [] then some [] else match takeV 3 s with
    | some (x, r) => match attrP x with
      | some a => (attrsP f r).map (a :: ·)
      | none => none
    | none => none
def takeA (t : UInt8) (s : Bs) : Option (List At × Bs) := match takeV t s with
  | some (b, r) => match attrsP b.length b with
    | some l => if mayAs l then some (l, r) else none
    | none => none
  | none => none
def ofE (s : Bs) : Option (Bs × List At) := match takeV 1 s with
  | some (nm, r) => match takeA 2 r with
    | some (l, []) => if mayNm nm && mayAs l then some (nm, l) else none
    | _ => none
  | none => none
theorem attrI_len (a : At) : (attrI a).length = 10 + a.T.length + a.V.length := by unfold attrI; rw [List.length_append, valV_len, valV_len]; omega
theorem attrV_len (a : At) : (attrV a).length = 15 + a.T.length + a.V.length := by unfold attrV; rw [valV_len, attrI_len]; omega
theorem attrP_enc (a : At) (h1 : a.T.length ≤ 4194304) (h2 : a.V.length ≤ 4194304) : attrP (attrI a) = some a := by
  unfold attrP attrI
  rw [takeV_val (by decide) h1]
  have := takeV_val (t := 2) (b := a.V) (by decide) h2 []
  rw [List.append_nil] at this
  simp only
  rw [this]
theorem attrP_some {x : Bs} {a : At} (h : attrP x = some a) : x = attrI a := by
  unfold attrP at h
  cases h1 : takeV 1 x with
  | none => rw [h1] at h; cases h
  | some p =>
    obtain ⟨t, r⟩ := p
    rw [h1] at h
    simp only at h
    cases h2 : takeV 2 r with
    | none => rw [h2] at h; cases h
    | some q =>
      obtain ⟨v, r'⟩ := q
      rw [h2] at h
      cases r' with
      | nil =>
        simp only at h
        injection h with h
        subst h
        have e1 := (takeV_some h1).1
        have e2 := (takeV_some h2).1
        rw [List.append_nil] at e2
        rw [e1, e2]; rfl
      | cons y l => cases h
def Fits (a : At) : Prop := a.T.length + a.V.length ≤ 4194294
theorem attrsV_nil_iff (l : List At) : attrsV l = [] ↔ l = [] := by
  constructor
  · intro h
    cases l with
    | nil => rfl
    | cons a l =>
      have := congrArg List.length h
      unfold attrsV at this
      rw [List.flatMap_cons, List.length_append, attrV_len] at this
      simp at this
  · rintro rfl; rfl
theorem attrsP_enc : ∀ (l : List At) (f : Nat), (attrsV l).length ≤ f → (∀ a ∈ l, Fits a) → attrsP f (attrsV l) = some l
  | [], f, _, _ => by cases f <;> rfl
  | a :: l, 0, h, _ => by
    unfold attrsV at h
    rw [List.flatMap_cons, List.length_append, attrV_len] at h
    omega
  | a :: l, f + 1, h, hf => by
    have ha : a.T.length + a.V.length ≤ 4194294 := hf a (by simp)
    have hne : attrsV (a :: l) ≠ [] := fun e => by have := (attrsV_nil_iff _).1 e; cases this
    have hc : attrsV (a :: l) = valV 3 (attrI a) ++ attrsV l := rfl
    simp only [attrsP]
    rw [if_neg hne, hc, takeV_val (by decide) (by rw [attrI_len]; omega)]
    simp only
    rw [attrP_enc a (by omega) (by omega)]
    simp only
    rw [attrsP_enc l f (by rw [hc, List.length_append, valV_len] at h; omega) (fun b hb => hf b (by simp [hb]))]
    rfl
theorem attrsP_some : ∀ (f : Nat) (s : Bs) (l : List At), attrsP f s = some l → s = attrsV l
  | 0, s, l, h => by
    simp only [attrsP] at h
    split at h
    · rename_i e
      injection h with h; subst h; exact e
    · cases h
  | f + 1, s, l, h => by
    simp only [attrsP] at h
    split at h
    · rename_i e
      injection h with h; subst h; exact e
    · cases h1 : takeV 3 s with
      | none => rw [h1] at h; cases h
      | some p =>
        obtain ⟨x, r⟩ := p
        rw [h1] at h
        simp only at h
        cases h2 : attrP x with
        | none => rw [h2] at h; cases h
        | some a =>
          rw [h2] at h
          simp only at h
          cases h3 : attrsP f r with
          | none => rw [h3] at h; cases h
          | some l' =>
            rw [h3] at h
            injection h with h
            subst h
            rw [(takeV_some h1).1, attrP_some h2, attrsP_some f r l' h3]
            rfl
theorem takeA_enc (t : UInt8) (ht : t ≠ 0) (l : List At) (hl : mayAs l = true) (hb : (attrsV l).length ≤ 4194304) (hf : ∀ a ∈ l, Fits a) (s : Bs) : takeA t (valV t (attrsV l) ++ s) = some (l, s) := by
  unfold takeA
  rw [takeV_val ht hb]
  simp only
  rw [attrsP_enc l _ (Nat.le_refl _) hf]
  simp only
  rw [if_pos hl]
theorem takeA_some {t : UInt8} {s r : Bs} {l : List At} (h : takeA t s = some (l, r)) : s = valV t (attrsV l) ++ r ∧ mayAs l = true := by
  unfold takeA at h
  cases h1 : takeV t s with
  | none => rw [h1] at h; cases h
  | some p =>
    obtain ⟨b, r'⟩ := p
    rw [h1] at h
    simp only at h
    cases h2 : attrsP b.length b with
    | none => rw [h2] at h; cases h
    | some l' =>
      rw [h2] at h
      simp only at h
      split at h
      · rename_i hm
        injection h with h
        injection h with h3 h4
        subst h3 h4
        exact ⟨by rw [(takeV_some h1).1, ← attrsP_some _ _ _ h2], hm⟩
      · cases h
theorem mayA_fits {a : At} (h : mayA a = true) : a.T.length ≤ 32 ∧ a.V.length ≤ 1000 := by
  unfold mayA mayTy mayNm at h
  simp only [Bool.and_eq_true, decide_eq_true_eq] at h
  omega
theorem attrsV_len (l : List At) (h : ∀ a ∈ l, mayA a = true) : (attrsV l).length ≤ 1047 * l.length := by
  induction l with
  | nil => simp [attrsV]
  | cons a l ih =>
    have ha := mayA_fits (h a (by simp))
    have := ih fun b hb => h b (by simp [hb])
    unfold attrsV at this ⊢
    rw [List.flatMap_cons, List.length_append, attrV_len]
    simp only [List.length_cons]; omega
theorem ofE_pack {nm : Bs} {l : List At} (h1 : mayNm nm = true) (h2 : mayAs l = true) : ofE (packV nm l) = some (nm, l) := by
  obtain ⟨hl, hm, _⟩ := (mayAs_iff l).1 h2
  have hnl : nm.length ≤ 1000 := by unfold mayNm at h1; simp at h1; exact h1.1
  have hal := attrsV_len l hm
  unfold ofE packV
  rw [takeV_val (by decide) (by omega)]
  simp only
  have := takeA_enc 2 (by decide) l h2 (by omega) (fun a ha => by have := mayA_fits (hm a ha); unfold Fits; omega) []
  rw [List.append_nil] at this
  rw [this]
  simp only
  rw [h1, h2]; rfl
theorem ofE_some {s nm : Bs} {l : List At} (h : ofE s = some (nm, l)) : s = packV nm l ∧ mayNm nm = true ∧ mayAs l = true := by
  unfold ofE at h
  cases h1 : takeV 1 s with
  | none => rw [h1] at h; cases h
  | some p =>
    obtain ⟨n', r⟩ := p
    rw [h1] at h
    simp only at h
    cases h2 : takeA 2 r with
    | none => rw [h2] at h; cases h
    | some q =>
      obtain ⟨l', r'⟩ := q
      rw [h2] at h
      cases r' with
      | cons y z => cases h
      | nil =>
        simp only at h
        split at h
        · rename_i hm
          rw [Bool.and_eq_true] at hm
          injection h with h
          injection h with h3 h4
          subst h3 h4
          have e2 := (takeA_some h2).1
          rw [List.append_nil] at e2
          exact ⟨by rw [(takeV_some h1).1, e2]; rfl, hm⟩
        · cases h
theorem packV_inj {a b : Bs} {l m : List At} (h1 : mayNm a = true) (h2 : mayAs l = true) (h3 : mayNm b = true) (h4 : mayAs m = true) (h : packV a l = packV b m) : a = b ∧ l = m := by
  have e1 := ofE_pack h1 h2
  rw [h, ofE_pack h3 h4] at e1
  injection e1 with e1
  injection e1 with e2 e3
  exact ⟨e2.symm, e3.symm⟩
end Go.Proofs.YtccnkcaagigceaaGreat
