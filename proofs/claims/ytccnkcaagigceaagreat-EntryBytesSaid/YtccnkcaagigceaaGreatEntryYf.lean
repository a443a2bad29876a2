/-
  What an entry's bytes, and bytes as an entry, come to, in one form.
-/
import Derived.Test.YtccnkcaagigceaaGreatEntryYa
import Derived.Test.YtccnkcaagigceaaGreatEntryX
namespace Go.Proofs.YtccnkcaagigceaaGreat
open Go.RowKit Go.Shelf

/-- What is read from an entry's bytes. -/
theorem of_pack {nm : Bs} {xs : List At} (h : mayE nm xs = true) : ofE (packV nm xs) = some (nm, xs) := by
  unfold mayE at h
  rw [Bool.and_eq_true] at h
  exact ofE_pack h.1 h.2
theorem pack_same {a b : Bs} {xs ys : List At} (h1 : mayE a xs = true) (h2 : mayE b ys = true) : decide (packV a xs = packV b ys) = sameE a b xs ys := by
  unfold mayE at h1 h2
  rw [Bool.and_eq_true] at h1 h2
  unfold sameE
  rw [Bool.eq_iff_iff]
  simp only [decide_eq_true_eq, Bool.and_eq_true]
  constructor
  · intro h
    exact packV_inj h1.1 h1.2 h2.1 h2.2 h
  · rintro ⟨rfl, rfl⟩; rfl
theorem of_some {s nm : Bs} {l : List At} (h : ofE s = some (nm, l)) : s = packV nm l ∧ mayE nm l = true ∧ l.length ≤ 50 ∧ (∀ a ∈ l, FitA a) ∧ nm.length ≤ 1000 := by
  obtain ⟨h1, h2, h3⟩ := ofE_some h
  obtain ⟨h4, h5, _⟩ := (mayAs_iff l).1 h3
  refine ⟨h1, by unfold mayE; rw [h2, h3]; rfl, h4, fun a ha => ?_, by unfold mayNm at h2; simp at h2; exact h2.1⟩
  have := mayA_fits (h5 a ha)
  unfold FitA
  omega
/-- The bytes that Bytes answers, and its fault. -/
def bytX (nm : Bs) (xs : List At) : Bs := if mayE nm xs = true then packV nm xs else []
def bytF (nm : Bs) (xs : List At) : Nat := if mayE nm xs = true then 0 else 2
def BytU (nm : Bs) (xs : List At) (w : World) (e : Ending) (w' : World) : Prop :=
  ∃ A c k, e = .returned (.tuple #[.slice A k c, .int .i64 (bytF nm xs : Nat)]) ∧ k = (bytX nm xs).length ∧ Rd (fun b => b < w'.heap.size) w' 1 csU A (bytX nm xs) ∧ Mod (fun _ => False) w w'
theorem byt_uni {nm : Bs} {xs : List At} {w w' : World} {e : Ending} (h : BytEnds nm xs w e w') : BytU nm xs w e w' := by
  obtain ⟨h1, h2⟩ := h
  unfold BytU bytX bytF
  by_cases hm : mayE nm xs = true
  · rw [if_pos hm] at h1 ⊢
    rw [if_pos hm]
    obtain ⟨A, c, rfl, ho⟩ := h1
    exact ⟨A, c, _, rfl, rfl, (rd_of5 ho csU_len).mono fun b hb => (ho.fresh b hb).2, h2⟩
  · rw [if_neg hm] at h1 ⊢
    rw [if_neg hm]
    exact ⟨none, 0, 0, h1, rfl, Rd.nil _ _ _ _ _, h2⟩
theorem bytX_len (nm : Bs) (xs : List At) : (bytX nm xs).length ≤ 100000 := by
  unfold bytX
  split
  · rename_i h
    obtain ⟨h1, h2, _⟩ := mayE_fits h
    unfold packV
    rw [List.length_append, valV_len, valV_len]
    omega
  · simp
def OfU (s : Bs) (w : World) (e : Ending) (w' : World) : Prop :=
  ∃ (nm : Bs) (l : List At) (A : Option Addr) (c k f : Nat), e = .returned (.tuple #[.agg #[.string ⟨nm.toArray⟩, .slice A k c], .int .i64 (f : Int)]) ∧ k = l.length ∧ Rd (fun b => b < w'.heap.size) w' 2 At.cs A l ∧ (f = 0 → ofE s = some (nm, l)) ∧ (f ≠ 0 → f = 4 ∧ nm = [] ∧ l = []) ∧ Mod (fun _ => False) w w'
theorem of_uni {s : Bs} {w w' : World} {e : Ending} (h : OfEnds s w e w') : OfU s w e w' := by
  obtain ⟨h1, h2⟩ := h
  cases ho : ofE s with
  | none =>
    rw [ho] at h1
    exact ⟨[], [], none, 0, 0, 4, h1, rfl, Rd.nil _ _ _ _ _, fun h => (by cases h), fun _ => ⟨rfl, rfl, rfl⟩, h2⟩
  | some v =>
    obtain ⟨nm, l⟩ := v
    rw [ho] at h1
    obtain ⟨A, c, rfl, hown⟩ := h1
    exact ⟨nm, l, A, c, _, 0, rfl, rfl, (rd_of5 hown At.cs_len).mono fun b hb => (hown.fresh b hb).2, fun _ => ho, fun h => absurd rfl h, h2⟩
end Go.Proofs.YtccnkcaagigceaaGreat
