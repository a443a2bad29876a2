/-
  Plain theory of values as bytes: a tag, four bytes of a length, the bytes.
-/
import Derived.Test.YtccnkcaagigceaaGreatBs
namespace Go.Proofs.YtccnkcaagigceaaGreat

/-- The four bytes of a length. -/
def lenB (n : Nat) : Bs := [UInt8.ofNat (n / 16777216), UInt8.ofNat (n / 65536 % 256), UInt8.ofNat (n / 256 % 256), UInt8.ofNat (n % 256)]
def valV (t : UInt8) (b : Bs) : Bs := t :: lenB b.length ++ b
theorem valV_len (t : UInt8) (b : Bs) : (valV t b).length = 5 + b.length := by simp [valV, lenB]; omega
/-- What the four bytes say. -/
def numV : Bs → Nat
  | [a, b, c, d] => 16777216 * a.toNat + 65536 * b.toNat + 256 * c.toNat + d.toNat
  | _ => 0
theorem numV_lenB (n : Nat) (h : n < 4294967296) : numV (lenB n) = n := by
  simp only [lenB, numV, UInt8.toNat_ofNat']; omega
theorem lenB_numV (a b c d : UInt8) : lenB (numV [a, b, c, d]) = [a, b, c, d] := by
  have ha := a.toNat_lt
  have hb := b.toNat_lt
  have hc := c.toNat_lt
  have hd := d.toNat_lt
  simp only [lenB, numV]
  refine List.cons_eq_cons.2 ⟨?_, List.cons_eq_cons.2 ⟨?_, List.cons_eq_cons.2 ⟨?_, List.cons_eq_cons.2 ⟨?_, rfl⟩⟩⟩⟩
  all_goals
    apply UInt8.toNat_inj.1
    rw [UInt8.toNat_ofNat']
    omega
/-- The first value of bytes: its tag, its bytes, how many it takes. -/
def firstV : Bs → Option (UInt8 × Bs × Nat)
  | t :: a :: b :: c :: d :: s => if t = 0 then none else if 4194304 < numV [a, b, c, d] ∨ s.length < numV [a, b, c, d] then none else some (t, s.take (numV [a, b, c, d]), 5 + numV [a, b, c, d])
  | _ => none
theorem firstV_val {t : UInt8} {b : Bs} (ht : t ≠ 0) (hb : b.length ≤ 4194304) (s : Bs) : firstV (valV t b ++ s) = some (t, b, 5 + b.length) := by
  have h := numV_lenB b.length (by omega)
  simp only [lenB] at h
  simp only [valV, lenB, List.cons_append, List.nil_append, firstV]
  rw [if_neg ht, h, if_neg (by simp; omega), List.take_append_of_le_length (Nat.le_refl _), List.take_of_length_le (Nat.le_refl _)]
/-- A first value is made of its tag and its bytes, and is of not too many. -/
theorem firstV_some {s : Bs} {t : UInt8} {b : Bs} {n : Nat} (h : firstV s = some (t, b, n)) : t ≠ 0 ∧ n = 5 + b.length ∧ b.length ≤ 4194304 ∧ n ≤ s.length ∧ s = valV t b ++ s.drop n := by
  rcases s with _ | ⟨t0, _ | ⟨a, _ | ⟨b0, _ | ⟨c, _ | ⟨d, s⟩⟩⟩⟩⟩
  all_goals try (cases h; done)
  simp only [firstV] at h
  split at h
  · cases h
  · rename_i ht
    split at h
    · cases h
    · rename_i hn
      injection h with h
      injection h with h1 h
      injection h with h2 h3
      have hl : b.length = numV [a, b0, c, d] := by rw [← h2, List.length_take]; omega
      refine ⟨by rw [← h1]; exact ht, by omega, by omega, by simp; omega, ?_⟩
      subst h1
      unfold valV
      rw [hl, lenB_numV, ← h3]
      have h5 : (t0 :: a :: b0 :: c :: d :: s).drop (5 + numV [a, b0, c, d]) = s.drop (numV [a, b0, c, d]) := by
        rw [← List.drop_drop]; rfl
      rw [h5, ← h2]
      simp
/-- Taken off: the bytes of the first value, if it has that tag, and what is left. -/
def takeV (t : UInt8) (s : Bs) : Option (Bs × Bs) := match firstV s with
  | some (t', b, n) => if t' = t then some (b, s.drop n) else none
  | none => none
theorem takeV_val {t : UInt8} {b : Bs} (ht : t ≠ 0) (hb : b.length ≤ 4194304) (s : Bs) : takeV t (valV t b ++ s) = some (b, s) := by
  unfold takeV
  rw [firstV_val ht hb]
  simp only [if_true]
  rw [← valV_len t b, List.drop_left]
theorem takeV_some {t : UInt8} {s b r : Bs} (h : takeV t s = some (b, r)) : s = valV t b ++ r ∧ b.length ≤ 4194304 ∧ t ≠ 0 := by
  unfold takeV at h
  cases hf : firstV s with
  | none => rw [hf] at h; cases h
  | some p =>
    obtain ⟨t', b', n⟩ := p
    rw [hf] at h
    simp only at h
    split at h
    · rename_i e
      subst e
      obtain ⟨h1, h2, h3, h4, h5⟩ := firstV_some hf
      injection h with h
      injection h with h6 h7
      subst h6 h7
      exact ⟨h5, h3, h1⟩
    · cases h
/-- The values up to where none stands, and that place. -/
def allV : Nat → Bs → List (UInt8 × Bs) × Nat
  | 0, _ => ([], 0)
  | f + 1, s => match firstV s with
    | none => ([], 0)
    | some (t, b, n) => ((t, b) :: (allV f (s.drop n)).1, n + (allV f (s.drop n)).2)
theorem allV_more : ∀ (f g : Nat) (s : Bs), s.length ≤ f → s.length ≤ g → allV f s = allV g s
  | 0, 0, _, _, _ => rfl
  | 0, g + 1, s, h, _ => by
    have : s = [] := List.eq_nil_of_length_eq_zero (by omega)
    subst this; rfl
  | f + 1, 0, s, _, h => by
    have : s = [] := List.eq_nil_of_length_eq_zero (by omega)
    subst this; rfl
  | f + 1, g + 1, s, h1, h2 => by
    simp only [allV]
    cases hn : firstV s with
    | none => rfl
    | some p =>
      obtain ⟨t, b, n⟩ := p
      have := firstV_some hn
      simp only
      rw [allV_more f g (s.drop n) (by simp; omega) (by simp; omega)]
def itemsV (s : Bs) : List (UInt8 × Bs) := (allV s.length s).1
def endV (s : Bs) : Nat := (allV s.length s).2
theorem itemsV_none {s : Bs} (h : firstV s = none) : itemsV s = [] ∧ endV s = 0 := by
  unfold itemsV endV
  cases hl : s.length with
  | zero => exact ⟨rfl, rfl⟩
  | succ k => simp only [allV, h]; exact ⟨trivial, trivial⟩
theorem itemsV_some {s : Bs} {t : UInt8} {b : Bs} {n : Nat} (h : firstV s = some (t, b, n)) : itemsV s = (t, b) :: itemsV (s.drop n) ∧ endV s = n + endV (s.drop n) := by
  have hf := firstV_some h
  unfold itemsV endV
  obtain ⟨k, hk⟩ : ∃ k, s.length = k + 1 := ⟨s.length - 1, by omega⟩
  rw [hk]
  simp only [allV, h]
  rw [allV_more k (s.drop n).length (s.drop n) (by simp; omega) (Nat.le_refl _)]
  exact ⟨rfl, rfl⟩
/-- How many values bytes are; below 0: they are none's. -/
def manyV (s : Bs) : Int := if endV s = s.length then ((itemsV s).length : Int) else -1
theorem manyV_val {t : UInt8} {b : Bs} (ht : t ≠ 0) (hb : b.length ≤ 4194304) : manyV (valV t b) = 1 := by
  have h := firstV_val ht hb []
  rw [List.append_nil] at h
  obtain ⟨h1, h2⟩ := itemsV_some h
  have hd : (valV t b).drop (5 + b.length) = [] := by rw [← valV_len t b, List.drop_length]
  rw [hd] at h1 h2
  unfold manyV
  have e1 : itemsV ([] : Bs) = [] := rfl
  have e2 : endV ([] : Bs) = 0 := rfl
  rw [h1, h2, valV_len, e1, e2, if_pos (by omega)]
  rfl
/-- A writer: what stands there, and what is wrong (0: nothing). -/
structure Wt where
  b : Bs
  e : Nat
deriving DecidableEq
def Wt.bytes (w : Wt) (t : UInt8) (x : Bs) : Wt := if w.e ≠ 0 then w else if 4194304 < x.length then ⟨w.b, 3⟩ else if t = 0 then ⟨w.b, 2⟩ else ⟨w.b ++ valV t x, 0⟩
theorem Wt.bytes_ok (b : Bs) {t : UInt8} {x : Bs} (ht : t ≠ 0) (hx : x.length ≤ 4194304) : Wt.bytes ⟨b, 0⟩ t x = ⟨b ++ valV t x, 0⟩ := by
  unfold Wt.bytes
  rw [if_neg (by simp), if_neg (by omega), if_neg ht]
end Go.Proofs.YtccnkcaagigceaaGreat
