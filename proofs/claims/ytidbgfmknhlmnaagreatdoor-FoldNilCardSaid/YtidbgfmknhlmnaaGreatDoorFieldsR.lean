/-
  Plain theory of rows of code points.
-/
import Derived.Test.YtidbgfmknhlmnaaGreatDoorFieldsQ
import Derived.Test.YtidbgfmknhlmnaaGreatDoorFieldsA
import Derived.Laws.RangeAny
import Derived.Lib.FieldsP
namespace Go.Proofs.YtidbgfmknhlmnaaGreatDoor

/-- The pieces between blanks; cur: what stands of one. -/
def fldA (cur : Bs) : Bs → List Bs
  | [] => if cur = [] then [] else [cur]
  | b :: r => if blankB b = true then (if cur = [] then fldA [] r else cur :: fldA [] r) else fldA (cur ++ [b]) r
theorem fldA_skip : ∀ (xs : Bs) (cur r : Bs), (∀ b ∈ xs, blankB b = false) → fldA cur (xs ++ r) = fldA (cur ++ xs) r
  | [], cur, r, _ => by simp
  | b :: xs, cur, r, h => by
    have hb := h b (by simp)
    rw [List.cons_append, fldA, if_neg (by simp [hb]), fldA_skip xs _ r (fun x hx => h x (by simp [hx]))]
    simp
theorem fldA_ne : ∀ (r cur : Bs), cur ≠ [] → fldA cur r ≠ []
  | [], cur, h => by simp [fldA, h]
  | b :: r, cur, h => by
    unfold fldA
    split
    · first | (rw [if_neg h]; simp; done) | (simp; done)
    · exact fldA_ne r _ (by simp)
theorem fldA_len : ∀ (r cur : Bs), (∀ x ∈ fldA cur r, x.length ≤ cur.length + r.length) ∧ (fldA cur r).length ≤ r.length + 1
  | [], cur => by
    unfold fldA
    split <;> simp
  | b :: r, cur => by
    unfold fldA
    split
    · split
      · have h := fldA_len r []
        exact ⟨fun x hx => by have := h.1 x hx; simp at this ⊢; omega, by have := h.2; simp; omega⟩
      · have h := fldA_len r []
        refine ⟨fun x hx => ?_, by have := h.2; simp; omega⟩
        rcases List.mem_cons.1 hx with rfl | hx
        · simp
        · have := h.1 x hx; simp at this ⊢; omega
    · have h := fldA_len r (cur ++ [b])
      exact ⟨fun x hx => by have := h.1 x hx; simp at this ⊢; omega, by have := h.2; simp; omega⟩

/-! ### The library's pieces are these -/
theorem decode_wide (s : ByteArray) (pos : Nat) (h : pos < s.size) (ha : 128 ≤ (s[pos]'h).toNat) (j : Nat) (hj : j < (Utf8.decode s pos).2) : pos + j < s.size ∧ 128 ≤ (s.get! (pos + j)).toNat := by
  have h0 : s.get! (pos + 0) = s[pos]'h := get_at s pos h
  have hn : ¬ (s[pos]'h).toNat < 128 := by omega
  rcases Nat.eq_zero_or_pos j with rfl | hj0
  · rw [h0]; exact ⟨h, ha⟩
  · simp only [Utf8.decode, h0, hn, if_false] at hj
    have key : ∀ k, (decide (pos + k < s.size) && (s.get! (pos + k)).toNat / 64 == 2) = true → pos + k < s.size ∧ 128 ≤ (s.get! (pos + k)).toNat := fun k hk => by
      rw [Bool.and_eq_true, decide_eq_true_eq, beq_iff_eq] at hk
      omega
    split at hj
    · rename_i hc
      rw [Bool.and_eq_true] at hc
      split at hj
      · have : j = 1 := by simp at hj; omega
        subst this; exact key 1 hc.2
      · simp at hj; omega
    · split at hj
      · rename_i hc
        rw [Bool.and_eq_true, Bool.and_eq_true] at hc
        split at hj
        · have : j = 1 ∨ j = 2 := by simp at hj; omega
          rcases this with rfl | rfl
          · exact key 1 hc.1.2
          · exact key 2 hc.2
        · simp at hj; omega
      · split at hj
        · rename_i hc
          rw [Bool.and_eq_true, Bool.and_eq_true, Bool.and_eq_true] at hc
          split at hj
          · have : j = 1 ∨ j = 2 ∨ j = 3 := by simp at hj; omega
            rcases this with rfl | rfl | rfl
            · exact key 1 hc.1.1.2
            · exact key 2 hc.1.2
            · exact key 3 hc.2
          · simp at hj; omega
        · simp at hj; omega

def blankR (r : Nat) : Bool := r == 32 || r == 9 || r == 13
theorem blankR_byte (b : UInt8) : blankR b.toNat = blankB b := by
  have hk : ∀ n : Nat, n < 256 → (b == (UInt8.ofNat n)) = (b.toNat == n) := fun n hn => by
    rw [Bool.eq_iff_iff, beq_iff_eq, beq_iff_eq, ← UInt8.toNat_inj]
    have : (UInt8.ofNat n).toNat = n := by simp; omega
    rw [this]
  unfold blankR blankB
  rw [show (9 : UInt8) = UInt8.ofNat 9 from rfl, show (13 : UInt8) = UInt8.ofNat 13 from rfl, show (32 : UInt8) = UInt8.ofNat 32 from rfl, hk 9 (by decide), hk 13 (by decide), hk 32 (by decide)]
  cases (b.toNat == 32) <;> cases (b.toNat == 9) <;> cases (b.toNat == 13) <;> rfl
theorem blankR_high {r : Nat} (h : 128 ≤ r) : blankR r = false := by
  unfold blankR
  have : ∀ k, k < 128 → (r == k) = false := fun k hk => by rw [beq_eq_false_iff_ne]; omega
  rw [this 32 (by decide), this 9 (by decide), this 13 (by decide)]; rfl
theorem blankB_high {b : UInt8} (h : 128 ≤ b.toNat) : blankB b = false := by rw [← blankR_byte]; exact blankR_high h

def spanP (l : Bs) (x : Nat × Nat) : Bs := (l.drop x.1).take (x.2 - x.1)
def curP (l : Bs) (pos : Nat) : Option Nat → Bs | none => [] | some a => (l.take pos).drop a
theorem spans_fields (l : Bs) : ∀ (f pos : Nat) (st : Option Nat) (acc : List (Nat × Nat)), l.length - pos ≤ f → pos ≤ l.length → (∀ a, st = some a → a < pos) →
    (Lib.closeSpans ⟨l.toArray⟩ (Lib.spansFromP blankR ⟨l.toArray⟩ f pos st acc)).map (spanP l) = acc.map (spanP l) ++ fldA (curP l pos st) (l.drop pos) := by
  have hend : ∀ (st : Option Nat) (acc : List (Nat × Nat)), (∀ a, st = some a → a < l.length) → (Lib.closeSpans ⟨l.toArray⟩ (acc, st)).map (spanP l) = acc.map (spanP l) ++ fldA (curP l l.length st) (l.drop l.length) := by
    intro st acc hst
    rw [List.drop_length]
    cases st with
    | none => simp [Lib.closeSpans, curP, fldA]
    | some a =>
      have ha := hst a rfl
      have hcur : (l.take l.length).drop a ≠ [] := by
        rw [List.take_length]
        intro e
        have := congrArg List.length e
        simp at this; omega
      rw [List.take_length] at hcur
      simp only [Lib.closeSpans, curP, fldA, if_neg hcur, List.map_append, List.map_cons, List.map_nil, spanP, mk_size, List.take_length]
      rw [List.take_of_length_le (by simp)]
  intro f
  induction f with
  | zero =>
    intro pos st acc hf hp hst
    obtain rfl : pos = l.length := by omega
    exact hend st acc hst
  | succ f ih =>
    intro pos st acc hf hp hst
    by_cases hlt : pos < l.length
    · have hsz : pos < (⟨l.toArray⟩ : ByteArray).size := hlt
      have hget : (⟨l.toArray⟩ : ByteArray)[pos]'hsz = l[pos] := rfl
      unfold Lib.spansFromP
      rw [if_pos hsz]
      have hdrop : l.drop pos = l[pos] :: l.drop (pos + 1) := List.drop_eq_getElem_cons hlt
      by_cases hasc : l[pos].toNat < 128
      · rw [decode_ascii ⟨l.toArray⟩ pos hsz (by rw [hget]; exact hasc), hget]
        simp only [blankR_byte]
        have htake : l.take (pos + 1) = l.take pos ++ [l[pos]] := List.take_succ_eq_append_getElem hlt
        rw [hdrop, fldA]
        cases hb : blankB l[pos]
        · simp only [Bool.false_eq_true, if_false]
          cases st with
          | none =>
            rw [ih _ _ _ (by omega) (by omega) (fun a ha => by cases ha; omega)]
            simp only [curP, List.nil_append]
            rw [htake, List.drop_append_of_le_length (by simp; omega)]
            have : List.drop pos (List.take pos l) = [] := by simp
            rw [this]; rfl
          | some a =>
            have ha := hst a rfl
            rw [ih _ _ _ (by omega) (by omega) (fun a' ha' => by cases ha'; omega)]
            simp only [curP]
            rw [htake, List.drop_append_of_le_length (by simp; omega)]
        · simp only [if_true]
          cases st with
          | none =>
            rw [ih _ _ _ (by omega) (by omega) (fun a ha => by cases ha)]
            simp [curP]
          | some a =>
            have ha := hst a rfl
            rw [ih _ _ _ (by omega) (by omega) (fun a ha => by cases ha)]
            have hcur : curP l pos (some a) ≠ [] := by
              intro e
              have := congrArg List.length e
              simp [curP] at this; omega
            rw [if_neg hcur]
            simp only [List.map_append, List.map_cons, List.map_nil, List.append_assoc, List.cons_append, List.nil_append, spanP]
            simp only [curP, List.drop_take]
      · have hh := decode_high ⟨l.toArray⟩ pos hsz (by rw [hget]; omega)
        have hw := decode_wide ⟨l.toArray⟩ pos hsz (by rw [hget]; omega)
        generalize (Utf8.decode ⟨l.toArray⟩ pos).1 = r at *
        generalize (Utf8.decode ⟨l.toArray⟩ pos).2 = wd at *
        rw [blankR_high hh.1]
        simp only [Bool.false_eq_true, if_false]
        have hwl : pos + wd ≤ l.length := by
          have := (hw (wd - 1) (by omega)).1
          have e : (⟨l.toArray⟩ : ByteArray).size = l.length := rfl
          omega
        have hsplit : l.drop pos = (l.drop pos).take wd ++ l.drop (pos + wd) := by
          rw [← List.drop_drop, List.take_append_drop]
        have hnb : ∀ b ∈ (l.drop pos).take wd, blankB b = false := by
          intro b hb
          obtain ⟨j, hj, rfl⟩ := List.getElem_of_mem hb
          have hjw : j < wd := by simp at hj; omega
          have h2 := (hw j hjw).2
          have hjl : pos + j < l.length := by omega
          have hg : (⟨l.toArray⟩ : ByteArray).get! (pos + j) = l[pos + j] := get_at ⟨l.toArray⟩ (pos + j) hjl
          rw [hg] at h2
          simp only [List.getElem_take, List.getElem_drop]
          exact blankB_high h2
        have htk : l.take (pos + wd) = l.take pos ++ (l.drop pos).take wd := by rw [List.take_add]
        rw [hsplit, fldA_skip _ _ _ hnb]
        cases st with
        | none =>
          rw [ih _ _ _ (by omega) hwl (fun a ha => by cases ha; omega)]
          simp only [curP, List.nil_append]
          rw [htk, List.drop_append_of_le_length (by simp; omega)]
          have : List.drop pos (List.take pos l) = [] := by simp
          rw [this]; rfl
        | some a =>
          have ha := hst a rfl
          rw [ih _ _ _ (by omega) hwl (fun a' ha' => by cases ha'; omega)]
          simp only [curP]
          rw [htk, List.drop_append_of_le_length (by simp; omega)]
    · obtain rfl : pos = l.length := by omega
      rw [Lib.spansFromP_end _ _ _ _ _ _ (by rw [mk_size]; omega)]
      exact hend st acc hst
theorem goFields_eq (l : Bs) : Lib.goFieldsP blankR ⟨l.toArray⟩ = (fldA [] l).map fun x => (⟨x.toArray⟩ : ByteArray) := by
  have h := spans_fields l l.length 0 none [] (by omega) (Nat.zero_le _) (fun a ha => by cases ha)
  simp only [List.map_nil, List.nil_append, curP, List.drop_zero] at h
  unfold Lib.goFieldsP Lib.spansOfP
  rw [← h, List.map_map]
  refine List.map_congr_left fun x _ => ?_
  rw [mk_ext]; rfl

/-! ### Rows -/
def rowP (ns : List Nat) : List Bs → Option (List Nat)
  | [] => some ns
  | x :: r => match codeOf x with | none => none | some n => rowP (ns ++ [n]) r
def rowA (ns : List Nat) (cur : Bs) : Bs → Option (List Nat)
  | [] => if cur = [] then some ns else (match codeOf cur with | none => none | some n => some (ns ++ [n]))
  | b :: r => if blankB b = true then (if cur = [] then rowA ns [] r else (match codeOf cur with | none => none | some n => rowA (ns ++ [n]) [] r)) else rowA ns (cur ++ [b]) r
theorem rowA_P : ∀ (r cur : Bs) (ns : List Nat), rowA ns cur r = rowP ns (fldA cur r)
  | [], cur, ns => by
    unfold rowA fldA
    split
    · rfl
    · unfold rowP; cases codeOf cur <;> rfl
  | b :: r, cur, ns => by
    unfold rowA fldA
    split
    · split
      · exact rowA_P r [] ns
      · rw [rowP]
        cases codeOf cur with
        | none => rfl
        | some n => exact rowA_P r [] _
    · exact rowA_P r _ ns
theorem rowP_len : ∀ (xs : List Bs) (ns ms : List Nat), rowP ns xs = some ms → ms.length = ns.length + xs.length
  | [], ns, ms, h => by injection h with h; simp [h]
  | x :: r, ns, ms, h => by
    rw [rowP] at h
    cases hc : codeOf x with
    | none => rw [hc] at h; cases h
    | some n =>
      rw [hc] at h
      have := rowP_len r _ ms h
      simp at this ⊢; omega
/-- What a text tells: a row, or none. -/
def rowOf (l : Bs) : Option (List Nat) := if l = [] ∨ trimB l ≠ l then none else rowA [] [] l
theorem trimB_id {l : Bs} (h : l ≠ []) : trimB l = l ↔ (∃ b r, l = b :: r ∧ blankB b = false) ∧ (∃ r b, l = r ++ [b] ∧ blankB b = false) := by
  constructor
  · intro ht
    cases l with
    | nil => exact absurd rfl h
    | cons b r =>
      cases hb : blankB b with
      | true =>
        have h1 := trimL_hit r hb
        have h2 : (trimB (b :: r)).length ≤ r.length := by
          unfold trimB
          rw [h1]
          exact Nat.le_trans (trimR_le _) (trimL_le _)
        rw [ht] at h2
        simp at h2; omega
      | false =>
        refine ⟨⟨b, r, rfl, hb⟩, ?_⟩
        rcases List.eq_nil_or_concat (b :: r) with h0 | ⟨t, c, hc⟩
        · cases h0
        · rw [List.concat_eq_append] at hc
          refine ⟨t, c, hc, ?_⟩
          cases hcb : blankB c with
          | false => rfl
          | true =>
            have h1 := trimL_miss r hb
            unfold trimB at ht
            rw [h1, hc, trimR_hit t hcb] at ht
            have := trimR_le t
            rw [ht] at this
            simp at this; omega
  · rintro ⟨⟨b, r, rfl, hb⟩, ⟨t, c, hc, hcb⟩⟩
    unfold trimB
    rw [trimL_miss r hb, hc, trimR_miss t hcb]
theorem rowOf_P (l : Bs) : rowOf l = if (match rowP [] (fldA [] l) with | none => true | some ns => ns.isEmpty) = true ∨ trimB l ≠ l then none else rowP [] (fldA [] l) := by
  unfold rowOf
  rw [rowA_P]
  by_cases h0 : l = []
  · subst h0; simp [fldA, rowP]
  · by_cases ht : trimB l = l
    · obtain ⟨⟨b, r, rfl, hb⟩, -⟩ := (trimB_id h0).1 ht
      have hne : fldA [] (b :: r) ≠ [] := by
        rw [fldA, if_neg (by simp [hb])]
        exact fldA_ne r _ (by simp)
      rw [if_neg (by simp [ht])]
      cases hr : rowP [] (fldA [] (b :: r)) with
      | none => simp
      | some ns =>
        have := rowP_len _ _ _ hr
        have h2 : 0 < (fldA [] (b :: r)).length := List.length_pos_iff.2 hne
        have h3 : ns.isEmpty = false := by cases ns <;> simp_all
        simp [h3, ht]
    · rw [if_pos (.inr ht), if_pos (.inr ht)]
end Go.Proofs.YtidbgfmknhlmnaaGreatDoor
