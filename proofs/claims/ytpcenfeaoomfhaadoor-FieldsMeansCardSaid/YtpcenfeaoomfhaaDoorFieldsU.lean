/-
  Plain theory: texts are read as what they were; comments change no lines.
-/
import Derived.Test.YtpcenfeaoomfhaaDoorFieldsR
namespace Go.Proofs.YtpcenfeaoomfhaaDoor

/-! ### A code point's text is read -/
theorem hexV_hexB : ∀ d : Nat, d < 16 → hexV (hexB d) = some d := by
  intro d hd
  have : ∀ i : Fin 16, hexV (hexB i.val) = some i.val := by decide
  exact this ⟨d, hd⟩
theorem blank_hexB : ∀ d : Nat, d < 16 → blankB (hexB d) = false := by
  intro d hd
  have : ∀ i : Fin 16, blankB (hexB i.val) = false := by decide
  exact this ⟨d, hd⟩
theorem codeF_ctW (n : Nat) : ∀ (k m : Nat), codeF m (ctW n k) = some (m * 16 ^ k + n % 16 ^ k)
  | 0, m => by simp [ctW, codeF, Nat.mod_one]
  | k + 1, m => by
    rw [ctW, codeF, hexV_hexB _ (Nat.mod_lt _ (by decide))]
    show codeF _ (ctW n k) = _
    rw [codeF_ctW n k]
    congr 1
    rw [Nat.mod_pow_succ, Nat.pow_succ]
    generalize 16 ^ k = p
    generalize n / p % 16 = d
    generalize n % p = q
    rw [Nat.add_mul, Nat.mul_comm 16 m, Nat.mul_assoc m 16 p, Nat.mul_comm 16 p, Nat.mul_comm d p]
    omega
theorem codeOf_ctext (n : Nat) (h : n ≤ 1114111) : codeOf (ctext n) = some n := by
  have e5 : (16 : Nat) ^ 4 = 65536 := by decide
  have e6 : (16 : Nat) ^ 5 = 1048576 := by decide
  have e7 : (16 : Nat) ^ 6 = 16777216 := by decide
  rw [ctext_nat h, ctN_eq n h]
  have hk : n % 16 ^ ctK n = n ∧ 4 ≤ ctK n := by
    unfold ctK
    by_cases h4 : n < 65536
    · rw [if_pos h4, e5]; omega
    · rw [if_neg h4]
      by_cases h5 : n < 1048576
      · rw [if_pos h5, e6]; omega
      · rw [if_neg h5, e7]; omega
  refine codeOf_some ?_ ?_ h
  · rw [ctW_len]; have := ctK_le n; omega
  · rw [codeF_ctW, hk.1]; simp
theorem codeOf_ctext_bad (r : Int) (h : r < 0 ∨ 1114111 < r) : codeOf (ctext r) = none := by rw [ctext_bad h]; rfl
theorem ctW_blank (n k : Nat) : ∀ b ∈ ctW n k, blankB b = false := by
  induction k with
  | zero => simp [ctW]
  | succ k ih =>
    intro b hb
    rw [ctW] at hb
    rcases List.mem_cons.1 hb with rfl | hb
    · exact blank_hexB _ (Nat.mod_lt _ (by decide))
    · exact ih b hb
theorem ctext_word (n : Nat) (h : n ≤ 1114111) : ctext n ≠ [] ∧ ∀ b ∈ ctext n, blankB b = false := by
  rw [ctext_nat h, ctN_eq n h]
  refine ⟨fun e => ?_, ctW_blank _ _⟩
  have := congrArg List.length e
  rw [ctW_len] at this
  unfold ctK at this
  split at this
  · simp at this
  · split at this <;> simp at this

/-! ### A row's text is read -/
theorem fldA_joinTail : ∀ (r : List Bs) (y : Bs), y ≠ [] → (∀ x ∈ r, x ≠ [] ∧ ∀ b ∈ x, blankB b = false) → fldA y (Lib.joinTail [32] r) = y :: r
  | [], y, hy, _ => by simp [Lib.joinTail, fldA, hy]
  | x :: r, y, hy, h => by
    obtain ⟨hx1, hx2⟩ := h x (by simp)
    have e : Lib.joinTail [32] (x :: r) = 32 :: (x ++ Lib.joinTail [32] r) := by simp [Lib.joinTail]
    rw [e, fldA, if_pos (by decide), if_neg hy, fldA_skip x [] _ hx2, List.nil_append, fldA_joinTail r x hx1 (fun z hz => h z (by simp [hz]))]
theorem fldA_join (x : Bs) (r : List Bs) (h : ∀ z ∈ x :: r, z ≠ [] ∧ ∀ b ∈ z, blankB b = false) : fldA [] (Lib.join (x :: r) [32]) = x :: r := by
  obtain ⟨hx1, hx2⟩ := h x (by simp)
  rw [Lib.join_cons, fldA_skip x [] _ hx2, List.nil_append, fldA_joinTail r x hx1 (fun z hz => h z (by simp [hz]))]
theorem rowP_codes : ∀ (ns ms : List Nat), (∀ n ∈ ns, n ≤ 1114111) → rowP ms (ns.map fun n : Nat => ctext (n : Int)) = some (ms ++ ns)
  | [], ms, _ => by simp [rowP]
  | n :: r, ms, h => by
    rw [List.map_cons, rowP, codeOf_ctext n (h n (by simp))]
    show rowP (ms ++ [n]) _ = _
    rw [rowP_codes r _ (fun x hx => h x (by simp [hx]))]
    simp
theorem rowOf_rtext (ns : List Nat) (h0 : ns ≠ []) (h : ∀ n ∈ ns, n ≤ 1114111) : rowOf (rtext (ns.map fun n : Nat => (n : Int))) = some ns := by
  obtain ⟨n, r, rfl⟩ : ∃ n r, ns = n :: r := by cases ns with | nil => exact absurd rfl h0 | cons n r => exact ⟨n, r, rfl⟩
  have hw : ∀ z ∈ (n :: r).map (fun n : Nat => ctext (n : Int)), z ≠ [] ∧ ∀ b ∈ z, blankB b = false := by
    intro z hz
    obtain ⟨m, hm, rfl⟩ := List.mem_map.1 hz
    exact ctext_word m (h m hm)
  have hmap : ((n :: r).map fun n : Nat => (n : Int)).map ctext = (n :: r).map fun n : Nat => ctext (n : Int) := by rw [List.map_map]; rfl
  unfold rtext
  rw [hmap]
  have hf : fldA [] (Lib.join ((n :: r).map fun n : Nat => ctext (n : Int)) [32]) = (n :: r).map fun n : Nat => ctext (n : Int) := by
    rw [List.map_cons] at hw ⊢
    exact fldA_join _ _ hw
  have hp := rowP_codes (n :: r) [] h
  rw [List.nil_append] at hp
  rw [rowOf_P, hf, hp]
  have ht : trimB (Lib.join ((n :: r).map fun n : Nat => ctext (n : Int)) [32]) = Lib.join ((n :: r).map fun n : Nat => ctext (n : Int)) [32] := by
    obtain ⟨hx1, hx2⟩ := ctext_word n (h n (by simp))
    have hne : Lib.join ((n :: r).map fun n : Nat => ctext (n : Int)) [32] ≠ [] := by
      rw [List.map_cons, Lib.join_cons]
      simp [hx1]
    refine (trimB_id hne).2 ⟨?_, ?_⟩
    · obtain ⟨b, t, e⟩ : ∃ b t, ctext (n : Int) = b :: t := by cases hc : ctext (n : Int) with | nil => exact absurd hc hx1 | cons b t => exact ⟨b, t, rfl⟩
      rw [List.map_cons, Lib.join_cons, e]
      exact ⟨b, _, rfl, hx2 b (by rw [e]; simp)⟩
    · rcases List.eq_nil_or_concat (n :: r) with h1 | ⟨ys, z, hz⟩
      · cases h1
      · rw [List.concat_eq_append] at hz
        obtain ⟨hz1, hz2⟩ := ctext_word z (h z (by rw [hz]; simp))
        rcases List.eq_nil_or_concat (ctext (z : Int)) with h1 | ⟨t, b, hb⟩
        · exact absurd h1 hz1
        · rw [List.concat_eq_append] at hb
          rw [hz, List.map_append, List.map_cons, List.map_nil]
          by_cases hys : ys = []
          · subst hys
            rw [List.map_nil, List.nil_append, Lib.join_one, hb]
            exact ⟨t, b, rfl, hz2 b (by rw [hb]; simp)⟩
          · rw [join_snoc _ _ _ (by simpa using hys), hb, ← List.append_assoc]
            exact ⟨_, b, rfl, hz2 b (by rw [hb]; simp)⟩
  exact if_neg (by
    rintro (h1 | h1)
    · simp at h1
    · exact h1 ht)

/-! ### Two texts, one behind the other -/
theorem split_two (c : UInt8) : ∀ (x y : Bs), splitC c (x ++ c :: y) = splitC c x ++ splitC c y
  | [], y => by simp [splitC]
  | b :: r, y => by
    have ih := split_two c r y
    rw [List.cons_append, splitC, splitC]
    by_cases hb : b = c
    · rw [if_pos hb, if_pos hb, ih]; rfl
    · rw [if_neg hb, if_neg hb, ih]
      cases hs : splitC c r with
      | nil => exact absurd hs (splitC_ne c r)
      | cons z zs => rfl
def lastApp (d : UInt8) : List Bs → List Bs
  | [] => []
  | [x] => [x ++ [d]]
  | x :: y :: r => x :: lastApp d (y :: r)
theorem split_last {c d : UInt8} (hd : d ≠ c) : ∀ x : Bs, splitC c (x ++ [d]) = lastApp d (splitC c x)
  | [] => by simp [splitC, lastApp, hd]
  | b :: r => by
    have ih := split_last hd r
    rw [List.cons_append, splitC, splitC, ih]
    by_cases hb : b = c
    · rw [if_pos hb, if_pos hb]
      cases hs : splitC c r with
      | nil => exact absurd hs (splitC_ne c r)
      | cons z zs => rfl
    · rw [if_neg hb, if_neg hb]
      cases hs : splitC c r with
      | nil => exact absurd hs (splitC_ne c r)
      | cons z zs =>
        cases zs with
        | nil => simp [lastApp]
        | cons q qs => simp [lastApp]
theorem trimB_blank (x : Bs) {d : UInt8} (h : blankB d = true) : trimB (x ++ [d]) = trimB x := by
  unfold trimB
  rw [← trim_comm, ← trim_comm, trimR_hit x h]
theorem upC_app {c : UInt8} : ∀ {x : Bs}, c ∈ x → ∀ y, upC c (x ++ y) = upC c x
  | [], h, _ => by simp at h
  | b :: r, h, y => by
    unfold upC
    by_cases hb : b = c
    · subst hb; simp [List.takeWhile_cons]
    · have hr : c ∈ r := by rcases List.mem_cons.1 h with h | h; exact absurd h.symm hb; exact h
      have ih := upC_app hr y
      unfold upC at ih
      simp only [List.cons_append, List.takeWhile_cons, bne_iff_ne, ne_eq, hb, not_false_eq_true, if_true]
      rw [ih]
theorem lineOf_blank (x : Bs) : lineOf (x ++ [32]) = lineOf x := by
  have h : trimB (upC 35 (x ++ [32])) = trimB (upC 35 x) := by
    by_cases hx : (35 : UInt8) ∈ x
    · have : upC 35 (x ++ [32]) = upC 35 x := upC_app hx _
      rw [this]
    · have h2 : (35 : UInt8) ∉ x ++ [32] := by simp [hx]
      rw [(upC_miss hx).1, (upC_miss h2).1]
      exact trimB_blank x rfl
  unfold lineOf
  rw [h]
theorem linesL_last : ∀ (n : Nat) (xs : List Bs), linesL n (lastApp 32 xs) = linesL n xs
  | _, [] => rfl
  | n, [x] => by simp only [lastApp, linesL, lineOf_blank]
  | n, x :: y :: r => by
    have ih := linesL_last (n + 1) (y :: r)
    rw [lastApp]
    show (match lineOf x with | none => linesL (n + 1) (lastApp 32 (y :: r)) | some f => (n + 1, f) :: linesL (n + 1) (lastApp 32 (y :: r))) = (match lineOf x with | none => linesL (n + 1) (y :: r) | some f => (n + 1, f) :: linesL (n + 1) (y :: r))
    rw [ih]
theorem linesL_num : ∀ (n : Nat) (xs : List Bs), ∀ z ∈ linesL n xs, z.1 ≤ n + xs.length
  | _, [], z, hz => by simp [linesL] at hz
  | n, x :: r, z, hz => by
    have ih := linesL_num (n + 1) r
    simp only [linesL] at hz
    cases ho : lineOf x with
    | none => rw [ho] at hz; have := ih z hz; simp; omega
    | some f =>
      rw [ho] at hz
      rcases List.mem_cons.1 hz with rfl | hz
      · simp
      · have := ih z hz; simp; omega
theorem linesT_num (l : Bs) : ∀ z ∈ linesT l, z.1 ≤ l.length + 1 := fun z hz => by
  have h1 := linesL_num 0 _ z hz
  have h2 := splitC_len 10 l
  omega
def shiftL (k : Nat) (xs : List (Nat × List Bs)) : List (Nat × List Bs) := xs.map fun x => (x.1 + k, x.2)
theorem linesL_shift (k : Nat) : ∀ (n : Nat) (xs : List Bs), linesL (n + k) xs = shiftL k (linesL n xs)
  | _, [] => rfl
  | n, x :: r => by
    have ih := linesL_shift k (n + 1) r
    rw [show n + 1 + k = n + k + 1 by omega] at ih
    simp only [linesL]
    cases lineOf x with
    | none => exact ih
    | some f =>
      simp only [shiftL, List.map_cons] at ih ⊢
      rw [ih, show n + k + 1 = n + 1 + k by omega]
theorem splitC_count (c : UInt8) : ∀ x : Bs, (splitC c x).length = x.count c + 1
  | [] => by simp [splitC]
  | b :: r => by
    have ih := splitC_count c r
    rw [splitC]
    by_cases hb : b = c
    · subst hb
      rw [if_pos rfl, List.length_cons, ih, List.count_cons_self]
    · rw [if_neg hb, List.count_cons_of_ne hb]
      cases hs : splitC c r with
      | nil => exact absurd hs (splitC_ne c r)
      | cons z zs => rw [hs] at ih; simpa using ih
theorem lines_two (a b cm : Bs) (hc : (10 : UInt8) ∉ cm) : linesT (a ++ [32, 10, 35, 32] ++ cm ++ [10] ++ b) = linesT a ++ shiftL (a.count 10 + 2) (linesT b) := by
  have e : a ++ [32, 10, 35, 32] ++ cm ++ [10] ++ b = (a ++ [32]) ++ 10 :: ((35 :: 32 :: cm) ++ 10 :: b) := by simp
  have hcm : (10 : UInt8) ∉ (35 :: 32 :: cm : Bs) := by simp [hc]
  unfold linesT
  rw [e, split_two, split_two, split_last (by decide), splitC_miss hcm, linesL_append, linesL_last, linesL_append]
  have hlen : (lastApp 32 (splitC 10 a)).length = (splitC 10 a).length := by
    generalize splitC 10 a = xs
    induction xs with
    | nil => rfl
    | cons x r ih =>
      cases r with
      | nil => rfl
      | cons y t =>
        show (lastApp 32 (y :: t)).length + 1 = (y :: t).length + 1
        rw [ih]
  have h1 : linesL (0 + (lastApp 32 (splitC 10 a)).length) [35 :: 32 :: cm] = [] := by
    refine linesL_one_none _ ?_
    simp [upC, trimB, trimL, trimR]
  rw [h1, hlen, splitC_count, List.nil_append]
  congr 1
  have := linesL_shift (a.count 10 + 2) 0 (splitC 10 b)
  rw [← this]
  congr 1
end Go.Proofs.YtpcenfeaoomfhaaDoor
