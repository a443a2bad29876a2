/-
  Texts of this claim, one behind the other: EntryP, EntryA.
-/
import Derived.Test.YtmalclclopnlnaaGreatPk01
import Derived.Test.YtmalclclopnlnaaGreatPk04
import Derived.Test.YtmalclclopnlnaaGreatPk07
import Derived.Lib.Bytealg
import Derived.Test.YtmalclclopnlnaaGreatEnShelf
/-
  Plain theory of attributes: their order, sorted lists, changes.
-/
namespace Go.Proofs.YtmalclclopnlnaaGreat

abbrev cmpB := Lib.compareBytes
theorem cmpB_range : ∀ (a b : Bs), cmpB a b = -1 ∨ cmpB a b = 0 ∨ cmpB a b = 1
  | [], [] => .inr (.inl rfl)
  | [], _ :: _ => .inl rfl
  | _ :: _, [] => .inr (.inr rfl)
  | a :: p, b :: q => by
    simp only [cmpB, Lib.compareBytes]
    split
    · exact .inl rfl
    · split
      · exact .inr (.inr rfl)
      · exact cmpB_range p q
theorem u8_tri (a b : UInt8) : a < b ∨ a = b ∨ b < a := by
  rcases Nat.lt_trichotomy a.toNat b.toNat with h | h | h
  · exact .inl (UInt8.lt_iff_toNat_lt.2 h)
  · exact .inr (.inl (UInt8.toNat_inj.1 h))
  · exact .inr (.inr (UInt8.lt_iff_toNat_lt.2 h))
theorem u8_asymm {a b : UInt8} (h : a < b) : ¬ b < a := by
  rw [UInt8.lt_iff_toNat_lt] at h ⊢; omega
theorem u8_irr (a : UInt8) : ¬ a < a := by rw [UInt8.lt_iff_toNat_lt]; omega
theorem cmpB_self : ∀ a : Bs, cmpB a a = 0
  | [] => rfl
  | a :: p => by simp only [cmpB, Lib.compareBytes, u8_irr, if_false]; exact cmpB_self p
theorem cmpB_zero : ∀ {a b : Bs}, cmpB a b = 0 → a = b
  | [], [], _ => rfl
  | [], _ :: _, h => by cases h
  | _ :: _, [], h => by cases h
  | a :: p, b :: q, h => by
    simp only [cmpB, Lib.compareBytes] at h
    split at h
    · cases h
    · split at h
      · cases h
      · rcases u8_tri a b with h1 | rfl | h1
        · contradiction
        · rw [cmpB_zero h]
        · contradiction
theorem cmpB_anti : ∀ (a b : Bs), cmpB b a = -cmpB a b
  | [], [] => rfl
  | [], _ :: _ => rfl
  | _ :: _, [] => rfl
  | a :: p, b :: q => by
    simp only [cmpB, Lib.compareBytes]
    rcases u8_tri a b with h | rfl | h
    · rw [if_pos h, if_neg (u8_asymm h), if_pos h]; rfl
    · simp only [u8_irr, if_false]; exact cmpB_anti p q
    · rw [if_pos h, if_neg (u8_asymm h), if_pos h]
theorem cmpB_trans : ∀ {a b c : Bs}, cmpB a b = -1 → cmpB b c = -1 → cmpB a c = -1
  | [], [], _, h, _ => by cases h
  | [], _ :: _, [], _, h => by cases h
  | [], _ :: _, _ :: _, _, _ => rfl
  | _ :: _, [], _, h, _ => by cases h
  | _ :: _, _ :: _, [], _, h => by cases h
  | a :: p, b :: q, c :: t, h1, h2 => by
    simp only [cmpB, Lib.compareBytes] at h1 h2 ⊢
    rcases u8_tri a b with h | rfl | h
    · rcases u8_tri b c with k | rfl | k
      · rw [if_pos (by rw [UInt8.lt_iff_toNat_lt] at *; omega)]
      · rw [if_pos h]
      · rw [if_neg (u8_asymm k), if_pos k] at h2; cases h2
    · rcases u8_tri a c with k | rfl | k
      · rw [if_pos k]
      · simp only [u8_irr, if_false] at h1 h2 ⊢; exact cmpB_trans h1 h2
      · rw [if_neg (u8_asymm k), if_pos k] at h2; cases h2
    · rw [if_neg (u8_asymm h), if_pos h] at h1; cases h1
theorem lessB : ∀ (a b : Bs), Op.bytesLess a b = decide (cmpB a b = -1)
  | [], [] => rfl
  | [], _ :: _ => rfl
  | _ :: _, [] => rfl
  | a :: p, b :: q => by
    simp only [Op.bytesLess, cmpB, Lib.compareBytes]
    rcases u8_tri a b with h | rfl | h
    · simp [h]
    · simp only [u8_irr, if_false, decide_false, Bool.false_or, BEq.rfl, Bool.true_and]; exact lessB p q
    · have : (a == b) = false := by
        rw [beq_eq_false_iff_ne]; rintro rfl; exact u8_irr _ h
      simp [h, u8_asymm h, this]

structure At where
  T : Bs
  V : Bs
deriving DecidableEq, Inhabited
def At.cs (a : At) : List Value := [.string ⟨a.T.toArray⟩, .string ⟨a.V.toArray⟩]
def At.val (a : At) : Value := .agg #[.string ⟨a.T.toArray⟩, .string ⟨a.V.toArray⟩]
theorem At.cs_len (a : At) : a.cs.length = 2 := rfl
theorem At.cs_one (a : At) : ∀ u ∈ a.cs, u.oneCell' = true := by simp [At.cs, Value.oneCell']
theorem At.ext' {a b : At} (h1 : a.T = b.T) (h2 : a.V = b.V) : a = b := by cases a; cases b; simp_all
def cmpA (a b : At) : Int := if cmpB a.T b.T = 0 then cmpB a.V b.V else cmpB a.T b.T
def ltA (a b : At) : Bool := decide (cmpA a b = -1)
theorem cmpA_range (a b : At) : cmpA a b = -1 ∨ cmpA a b = 0 ∨ cmpA a b = 1 := by
  unfold cmpA; split <;> exact cmpB_range _ _
theorem cmpA_self (a : At) : cmpA a a = 0 := by unfold cmpA; rw [if_pos (cmpB_self _)]; exact cmpB_self _
theorem cmpA_zero {a b : At} (h : cmpA a b = 0) : a = b := by
  unfold cmpA at h
  split at h
  · rename_i h1; exact At.ext' (cmpB_zero h1) (cmpB_zero h)
  · contradiction
theorem cmpA_anti (a b : At) : cmpA b a = -cmpA a b := by
  unfold cmpA
  rw [cmpB_anti a.T b.T, cmpB_anti a.V b.V]
  by_cases h : cmpB a.T b.T = 0
  · rw [if_pos (by omega), if_pos h]
  · rw [if_neg (by omega), if_neg h]
theorem cmpA_trans {a b c : At} (h1 : cmpA a b = -1) (h2 : cmpA b c = -1) : cmpA a c = -1 := by
  unfold cmpA at h1 h2 ⊢
  by_cases e1 : cmpB a.T b.T = 0
  · rw [if_pos e1] at h1
    rw [cmpB_zero e1]
    by_cases e2 : cmpB b.T c.T = 0
    · rw [if_pos e2] at h2 ⊢; exact cmpB_trans h1 h2
    · rw [if_neg e2] at h2 ⊢; exact h2
  · rw [if_neg e1] at h1
    by_cases e2 : cmpB b.T c.T = 0
    · rw [← cmpB_zero e2]; rw [if_neg e1]; exact h1
    · rw [if_neg e2] at h2
      have := cmpB_trans h1 h2
      rw [if_neg (by omega)]; exact this
theorem ltA_irr (a : At) : ltA a a = false := by unfold ltA; rw [cmpA_self]; rfl
theorem ltA_trans {a b c : At} (h1 : ltA a b = true) (h2 : ltA b c = true) : ltA a c = true := by
  unfold ltA at *; rw [decide_eq_true_eq] at *; exact cmpA_trans h1 h2
theorem ltA_tri (a b : At) : ltA a b = true ∨ a = b ∨ ltA b a = true := by
  unfold ltA
  rw [decide_eq_true_eq, decide_eq_true_eq, cmpA_anti a b]
  rcases cmpA_range a b with h | h | h
  · exact .inl h
  · exact .inr (.inl (cmpA_zero h))
  · exact .inr (.inr (by omega))
theorem ltA_asymm {a b : At} (h : ltA a b = true) : ltA b a = false := by
  cases h2 : ltA b a
  · rfl
  · have := ltA_trans h h2; rw [ltA_irr] at this; cases this
theorem ltA_less (a b : At) : ltA a b = (Op.bytesLess a.T b.T || (decide (a.T = b.T) && Op.bytesLess a.V b.V)) := by
  rw [lessB, lessB]
  unfold ltA cmpA
  by_cases h : a.T = b.T
  · rw [h, if_pos (cmpB_self _), cmpB_self]; simp
  · have h0 : cmpB a.T b.T ≠ 0 := fun e => h (cmpB_zero e)
    rw [if_neg h0]; simp [h]

/-! ### Rising lists -/
def Srt (l : List At) : Prop := l.Pairwise fun a b => ltA a b = true
def putA (a : At) : List At → List At
  | [] => [a]
  | b :: l => if ltA b a then b :: putA a l else if b = a then b :: l else a :: b :: l
theorem putA_mem (a : At) : ∀ (l : List At) (x : At), x ∈ putA a l ↔ x = a ∨ x ∈ l
  | [], x => by simp [putA]
  | b :: l, x => by
    simp only [putA]
    split
    · rw [List.mem_cons, putA_mem a l x, List.mem_cons]
      constructor
      · rintro (h | h | h) <;> simp [h]
      · rintro (h | h | h) <;> simp [h]
    · split
      · rename_i h; subst h; simp
      · simp
theorem putA_srt (a : At) : ∀ {l : List At}, Srt l → Srt (putA a l)
  | [], _ => by simp [putA, Srt]
  | b :: l, h => by
    have hb := List.pairwise_cons.1 h
    simp only [putA]
    split
    · rename_i hlt
      refine List.pairwise_cons.2 ⟨fun x hx => ?_, putA_srt a hb.2⟩
      rcases (putA_mem a l x).1 hx with rfl | hx
      · exact hlt
      · exact hb.1 x hx
    · rename_i hlt
      split
      · exact h
      · rename_i hne
        have hab : ltA a b = true := by
          rcases ltA_tri a b with k | k | k
          · exact k
          · exact absurd k.symm hne
          · exact absurd k hlt
        refine List.pairwise_cons.2 ⟨fun x hx => ?_, h⟩
        rcases List.mem_cons.1 hx with rfl | hx
        · exact hab
        · exact ltA_trans hab (hb.1 x hx)
theorem putA_len (a : At) : ∀ (l : List At), (putA a l).length ≤ l.length + 1
  | [] => by simp [putA]
  | b :: l => by
    simp only [putA]
    split
    · have := putA_len a l; simp; omega
    · split <;> simp
theorem srt_ext : ∀ {a b : List At}, Srt a → Srt b → (∀ x, x ∈ a ↔ x ∈ b) → a = b
  | [], [], _, _, _ => rfl
  | [], y :: b, _, _, h => by have := (h y).2 (by simp); cases this
  | x :: a, [], _, _, h => by have := (h x).1 (by simp); cases this
  | x :: a, y :: b, h1, h2, h => by
    have p := List.pairwise_cons.1 h1
    have q := List.pairwise_cons.1 h2
    have hxy : x = y := by
      rcases List.mem_cons.1 ((h x).1 (by simp)) with e | e
      · exact e
      · rcases List.mem_cons.1 ((h y).2 (by simp)) with e' | e'
        · exact e'.symm
        · have h3 := p.1 y e'
          have h4 := q.1 x e
          rw [ltA_asymm h3] at h4; cases h4
    subst hxy
    rw [srt_ext p.2 q.2 fun z => ?_]
    have hz := h z
    rw [List.mem_cons, List.mem_cons] at hz
    constructor
    · intro hm
      rcases hz.1 (.inr hm) with rfl | e
      · have := p.1 z hm; rw [ltA_irr] at this; cases this
      · exact e
    · intro hm
      rcases hz.2 (.inr hm) with rfl | e
      · have := q.1 z hm; rw [ltA_irr] at this; cases this
      · exact e
def sortA (l : List At) : List At := l.foldl (fun o a => putA a o) []
theorem sortA_aux : ∀ (l o : List At), Srt o → Srt (l.foldl (fun o a => putA a o) o) ∧ ∀ x, x ∈ l.foldl (fun o a => putA a o) o ↔ x ∈ o ∨ x ∈ l
  | [], o, h => ⟨h, by simp⟩
  | a :: l, o, h => by
    obtain ⟨h1, h2⟩ := sortA_aux l (putA a o) (putA_srt a h)
    refine ⟨h1, fun x => ?_⟩
    rw [List.foldl_cons, h2, putA_mem, List.mem_cons]
    constructor
    · rintro ((h | h) | h) <;> simp [h]
    · rintro (h | h | h) <;> simp [h]
theorem sortA_srt (l : List At) : Srt (sortA l) := (sortA_aux l [] List.Pairwise.nil).1
theorem sortA_mem (l : List At) (x : At) : x ∈ sortA l ↔ x ∈ l := by
  have := (sortA_aux l [] List.Pairwise.nil).2 x
  unfold sortA; rw [this]; simp
theorem sortA_snoc (l : List At) (a : At) : sortA (l ++ [a]) = putA a (sortA l) := by unfold sortA; rw [List.foldl_append]; rfl
theorem sortA_len : ∀ (l : List At), (sortA l).length ≤ l.length := by
  have h : ∀ (l o : List At), (l.foldl (fun o a => putA a o) o).length ≤ o.length + l.length := by
    intro l
    induction l with
    | nil => intro o; simp
    | cons a l ih => intro o; rw [List.foldl_cons]; have := ih (putA a o); have := putA_len a o; simp; omega
  intro l
  have := h l []
  simpa [sortA] using this
theorem sortA_of (l s : List At) (h : Srt s) (hm : ∀ x, x ∈ s ↔ x ∈ l) : s = sortA l := srt_ext h (sortA_srt l) fun x => by rw [hm, sortA_mem]
theorem sortA_self {l : List At} (h : Srt l) : sortA l = l := (sortA_of l l h fun _ => Iff.rfl).symm

/-! ### Neighbours that are the same are one -/
def cptA (l : List At) : List At := l.foldl (fun o x => if o.getLast? = some x then o else o ++ [x]) []
theorem cptA_snoc (l : List At) (x : At) : cptA (l ++ [x]) = if (cptA l).getLast? = some x then cptA l else cptA l ++ [x] := by unfold cptA; rw [List.foldl_append]; rfl
theorem cptA_last : ∀ (l : List At) (x : At), (cptA (l ++ [x])).getLast? = some x := by
  intro l x
  rw [cptA_snoc]
  split
  · assumption
  · simp
def Up (l : List At) : Prop := l.Pairwise fun a b => ltA b a = false
theorem snoc_ind {P : List At → Prop} (h0 : P []) (hs : ∀ l x, P l → P (l ++ [x])) (l : List At) : P l := by
  have h : ∀ l : List At, P l.reverse := by
    intro l
    induction l with
    | nil => exact h0
    | cons x l ih => rw [List.reverse_cons]; exact hs _ _ ih
  have := h l.reverse
  rwa [List.reverse_reverse] at this
theorem cptA_ok (l : List At) : Up l → Srt (cptA l) ∧ (∀ x, x ∈ cptA l ↔ x ∈ l) ∧ (cptA l).length ≤ l.length := by
  induction l using snoc_ind with
  | h0 => exact fun _ => ⟨List.Pairwise.nil, fun x => Iff.rfl, Nat.le_refl _⟩
  | hs l x ih =>
    intro h
    have hp := List.pairwise_append.1 h
    obtain ⟨i1, i2, i3⟩ := ih hp.1
    rw [cptA_snoc]
    split
    · rename_i hl
      have hx : x ∈ l := (i2 x).1 (List.mem_of_getLast? hl)
      refine ⟨i1, fun y => ?_, by simp; omega⟩
      rw [i2, List.mem_append, List.mem_singleton]
      exact ⟨.inl, fun h => h.elim id (fun e => e ▸ hx)⟩
    · rename_i hl
      refine ⟨?_, fun y => by rw [List.mem_append, i2, List.mem_append], by simp; omega⟩
      refine List.pairwise_append.2 ⟨i1, by simp, fun a ha b hb => ?_⟩
      rw [List.mem_singleton] at hb
      subst hb
      have h1 := hp.2.2 a ((i2 a).1 ha) b (by simp)
      rcases ltA_tri a b with k | k | k
      · exact k
      · subst k
        -- a stands in the compacted list and is the greatest
        exfalso
        apply hl
        obtain ⟨z, hz⟩ : ∃ z, (cptA l).getLast? = some z := by
          cases hg : (cptA l).getLast? with
          | none => rw [List.getLast?_eq_none_iff] at hg; rw [hg] at ha; cases ha
          | some z => exact ⟨z, rfl⟩
        have hzm := List.mem_of_getLast? hz
        have hz1 := hp.2.2 z ((i2 z).1 hzm) a (by simp)
        rw [hz]
        obtain ⟨i, hi, hia⟩ := List.getElem_of_mem ha
        have hlast : z = (cptA l)[(cptA l).length - 1]'(by omega) := by
          rw [List.getLast?_eq_getElem?, List.getElem?_eq_getElem (by omega)] at hz
          exact (Option.some.inj hz).symm
        by_cases hi2 : i = (cptA l).length - 1
        · subst hi2; rw [hlast, hia]
        · have h3 := List.pairwise_iff_getElem.1 i1 i ((cptA l).length - 1) hi (by omega) (by omega)
          rw [hia, ← hlast] at h3
          rw [hz1] at h3; cases h3
      · rw [h1] at k; cases k
theorem cptA_sort {l s : List At} (hp : s.Perm l) (hu : Up s) : cptA s = sortA l := by
  obtain ⟨h1, h2, _⟩ := cptA_ok s hu
  exact sortA_of l _ h1 fun x => by rw [h2, hp.mem_iff]
theorem cptA_len (l : List At) : (cptA l).length ≤ l.length := by
  induction l using snoc_ind with
  | h0 => exact Nat.le_refl _
  | hs l x ih => rw [cptA_snoc]; split <;> simp <;> omega

/-! ### What may be -/
def smallB (c : UInt8) : Bool := decide (97 ≤ c.toNat) && decide (c.toNat ≤ 122)
def typB (c : UInt8) : Bool := smallB c || decide (c.toNat = 45) || (decide (48 ≤ c.toNat) && decide (c.toNat ≤ 57))
def mayTy (s : Bs) : Bool := decide (1 ≤ s.length) && decide (s.length ≤ 32) && smallB (s.headD 0) && s.all typB
def mayNm (s : Bs) : Bool := decide (s.length ≤ 1000) && validU s
def mayA (a : At) : Bool := mayTy a.T && mayNm a.V
def okAt (l : List At) (i : Nat) : Bool := match l[i]? with | none => false | some a => mayA a && (decide (i = 0) || ltA (l.getD (i - 1) ⟨[], []⟩) a)
def mayAs (l : List At) : Bool := decide (l.length ≤ 50) && (List.range l.length).all (okAt l)
theorem okAt_at {l : List At} {i : Nat} (h : i < l.length) : okAt l i = (mayA l[i] && (decide (i = 0) || ltA (l.getD (i - 1) ⟨[], []⟩) l[i])) := by
  unfold okAt; rw [List.getElem?_eq_getElem h]
theorem srt_of_next {l : List At} (h : ∀ i (hi : i + 1 < l.length), ltA (l[i]'(by omega)) l[i + 1] = true) : Srt l := by
  refine List.pairwise_iff_getElem.2 ?_
  intro i j hi hj hij
  obtain ⟨d, rfl⟩ : ∃ d, j = i + 1 + d := ⟨j - i - 1, by omega⟩
  clear hij
  induction d with
  | zero => exact h i hj
  | succ d ih => exact ltA_trans (ih (by omega)) (h (i + 1 + d) hj)
theorem mayAs_iff (l : List At) : mayAs l = true ↔ l.length ≤ 50 ∧ (∀ a ∈ l, mayA a = true) ∧ Srt l := by
  unfold mayAs
  rw [Bool.and_eq_true, decide_eq_true_eq, List.all_eq_true]
  refine and_congr_right fun _ => ⟨fun h => ?_, fun ⟨h1, h2⟩ i hi => ?_⟩
  · have h' : ∀ i (hi : i < l.length), mayA l[i] = true ∧ (i = 0 ∨ ltA (l.getD (i - 1) ⟨[], []⟩) l[i] = true) := fun i hi => by
      have := h i (List.mem_range.2 hi)
      rw [okAt_at hi] at this
      simpa using this
    refine ⟨fun a ha => ?_, srt_of_next fun i hi => ?_⟩
    · obtain ⟨i, hi, rfl⟩ := List.getElem_of_mem ha
      exact (h' i hi).1
    · rcases (h' (i + 1) hi).2 with k | k
      · omega
      · rw [Nat.add_sub_cancel, List.getD_eq_getElem?_getD, List.getElem?_eq_getElem (by omega)] at k
        exact k
  · have hi := List.mem_range.1 hi
    rw [okAt_at hi]
    simp only [Bool.and_eq_true, Bool.or_eq_true, decide_eq_true_eq]
    refine ⟨h1 _ (List.getElem_mem hi), ?_⟩
    by_cases h0 : i = 0
    · exact .inl h0
    · right
      rw [List.getD_eq_getElem?_getD, List.getElem?_eq_getElem (by omega)]
      exact List.pairwise_iff_getElem.1 h2 (i - 1) i (by omega) hi (by omega)

/-! ### Changes -/
def tyIn (by_ : List At) (a : At) : Bool := by_.any fun b => decide (a.T = b.T)
def stay (l by_ : List At) : List At := l.filter fun a => !tyIn by_ a
def adds (by_ : List At) : List At := by_.filter fun b => !decide (b.V = [])
def chgA (l by_ : List At) : List At := sortA (stay l by_ ++ adds by_)
def chgE (l by_ : List At) : Nat := if !mayAs l || decide (50 < by_.length) || by_.any (fun a => !mayA a) then 2 else if 50 < (chgA l by_).length then 10 else 0
def chgR (l by_ : List At) : List At := if chgE l by_ = 0 then chgA l by_ else []
theorem chgA_mem (l by_ : List At) (x : At) : x ∈ chgA l by_ ↔ (x ∈ l ∧ tyIn by_ x = false) ∨ (x ∈ by_ ∧ x.V ≠ []) := by
  unfold chgA
  rw [sortA_mem, List.mem_append]
  unfold stay adds
  rw [List.mem_filter, List.mem_filter]
  simp
theorem chgA_len (l by_ : List At) : (chgA l by_).length ≤ l.length + by_.length := by
  unfold chgA
  have := sortA_len (stay l by_ ++ adds by_)
  have h1 : (stay l by_).length ≤ l.length := List.length_filter_le _ _
  have h2 : (adds by_).length ≤ by_.length := List.length_filter_le _ _
  simp at this; omega
end Go.Proofs.YtmalclclopnlnaaGreat
/-
  The package entry: names, types, attributes; how two stand.
-/
namespace Go.Proofs.YtmalclclopnlnaaGreat
open Go.RowKit Go.Shelf
attribute [local go_sem] Oper.semAt_some

theorem ats_t : SliceT Tryz.prog 66 144 2 32 := SliceT.mk' (z := .agg #[.string ⟨#[]⟩, .string ⟨#[]⟩]) Tryz.underlying66 (by kernel_rfl) rfl (by decide)
def At.box (a : At) : Obj := .cells #[.string ⟨a.T.toArray⟩, .string ⟨a.V.toArray⟩] 144 (0, 0)
theorem scmp_any (a b : Bs) (w : World) : Calls Tryz.prog 129 #[.string ⟨a.toArray⟩, .string ⟨b.toArray⟩] w fun e w' => e = .returned (.int .i64 (cmpB a b)) ∧ w = w' :=
  (Any.strings_Compare Tryz.lays106 ⟨a.toArray⟩ ⟨b.toArray⟩ w).mono fun _ _ ⟨h1, h2⟩ => ⟨h1, h2.symm⟩
theorem cor_any (g : Nat) (x y : Int) (w : World) (h0 : w.cell? ⟨g, 0, none⟩ = some (.int .i64 x)) (h1 : w.cell? ⟨g, 1, none⟩ = some (.int .i64 y)) :
    Calls Tryz.prog 128 #[.slice (some ⟨g, 0, none⟩) 2 2] w fun e w' => e = .returned (.int .i64 (if x = 0 then y else x)) ∧ w = w' := by
  by_cases hx : x = 0
  · subst hx
    rw [if_pos rfl]
    by_cases hy : y = 0
    · subst hy
      go_enter Tryz.func128, Tryz.ntmps128
      go_wp2
      go_loop [5, 8] (fun _ i => ∃ k : Nat, k ≤ 2 ∧ i = .int .i64 k) (fun _ i => 2 - (intOf i).toNat)
      case atStart => exact ⟨0, by omega, rfl⟩
      case round =>
        obtain ⟨k, hk, rfl⟩ := hrel
        rcases (show k = 0 ∨ k = 1 ∨ k = 2 by omega) with rfl | rfl | rfl
        · go_wp2
          exact ⟨⟨1, by omega, rfl⟩, by simp [intOf]⟩
        · go_wp2
          exact ⟨⟨2, by omega, rfl⟩, by simp [intOf]⟩
        · go_wp2
          go_ret
          exact ⟨rfl, rfl⟩
    · have hy1 : (y != 0) = true := by simpa using hy
      go_enter Tryz.func128, Tryz.ntmps128
      go_wp2
      go_loop [5, 8] (fun _ i => ∃ k : Nat, k ≤ 1 ∧ i = .int .i64 k) (fun _ i => 2 - (intOf i).toNat)
      case atStart => exact ⟨0, by omega, rfl⟩
      case round =>
        obtain ⟨k, hk, rfl⟩ := hrel
        rcases (show k = 0 ∨ k = 1 by omega) with rfl | rfl
        · go_wp2
          exact ⟨⟨1, by omega, rfl⟩, by simp [intOf]⟩
        · go_wp2
          go_ret
          exact ⟨rfl, rfl⟩
  · rw [if_neg hx]
    have hx1 : (x != 0) = true := by simpa using hx
    go_enter Tryz.func128, Tryz.ntmps128
    go_wp2
    go_loop [5, 8] (fun _ i => i = .int .i64 0) (fun _ i => 2 - (intOf i).toNat)
    case atStart => rfl
    case round =>
      subst hrel
      go_wp2
      go_ret
      exact ⟨rfl, rfl⟩
set_option maxHeartbeats 1000000 in
theorem ecompare_any (a b : At) (w : World) : Calls Tryz.prog 115 #[a.val, b.val] w fun e w' => e = .returned (.int .i64 (cmpA a b)) ∧ (((w.alloc a.box).alloc b.box).alloc (.cells #[.int .i64 (cmpB a.T b.T), .int .i64 (cmpB a.V b.V)] 3 (0, 0))).drew = w' := by
  obtain ⟨z, hz⟩ : ∃ z, z = cmpA a b := ⟨_, rfl⟩
  rw [← hz]
  have HZ := Lib.hid hz
  obtain ⟨x, hx⟩ : ∃ x, x = cmpB a.T b.T := ⟨_, rfl⟩
  obtain ⟨y, hy⟩ : ∃ y, y = cmpB a.V b.V := ⟨_, rfl⟩
  have HC1 := Lib.hid (fun X => scmp_any a.T b.T X)
  have HC2 := Lib.hid (fun X => scmp_any a.V b.V X)
  rw [← hx] at HC1 ⊢
  rw [← hy] at HC2 ⊢
  have HOr := Lib.hid (fun X h0 h1 => cor_any ((w.alloc a.box).alloc b.box).heap.size x y X h0 h1)
  have hzz : (if x = 0 then y else x) = z := by rw [hx, hy, hz]; rfl
  rw [hzz] at HOr
  obtain ⟨aT, aV⟩ := a
  obtain ⟨bT, bV⟩ := b
  unfold At.val At.box
  simp only at HC1 HC2 ⊢
  clear hz hx hy hzz
  obtain ⟨W, hW⟩ : ∃ W, W = (w.alloc (.cells #[.string ⟨aT.toArray⟩, .string ⟨aV.toArray⟩] 144 (0, 0))).alloc (.cells #[.string ⟨bT.toArray⟩, .string ⟨bV.toArray⟩] 144 (0, 0)) := ⟨_, rfl⟩
  unfold At.box at HOr
  simp only at HOr
  rw [← hW] at HOr ⊢
  have q0 : W.heap[w.heap.size]? = some (.cells #[.string ⟨aT.toArray⟩, .string ⟨aV.toArray⟩] 144 (0, 0)) := by subst hW; (repeat' (first | exact hp_new _ _ | exact hp_at _ _ (by simp; done) | refine hp_alloc ?_ _ | refine hp_drew ?_ | refine hp_drewN ?_ _ | apply hp_set | refine hp_far ?_ (by first | (simp; omega) | (simp; done)) _))
  have q1 : W.heap[w.heap.size + 1]? = some (.cells #[.string ⟨bT.toArray⟩, .string ⟨bV.toArray⟩] 144 (0, 0)) := by subst hW; (repeat' (first | exact hp_new _ _ | exact hp_at _ _ (by simp; done) | refine hp_alloc ?_ _ | refine hp_drew ?_ | refine hp_drewN ?_ _ | apply hp_set | refine hp_far ?_ (by first | (simp; omega) | (simp; done)) _))
  have HW := Lib.hid hW
  clear hW
  go_enter Tryz.func115, Tryz.ntmps115
  go_wp2
  rw [← HW.out]
  have a0 := hp_cell q0 0
  have a1 := hp_cell q0 1
  have b0 := hp_cell q1 0
  have b1 := hp_cell q1 1
  have l0 := hp_lt q0
  have l1 := hp_lt q1
  clear q0 q1
  go_region_held3 (fun X => X.cell? ⟨w.heap.size, 0, none⟩ = some (.string ⟨aT.toArray⟩) ∧ X.cell? ⟨w.heap.size, 1, none⟩ = some (.string ⟨aV.toArray⟩) ∧ X.cell? ⟨w.heap.size + 1, 0, none⟩ = some (.string ⟨bT.toArray⟩) ∧ X.cell? ⟨w.heap.size + 1, 1, none⟩ = some (.string ⟨bV.toArray⟩)) (first | exact ⟨a0, a1, b0, b1⟩ | exact ⟨(World.cell?_alloc_lt _ _ _ l0).trans a0, (World.cell?_alloc_lt _ _ _ l0).trans a1, (World.cell?_alloc_lt _ _ _ l1).trans b0, (World.cell?_alloc_lt _ _ _ l1).trans b1⟩ | fail) (first
    | (go_at_call 129; (with_reducible refine (HC1.out _).mono ?_); rintro e w' ⟨rfl, rfl⟩)
    | (go_at_call 129; (with_reducible refine (HC2.out _).mono ?_); rintro e w' ⟨rfl, rfl⟩)
    | (go_at_call 128; (refine (HOr.out _ (by first | exact hp_cell (hp_new _ _) 0 | exact hp_cell (hp_drew (hp_new _ _)) 0) (by first | exact hp_cell (hp_new _ _) 1 | exact hp_cell (hp_drew (hp_new _ _)) 1)).mono ?_); rintro e w' ⟨rfl, rfl⟩)
    | fail)
  all_goals
    go_wp2
    go_ret
    exact ⟨rfl, rfl⟩
end Go.Proofs.YtmalclclopnlnaaGreat
