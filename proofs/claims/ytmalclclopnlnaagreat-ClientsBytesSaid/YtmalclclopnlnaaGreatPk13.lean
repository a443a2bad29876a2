/-
  Texts of this claim, one behind the other: ResP, TabP, ResM.
-/
import Derived.Test.YtmalclclopnlnaaGreatPk12
/-
  Plain theory of numbers as bytes, and of results as bytes.
-/
namespace Go.Proofs.YtmalclclopnlnaaGreat

/-! ### Numbers, the highest byte first -/
def be : Nat → Nat → Bs
  | 0, _ => []
  | k + 1, n => be k (n / 256) ++ [UInt8.ofNat (n % 256)]
def beN (l : Bs) : Nat := l.foldl (fun a b => 256 * a + b.toNat) 0
theorem be_len : ∀ k n, (be k n).length = k
  | 0, _ => rfl
  | k + 1, n => by simp only [be, List.length_append, be_len k, List.length_singleton]
theorem beN_snoc (l : Bs) (b : UInt8) : beN (l ++ [b]) = 256 * beN l + b.toNat := by unfold beN; rw [List.foldl_append]; rfl
theorem beN_be : ∀ k n, beN (be k n) = n % 256 ^ k
  | 0, n => by simp [be, beN, Nat.mod_one]
  | k + 1, n => by
    simp only [be]
    rw [beN_snoc, beN_be k, UInt8.toNat_ofNat', show 256 ^ (k + 1) = 256 ^ k * 256 from Nat.pow_succ ..]
    have h : n % (256 ^ k * 256) = 256 * (n / 256 % 256 ^ k) + n % 256 := by
      rw [Nat.mul_comm, Nat.mod_mul]; omega
    omega
theorem beN_be' {k n : Nat} (h : n < 256 ^ k) : beN (be k n) = n := by rw [beN_be, Nat.mod_eq_of_lt h]
theorem beN_lt (l : Bs) : beN l < 256 ^ l.length := by
  suffices h : ∀ n, ∀ l : Bs, l.length = n → beN l < 256 ^ n from h _ l rfl
  intro n
  induction n with
  | zero => intro l hl; rw [List.eq_nil_of_length_eq_zero hl]; decide
  | succ n ih =>
    intro l hl
    have hne : l ≠ [] := by rintro rfl; cases hl
    rw [← List.dropLast_concat_getLast hne, beN_snoc, Nat.pow_succ]
    have h1 := ih l.dropLast (by rw [List.length_dropLast]; omega)
    have h2 := (l.getLast hne).toNat_lt
    omega
theorem be_at : ∀ (k n i : Nat) (h : i < k), (be k n)[i]'(by rw [be_len]; exact h) = UInt8.ofNat (n / 256 ^ (k - 1 - i) % 256)
  | k + 1, n, i, h => by
    simp only [be]
    by_cases hi : i < k
    · rw [List.getElem_append_left (by rw [be_len]; exact hi), be_at k (n / 256) i hi]
      have e : k + 1 - 1 - i = (k - 1 - i) + 1 := by omega
      rw [e, Nat.pow_succ, Nat.mul_comm, Nat.div_div_eq_div_mul]
    · have e : i = k := by omega
      subst e
      rw [List.getElem_append_right (by rw [be_len]; exact Nat.le_refl _)]
      simp [be_len]
theorem be_cons : ∀ k n, be (k + 1) n = UInt8.ofNat (n / 256 ^ k % 256) :: be k n
  | 0, n => by simp [be]
  | k + 1, n => by
    show be (k + 1) (n / 256) ++ [UInt8.ofNat (n % 256)] = _
    rw [be_cons k (n / 256), Nat.div_div_eq_div_mul, Nat.mul_comm, ← Nat.pow_succ]
    rfl

/-! ### Results -/
structure Ent where
  nm : Bs
  ats : List At
deriving DecidableEq, Inhabited
structure Res where
  code : Int
  yes : Bool
  es : List Ent
  cur : Bs
deriving DecidableEq, Inhabited
def mayEn (e : Ent) : Bool := mayE e.nm e.ats
def entV (e : Ent) : Bs := packV e.nm e.ats
def esV (l : List Ent) : Bs := l.flatMap fun e => valV 1 (entV e)
def mayR (r : Res) : Bool :=
  if r.code = 0 then decide (r.es.length ≤ 1000) && r.es.all mayEn && decide (r.cur.length ≤ 4000) && decide ((esV r.es).length ≤ 4194304)
  else decide (0 < r.code) && decide (r.code ≤ 14) && decide (r = ⟨r.code, false, [], []⟩)
def flB (b : Bool) : Bs := if b then [1] else [0]
def resV (r : Res) : Bs := valV 1 (be 8 r.code.toNat) ++ (valV 2 (flB r.yes) ++ (valV 3 (esV r.es) ++ valV 4 r.cur))
theorem mayEn_iff {e : Ent} : mayEn e = true ↔ mayNm e.nm = true ∧ mayAs e.ats = true := by unfold mayEn mayE; rw [Bool.and_eq_true]
theorem entV_len {e : Ent} (h : mayEn e = true) : (entV e).length ≤ 60000 := by
  obtain ⟨h1, h2⟩ := mayEn_iff.1 h
  obtain ⟨hl, hm, _⟩ := (mayAs_iff e.ats).1 h2
  have hnl : e.nm.length ≤ 1000 := by unfold mayNm at h1; simp at h1; exact h1.1
  have := attrsV_len e.ats hm
  unfold entV packV
  rw [List.length_append, valV_len, valV_len]
  omega
theorem mayR_fits {r : Res} (h : mayR r = true) : 0 ≤ r.code ∧ r.code ≤ 14 ∧ r.es.length ≤ 1000 ∧ (∀ e ∈ r.es, mayEn e = true) ∧ r.cur.length ≤ 4000 ∧ (esV r.es).length ≤ 4194304 := by
  unfold mayR at h
  split at h
  · rename_i h0
    simp only [Bool.and_eq_true, decide_eq_true_eq, List.all_eq_true] at h
    obtain ⟨⟨⟨h1, h2⟩, h3⟩, h4⟩ := h
    exact ⟨by omega, by omega, h1, h2, h3, h4⟩
  · simp only [Bool.and_eq_true, decide_eq_true_eq] at h
    obtain ⟨⟨h1, h2⟩, h3⟩ := h
    rw [h3]
    exact ⟨by show 0 ≤ r.code; omega, h2, by simp, by simp, by simp, by simp [esV]⟩
theorem resV_len {r : Res} (h : mayR r = true) : (resV r).length ≤ 4200000 := by
  obtain ⟨_, _, _, _, h1, h2⟩ := mayR_fits h
  unfold resV
  simp only [List.length_append, valV_len, be_len]
  have : (flB r.yes).length = 1 := by unfold flB; split <;> rfl
  omega

/-! ### Reading -/
/-- A number taken off. -/
def numG (t : UInt8) (s : Bs) (bad : Bool) : Nat × Bs × Bool :=
  if (gotV t s bad).2.2 = true then (0, (gotV t s bad).2) else if (gotV t s bad).1.length = 8 then (beN (gotV t s bad).1, (gotV t s bad).2) else (0, (gotV t s bad).2.1, true)
def numM (most : Nat) (t : UInt8) (s : Bs) (bad : Bool) : Nat × Bs × Bool :=
  if most < (numG t s bad).1 then (0, (numG t s bad).2.1, true) else numG t s bad
/-- A yes or no taken off. -/
def flagG (t : UInt8) (s : Bs) (bad : Bool) : Bool × Bs × Bool :=
  if (gotV t s bad).2.2 = true then (false, (gotV t s bad).2) else if (gotV t s bad).1 = [0] then (false, (gotV t s bad).2) else if (gotV t s bad).1 = [1] then (true, (gotV t s bad).2) else (false, (gotV t s bad).2.1, true)
/-- One step of a list of entries. -/
def stepE (l : List Ent) (s : Bs) : List Ent × Bs × Bool × Bool :=
  match ofE (gotV 1 s false).1 with
  | some (nm, xs) => (l ++ [⟨nm, xs⟩], (gotV 1 s false).2.1, (gotV 1 s false).2.2, decide (l.length + 1 ≤ 1000))
  | none => (l ++ [⟨[], []⟩], (gotV 1 s false).2.1, (gotV 1 s false).2.2, false)
def resC (s : Bs) : Nat × Bs × Bool := numM 255 1 s false
def resY (s : Bs) : Bool × Bs × Bool := flagG 2 (resC s).2.1 (resC s).2.2
def resL (s : Bs) : List Ent × Bs × Bool × Bool := listG stepE 3 [] (resY s).2.1 (resY s).2.2
def resK (s : Bs) : Bs × Bs × Bool := gotV 4 (resL s).2.1 (resL s).2.2.1
def resX (s : Bs) : Res := ⟨((resC s).1 : Int), (resY s).1, (resL s).1, (resK s).1⟩
def resOf (s : Bs) : Option Res := if (resK s).2.2 = true ∨ 0 < (resK s).2.1.length then none else if mayR (resX s) = true then some (resX s) else none
theorem numG_val {t : UInt8} {n : Nat} (ht : t ≠ 0) (hn : n < 256 ^ 8) (s : Bs) : numG t (valV t (be 8 n) ++ s) false = (n, s, false) := by
  have h := gotV_yes (takeV_val ht (show (be 8 n).length ≤ 4194304 by rw [be_len]; decide) s)
  unfold numG
  rw [h]
  simp only [be_len, if_true]
  rw [beN_be' hn]
  rfl
theorem flagG_val {t : UInt8} (b : Bool) (ht : t ≠ 0) (s : Bs) : flagG t (valV t (flB b) ++ s) false = (b, s, false) := by
  have hl : (flB b).length ≤ 4194304 := by cases b <;> decide
  have h := gotV_yes (takeV_val ht hl s)
  unfold flagG
  rw [h]
  cases b <;> simp [flB]
theorem stepE_val {e : Ent} (he : mayEn e = true) (l : List Ent) (hl : l.length + 1 ≤ 1000) (s : Bs) : stepE l (valV 1 (entV e) ++ s) = (l ++ [e], s, false, true) := by
  have h := gotV_yes (takeV_val (t := 1) (by decide) (show (entV e).length ≤ 4194304 by have := entV_len he; omega) s)
  obtain ⟨h1, h2⟩ := mayEn_iff.1 he
  unfold stepE
  rw [h]
  simp only
  rw [show ofE (entV e) = some (e.nm, e.ats) from ofE_pack h1 h2]
  simp only [decide_eq_true hl]
theorem listR_es : ∀ (es : List Ent) (f : Nat) (l : List Ent), (esV es).length ≤ f → (∀ e ∈ es, mayEn e = true) → l.length + es.length ≤ 1000 → listR stepE f l (esV es) = (l ++ es, true)
  | [], f, l, _, _, _ => by rw [List.append_nil]; exact listR_nil _ _ _
  | e :: es, f, l, hf, he, hl => by
    have hc : esV (e :: es) = valV 1 (entV e) ++ esV es := rfl
    have hcl : (esV (e :: es)).length = 5 + (entV e).length + (esV es).length := by rw [hc, List.length_append, valV_len]
    obtain ⟨f, rfl⟩ : ∃ k, f = k + 1 := ⟨f - 1, by omega⟩
    simp only [List.length_cons] at hl
    have hs := stepE_val (he e (by simp)) l (by omega) (esV es)
    rw [← hc] at hs
    rw [listR_go (by intro h; rw [h] at hcl; simp at hcl; omega) hs (by omega), listR_es es f (l ++ [e]) (by omega) (fun x hx => he x (by simp [hx])) (by rw [List.length_append]; simp; omega), List.append_assoc]
    rfl
theorem listG_es {es : List Ent} (hf : (esV es).length ≤ 4194304) (he : ∀ e ∈ es, mayEn e = true) (hl : es.length ≤ 1000) (s : Bs) : listG stepE 3 [] (valV 3 (esV es) ++ s) false = (es, s, false, true) := by
  unfold listG
  rw [if_neg (by simp), takeV_val (by decide) hf]
  simp only [listM]
  rw [listR_es es _ [] (Nat.le_refl _) he (by simpa using hl)]
  rfl
/-- A result is read from its bytes. -/
theorem resOf_val {r : Res} (h : mayR r = true) : resOf (resV r) = some r := by
  obtain ⟨h1, h2, h3, h4, h5, h6⟩ := mayR_fits h
  have e1 : resC (resV r) = (r.code.toNat, valV 2 (flB r.yes) ++ (valV 3 (esV r.es) ++ valV 4 r.cur), false) := by
    unfold resC resV numM
    rw [numG_val (by decide) (by omega)]
    rw [if_neg (by show ¬ 255 < r.code.toNat; omega)]
  have e2 : resY (resV r) = (r.yes, valV 3 (esV r.es) ++ valV 4 r.cur, false) := by
    unfold resY
    rw [e1]
    exact flagG_val _ (by decide) _
  have e3 : resL (resV r) = (r.es, valV 4 r.cur, false, true) := by
    unfold resL
    rw [e2]
    exact listG_es h6 h4 h3 _
  have e4 : resK (resV r) = (r.cur, [], false) := by
    unfold resK
    rw [e3]
    have := gotV_yes (takeV_val (t := 4) (b := r.cur) (by decide) (by omega) [])
    rw [List.append_nil] at this
    exact this
  have e5 : resX (resV r) = r := by
    unfold resX
    rw [e1, e2, e3, e4]
    have : ((r.code.toNat : Nat) : Int) = r.code := by omega
    simp only [this]
  unfold resOf
  rw [e4, e5, if_neg (by simp), if_pos h]
theorem resV_inj {a b : Res} (ha : mayR a = true) (hb : mayR b = true) (h : resV a = resV b) : a = b := by
  have e := resOf_val ha
  rw [h, resOf_val hb] at e
  injection e with e
  exact e.symm
theorem resOf_may {s : Bs} {r : Res} (h : resOf s = some r) : mayR r = true := by
  unfold resOf at h
  split at h
  · cases h
  · split at h
    · rename_i h1; injection h with h; rw [← h]; exact h1
    · cases h
end Go.Proofs.YtmalclclopnlnaaGreat
/-
  Plain theory of tables of clients: how one is told, what puts do, its bytes.
-/
namespace Go.Proofs.YtmalclclopnlnaaGreat

structure Told where
  c : Nat
  n : Nat
  r : Res
deriving DecidableEq, Inhabited
def putT (x : Told) : List Told → List Told
  | [] => [x]
  | y :: l => if x.c ≤ y.c then (if x.c = y.c then x :: l else x :: y :: l) else y :: putT x l
def SrtT (L : List Told) : Prop := L.Pairwise fun a b => a.c < b.c
def atT (c : Nat) (L : List Told) : Option Told := L.find? fun x => decide (x.c = c)
theorem putT_mem {x y : Told} : ∀ {L : List Told}, y ∈ putT x L → y = x ∨ y ∈ L
  | [], h => by simp [putT] at h; exact .inl h
  | z :: l, h => by
    simp only [putT] at h
    split at h
    · split at h
      · rcases List.mem_cons.1 h with h | h
        · exact .inl h
        · exact .inr (by simp [h])
      · rcases List.mem_cons.1 h with h | h
        · exact .inl h
        · exact .inr h
    · rcases List.mem_cons.1 h with h | h
      · exact .inr (by simp [h])
      · exact (putT_mem h).elim .inl fun h => .inr (by simp [h])
theorem putT_srt {x : Told} : ∀ {L : List Told}, SrtT L → SrtT (putT x L)
  | [], _ => by simp [putT, SrtT]
  | y :: l, h => by
    have h2 := List.pairwise_cons.1 h
    simp only [putT]
    split
    · split
      · rename_i e
        exact List.pairwise_cons.2 ⟨fun z hz => by have := h2.1 z hz; omega, h2.2⟩
      · refine List.pairwise_cons.2 ⟨fun z hz => ?_, h⟩
        rcases List.mem_cons.1 hz with rfl | hz
        · omega
        · have := h2.1 z hz; omega
    · refine List.pairwise_cons.2 ⟨fun z hz => ?_, putT_srt h2.2⟩
      rcases putT_mem hz with rfl | hz
      · omega
      · exact h2.1 z hz
theorem atT_none {c : Nat} {L : List Told} (h : ∀ y ∈ L, c < y.c) : atT c L = none := by
  unfold atT
  rw [List.find?_eq_none]
  intro y hy
  have := h y hy
  simp; omega
theorem atT_put (x : Told) (c : Nat) : ∀ {L : List Told}, SrtT L → atT c (putT x L) = if c = x.c then some x else atT c L
  | [], _ => by
    simp only [putT, atT, List.find?_cons, List.find?_nil]
    by_cases h : c = x.c
    · rw [if_pos h, h]; simp
    · rw [if_neg h]; simp [Ne.symm h]
  | y :: l, h => by
    have h2 := List.pairwise_cons.1 h
    have ih := atT_put x c h2.2
    simp only [putT]
    unfold atT at ih ⊢
    split
    · split
      · rename_i e
        simp only [List.find?_cons]
        by_cases hc : c = x.c
        · rw [if_pos hc, hc]; simp
        · rw [if_neg hc, decide_eq_false (Ne.symm hc), decide_eq_false (show ¬ y.c = c by omega)]
      · simp only [List.find?_cons]
        by_cases hc : c = x.c
        · rw [if_pos hc, hc]; simp
        · rw [if_neg hc, decide_eq_false (Ne.symm hc)]
    · simp only [List.find?_cons, ih]
      by_cases hc : c = x.c
      · rw [if_pos hc, decide_eq_false (show ¬ y.c = c by omega), if_pos hc]
      · rw [if_neg hc, if_neg hc]
theorem putT_len (x : Told) : ∀ {L : List Told}, SrtT L → (putT x L).length = if atT x.c L = none then L.length + 1 else L.length
  | [], _ => by simp [putT, atT]
  | y :: l, h => by
    have h2 := List.pairwise_cons.1 h
    have ih := putT_len x h2.2
    simp only [putT]
    split
    · split
      · rename_i e
        have : atT x.c (y :: l) = some y := by unfold atT; rw [List.find?_cons, decide_eq_true e.symm]
        rw [this, if_neg (by simp)]
        rfl
      · rw [atT_none fun z hz => ?_, if_pos rfl]
        · rfl
        · rcases List.mem_cons.1 hz with rfl | hz
          · omega
          · have := h2.1 z hz; omega
    · have : atT x.c (y :: l) = atT x.c l := by unfold atT; rw [List.find?_cons, decide_eq_false (show ¬ y.c = x.c by omega)]
      rw [this, List.length_cons, ih]
      split <;> rfl
theorem atT_some {c : Nat} {L : List Told} {x : Told} (h : atT c L = some x) : x ∈ L ∧ x.c = c := by
  unfold atT at h
  exact ⟨List.mem_of_find?_eq_some h, by simpa using List.find?_some h⟩
theorem atT_of {L : List Told} (hs : SrtT L) {x : Told} (hx : x ∈ L) : atT x.c L = some x := by
  induction L with
  | nil => cases hx
  | cons y l ih =>
    have h2 := List.pairwise_cons.1 hs
    rcases List.mem_cons.1 hx with rfl | hx
    · unfold atT; rw [List.find?_cons]; simp
    · have := h2.1 x hx
      unfold atT
      rw [List.find?_cons, decide_eq_false (show ¬ y.c = x.c by omega)]
      exact ih h2.2 hx
/-- Sorted tables that answer alike are the same. -/
theorem tab_ext : ∀ {L M : List Told}, SrtT L → SrtT M → (∀ c, atT c L = atT c M) → L = M
  | [], [], _, _, _ => rfl
  | [], y :: m, _, hm, h => by
    have := h y.c
    rw [atT_of hm (by simp)] at this
    cases this
  | x :: l, [], hl, _, h => by
    have := h x.c
    rw [atT_of hl (by simp)] at this
    cases this
  | x :: l, y :: m, hl, hm, h => by
    have h1 := List.pairwise_cons.1 hl
    have h2 := List.pairwise_cons.1 hm
    have ex : x ∈ y :: m := by
      have := h x.c
      rw [atT_of hl (by simp)] at this
      exact (atT_some this.symm).1
    have ey : y ∈ x :: l := by
      have := h y.c
      rw [atT_of hm (by simp)] at this
      exact (atT_some this).1
    have e : x = y := by
      rcases List.mem_cons.1 ex with e | ex
      · exact e
      · rcases List.mem_cons.1 ey with e | ey
        · exact e.symm
        · have := h1.1 y ey
          have := h2.1 x ex
          omega
    subst e
    congr 1
    refine tab_ext h1.2 h2.2 fun c => ?_
    by_cases hc : c = x.c
    · subst hc
      rw [atT_none fun z hz => h1.1 z hz, atT_none fun z hz => h2.1 z hz]
    · have := h c
      unfold atT at this ⊢
      rw [List.find?_cons, List.find?_cons, decide_eq_false (Ne.symm hc)] at this
      exact this

/-- What a put is answered: nothing is wrong, too old, too many. -/
def putE (c n : Nat) (L : List Told) : Nat := match atT c L with
  | some x => if n ≤ x.n then 14 else 0
  | none => if 16 ≤ L.length then 10 else 0
def wantE (x : Told) (L : List Told) : Nat := if mayR x.r = true then putE x.c x.n L else 2
def actT (L : List Told) (x : Told) : List Told := if wantE x L = 0 then putT x L else L
def allT (l : List Told) : List Told := l.foldl actT []
/-- What a table is. -/
def Tab (L : List Told) : Prop := SrtT L ∧ L.length ≤ 16 ∧ ∀ x ∈ L, mayR x.r = true ∧ x.c < 18446744073709551616 ∧ x.n < 18446744073709551616
theorem Tab.nil : Tab [] := ⟨List.Pairwise.nil, by simp, by simp⟩
theorem Tab.act {L : List Told} (h : Tab L) {x : Told} (hc : x.c < 18446744073709551616) (hn : x.n < 18446744073709551616) : Tab (actT L x) := by
  unfold actT
  split
  · rename_i h0
    unfold wantE at h0
    split at h0
    · rename_i hm
      refine ⟨putT_srt h.1, ?_, fun y hy => ?_⟩
      · rw [putT_len x h.1]
        unfold putE at h0
        split
        · rename_i e
          rw [e] at h0
          simp only at h0
          split at h0
          · cases h0
          · omega
        · exact h.2.1
      · rcases putT_mem hy with rfl | hy
        · exact ⟨hm, hc, hn⟩
        · exact h.2.2 y hy
    · cases h0
  · exact h

/-! ### Bytes -/
def rowV (x : Told) : Bs := be 8 x.c ++ (be 8 x.n ++ (be 4 (resV x.r).length ++ resV x.r))
def rowsV (L : List Told) : Bs := L.flatMap rowV
def tabV (L : List Told) : Bs := be 4 L.length ++ rowsV L
def takeN (k : Nat) (s : Bs) : Option (Nat × Bs) := if s.length < k then none else some (beN (s.take k), s.drop k)
def rowT (s : Bs) : Option (Nat × Nat × Bs × Bs) := match takeN 8 s with
  | none => none
  | some (c, s1) => match takeN 8 s1 with
    | none => none
    | some (n, s2) => match takeN 4 s2 with
      | none => none
      | some (z, s3) => if s3.length < z then none else some (c, n, s3.take z, s3.drop z)
def stepT (L : List Told) (s : Bs) : Option (List Told × Bs) := match rowT s with
  | none => none
  | some (c, n, b, s') => match resOf b with
    | none => none
    | some r => if putE c n L = 0 then some (putT ⟨c, n, r⟩ L, s') else none
def rowsT : Nat → List Told → Bs → Option (List Told)
  | 0, L, _ => some L
  | k + 1, L, s => match stepT L s with
    | none => none
    | some (L', s') => rowsT k L' s'
def readT (s : Bs) : Option (List Told) := match takeN 4 s with
  | none => none
  | some (k, s') => if 16 < k then none else rowsT k [] s'
def tabOf (s : Bs) : Option (List Told) := match readT s with
  | none => none
  | some L => if tabV L = s then some L else none
theorem takeN_be {k n : Nat} (h : n < 256 ^ k) (s : Bs) : takeN k (be k n ++ s) = some (n, s) := by
  unfold takeN
  have hl := be_len k n
  rw [if_neg (by rw [List.length_append, hl]; omega), List.take_append_of_le_length (by omega), List.take_of_length_le (by omega), beN_be' h, List.drop_append_of_le_length (by omega), List.drop_of_length_le (by omega), List.nil_append]
theorem rowT_val {x : Told} (hm : mayR x.r = true) (hc : x.c < 18446744073709551616) (hn : x.n < 18446744073709551616) (s : Bs) : rowT (rowV x ++ s) = some (x.c, x.n, resV x.r, s) := by
  have hl := resV_len hm
  unfold rowT rowV
  rw [List.append_assoc, takeN_be (by omega)]
  simp only
  rw [List.append_assoc, takeN_be (by omega)]
  simp only
  rw [List.append_assoc, takeN_be (by omega)]
  simp only
  rw [if_neg (by rw [List.length_append]; omega), List.take_left, List.drop_left]
theorem putT_last {x : Told} : ∀ {L : List Told}, (∀ y ∈ L, y.c < x.c) → putT x L = L ++ [x]
  | [], _ => rfl
  | y :: l, h => by
    simp only [putT]
    rw [if_neg (by have := h y (by simp); omega), putT_last fun z hz => h z (by simp [hz])]
    rfl
theorem atT_last {c : Nat} {L : List Told} (h : ∀ y ∈ L, y.c < c) : atT c L = none := by
  unfold atT
  rw [List.find?_eq_none]
  intro y hy
  have := h y hy
  simp; omega
theorem rowsT_val : ∀ (M L : List Told), SrtT (L ++ M) → (L ++ M).length ≤ 16 → (∀ x ∈ M, mayR x.r = true ∧ x.c < 18446744073709551616 ∧ x.n < 18446744073709551616) → rowsT M.length L (rowsV M) = some (L ++ M)
  | [], L, _, _, _ => by rw [List.append_nil]; rfl
  | x :: M, L, hs, hl, hm => by
    obtain ⟨h1, h2, h3⟩ := hm x (by simp)
    have hlt : ∀ y ∈ L, y.c < x.c := fun y hy => (List.pairwise_append.1 hs).2.2 y hy x (by simp)
    have e : stepT L (rowsV (x :: M)) = some (L ++ [x], rowsV M) := by
      unfold stepT
      rw [show rowsV (x :: M) = rowV x ++ rowsV M from rfl, rowT_val h1 h2 h3]
      simp only
      rw [resOf_val h1]
      simp only
      have e0 : putE x.c x.n L = 0 := by
        unfold putE
        rw [atT_last hlt]
        simp only
        rw [if_neg (by rw [List.length_append, List.length_cons] at hl; omega)]
      rw [if_pos e0, putT_last hlt]
    show rowsT (M.length + 1) L _ = _
    simp only [rowsT]
    rw [e]
    simp only
    rw [rowsT_val M (L ++ [x]) (by rw [List.append_assoc]; exact hs) (by rw [List.append_assoc]; exact hl) (fun y hy => hm y (by simp [hy])), List.append_assoc]
    rfl
theorem tabOf_val {L : List Told} (h : Tab L) : tabOf (tabV L) = some L := by
  have hl : L.length ≤ 16 := h.2.1
  have e : readT (tabV L) = some L := by
    unfold readT tabV
    rw [takeN_be (by omega)]
    simp only
    rw [if_neg (by omega), rowsT_val L [] h.1 hl h.2.2]
    rfl
  unfold tabOf
  rw [e]
  simp only
  rw [if_pos trivial]
theorem tabOf_some {s : Bs} {L : List Told} (h : tabOf s = some L) : tabV L = s := by
  unfold tabOf at h
  cases e : readT s with
  | none => rw [e] at h; cases h
  | some M =>
    rw [e] at h
    simp only at h
    split at h
    · rename_i e; injection h with h; rw [← h]; exact e
    · cases h
theorem tabV_inj {L M : List Told} (hl : Tab L) (hm : Tab M) (h : tabV L = tabV M) : L = M := by
  have e := tabOf_val hl
  rw [h, tabOf_val hm] at e
  injection e with e
  exact e.symm
end Go.Proofs.YtmalclclopnlnaaGreat
/-
  Results as they lie in memory: entries, results, requests with their results.
-/
namespace Go.Proofs.YtmalclclopnlnaaGreat
open Go.RowKit

/-- An entry as it lies: its name, where its attributes are. -/
structure EnC where
  nm : Bs
  A : Option Addr
  c : Nat
  ats : List At
def EnC.cs (x : EnC) : List Value := [.string ⟨x.nm.toArray⟩, .slice x.A x.ats.length x.c]
def EnC.val (x : EnC) : Value := .agg #[.string ⟨x.nm.toArray⟩, .slice x.A x.ats.length x.c]
def EnC.ent (x : EnC) : Ent := ⟨x.nm, x.ats⟩
theorem EnC.cs_len (x : EnC) : x.cs.length = 2 := rfl
theorem EnC.cs_one (x : EnC) : ∀ u ∈ x.cs, u.oneCell' = true := by simp [EnC.cs, Value.oneCell']
/-- An entry's attributes lie in blocks of D; sizes are Go's. -/
structure EnC.Ok (D : Nat → Prop) (w : World) (x : EnC) : Prop where
  rd : Rd D w 2 At.cs x.A x.ats
  nm : x.nm.length ≤ 9223372036854775807
  ats : x.ats.length ≤ maxLen
  cap : x.ats.length ≤ x.c
  fit : ∀ a ∈ x.ats, a.T.length ≤ 9223372036854775807 ∧ a.V.length ≤ 9223372036854775807
/-- A result as it lies. -/
structure RC where
  code : Int
  yes : Bool
  A : Option Addr
  es : List EnC
  cA : Nat
  B : Option Addr
  cur : Bs
  cB : Nat
def RC.cs (x : RC) : List Value := [.int .i64 x.code, .bool x.yes, .slice x.A x.es.length x.cA, .slice x.B x.cur.length x.cB]
def RC.val (x : RC) : Value := .agg #[.int .i64 x.code, .bool x.yes, .slice x.A x.es.length x.cA, .slice x.B x.cur.length x.cB]
def RC.res (x : RC) : Res := ⟨x.code, x.yes, x.es.map EnC.ent, x.cur⟩
structure RC.Ok (D : Nat → Prop) (w : World) (x : RC) : Prop where
  rdE : Rd D w 2 EnC.cs x.A x.es
  ok : ∀ e ∈ x.es, e.Ok D w
  rdC : Rd D w 1 csU x.B x.cur
  code : -9223372036854775808 ≤ x.code ∧ x.code ≤ 9223372036854775807
  esl : x.es.length ≤ maxLen
  cul : x.cur.length ≤ maxLen
  cpA : x.es.length ≤ x.cA
  cpB : x.cur.length ≤ x.cB
def RC.nil (c : Int) : RC := ⟨c, false, none, [], 0, none, [], 0⟩
theorem RC.nil_res (c : Int) : (RC.nil c).res = ⟨c, false, [], []⟩ := rfl
theorem RC.nil_ok {D : Nat → Prop} {w : World} {c : Int} (h : -9223372036854775808 ≤ c ∧ c ≤ 9223372036854775807) : (RC.nil c).Ok D w :=
  ⟨Rd.nil _ _ _ _ _, fun e he => (by cases he), Rd.nil _ _ _ _ _, h, by simp [RC.nil, maxLen], by simp [RC.nil, maxLen], Nat.le_refl _, Nat.le_refl _⟩
section
variable {D D' C : Nat → Prop} {w w' : World}
theorem EnC.Ok.keep {x : EnC} (h : x.Ok D w) (hA : Agree D w w') : x.Ok D w' := ⟨h.rd.keep hA, h.nm, h.ats, h.cap, h.fit⟩
theorem EnC.Ok.mono {x : EnC} (h : x.Ok D w) (hd : ∀ b, D b → D' b) : x.Ok D' w := ⟨h.rd.mono hd, h.nm, h.ats, h.cap, h.fit⟩
theorem EnC.Ok.mod {x : EnC} (h : x.Ok D w) (hm : Mod C w w') (hd : ∀ b, D b → b < w.heap.size ∧ ¬ C b) : x.Ok D w' := h.keep (hm.agree hd)
theorem EnC.Ok.lt {x : EnC} (h : x.Ok D w) : x.Ok (fun b => D b ∧ b < w.heap.size) w := ⟨h.rd.lt At.cs_len (by decide), h.nm, h.ats, h.cap, h.fit⟩
theorem RC.Ok.keep {x : RC} (h : x.Ok D w) (hA : Agree D w w') : x.Ok D w' := ⟨h.rdE.keep hA, fun e he => (h.ok e he).keep hA, h.rdC.keep hA, h.code, h.esl, h.cul, h.cpA, h.cpB⟩
theorem RC.Ok.mono {x : RC} (h : x.Ok D w) (hd : ∀ b, D b → D' b) : x.Ok D' w := ⟨h.rdE.mono hd, fun e he => (h.ok e he).mono hd, h.rdC.mono hd, h.code, h.esl, h.cul, h.cpA, h.cpB⟩
theorem RC.Ok.mod {x : RC} (h : x.Ok D w) (hm : Mod C w w') (hd : ∀ b, D b → b < w.heap.size ∧ ¬ C b) : x.Ok D w' := h.keep (hm.agree hd)
theorem RC.Ok.lt {x : RC} (h : x.Ok D w) : x.Ok (fun b => D b ∧ b < w.heap.size) w := ⟨h.rdE.lt EnC.cs_len (by decide), fun e he => (h.ok e he).lt, h.rdC.lt csU_len (by decide), h.code, h.esl, h.cul, h.cpA, h.cpB⟩
end
/-- A client, a number, and a result, as they lie (in six cells). -/
structure AC where
  c : Nat
  n : Nat
  r : RC
def AC.cs (x : AC) : List Value := .int .u64 (x.c : Int) :: .int .u64 (x.n : Int) :: x.r.cs
def AC.val (x : AC) : Value := .agg #[.int .u64 (x.c : Int), .int .u64 (x.n : Int), x.r.val]
def AC.told (x : AC) : Told := ⟨x.c, x.n, x.r.res⟩
theorem AC.cs_len (x : AC) : x.cs.length = 6 := rfl
theorem AC.cs_one (x : AC) : ∀ u ∈ x.cs, u.oneCell' = true := by simp [AC.cs, RC.cs, Value.oneCell']
structure AC.Ok (D : Nat → Prop) (w : World) (x : AC) : Prop where
  c : x.c < 18446744073709551616
  n : x.n < 18446744073709551616
  r : x.r.Ok D w
theorem AC.Ok.keep {D : Nat → Prop} {w w' : World} {x : AC} (h : x.Ok D w) (hA : Agree D w w') : x.Ok D w' := ⟨h.c, h.n, h.r.keep hA⟩
theorem AC.Ok.mono {D D' : Nat → Prop} {w : World} {x : AC} (h : x.Ok D w) (hd : ∀ b, D b → D' b) : x.Ok D' w := ⟨h.c, h.n, h.r.mono hd⟩
theorem AC.Ok.mod {D C : Nat → Prop} {w w' : World} {x : AC} (h : x.Ok D w) (hm : Mod C w w') (hd : ∀ b, D b → b < w.heap.size ∧ ¬ C b) : x.Ok D w' := h.keep (hm.agree hd)
theorem AC.Ok.lt {D : Nat → Prop} {w : World} {x : AC} (h : x.Ok D w) : x.Ok (fun b => D b ∧ b < w.heap.size) w := ⟨h.c, h.n, h.r.lt⟩
end Go.Proofs.YtmalclclopnlnaaGreat
