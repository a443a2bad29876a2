/-
  Ranges of numbers: plain lists. No program.
-/
import Derived.Lib.Hide
namespace Go.Proofs.Ytaohdhblnjoihaa

structure Rg where
  lo : Int
  hi : Int
  v : Int
  deriving DecidableEq, Inhabited

def badR (x : Rg) : Bool := decide (x.lo < 0) || decide (x.hi < x.lo)
def ovl (x y : Rg) : Bool := decide (x.lo ≤ y.hi) && decide (y.lo ≤ x.hi)
def Good (l : List Rg) : Prop := ∀ x ∈ l, 0 ≤ x.lo ∧ x.lo ≤ x.hi
def Apart (l : List Rg) : Prop := l.Pairwise fun a b => ovl a b = false
instance (l : List Rg) : Decidable (Apart l) := inferInstanceAs (Decidable (List.Pairwise _ l))
def Asc (l : List Rg) : Prop := l.Pairwise fun a b => a.hi < b.lo
def LoUp (l : List Rg) : Prop := l.Pairwise fun a b => a.lo ≤ b.lo
def Rel2 (a b : Rg) : Prop := a.hi < b.lo ∧ ¬ (a.hi = b.lo - 1 ∧ a.v = b.v)
def Canon (l : List Rg) : Prop := Good l ∧ l.Pairwise Rel2
def insR : List Rg → Rg → List Rg
  | [], x => [x]
  | y :: ys, x => if y.lo < x.lo then y :: insR ys x else x :: y :: ys
def sortR (l : List Rg) : List Rg := l.foldl insR []
def joinS (acc : List Rg) (x : Rg) : List Rg :=
  match acc.getLast? with
  | none => acc ++ [x]
  | some y => if y.hi = x.lo - 1 ∧ y.v = x.v then acc.dropLast ++ [⟨y.lo, x.hi, y.v⟩] else acc ++ [x]
def joinR (l : List Rg) : List Rg := l.foldl joinS []
def errR (l : List Rg) : Int := if l.any badR then 2 else if Apart l then 0 else 9
def mapR (l : List Rg) : List Rg := if errR l = 0 then joinR (sortR l) else []
def inR (x : Rg) (r : Int) : Bool := decide (x.lo ≤ r) && decide (r ≤ x.hi)
def val (l : List Rg) (r : Int) : Option Int := (l.find? fun x => inR x r).map (·.v)
def tot (l : List Rg) : Int := l.foldr (fun x n => (x.hi - x.lo + 1) + n) 0

theorem good_iff (l : List Rg) : l.any badR = false ↔ Good l := by
  rw [List.any_eq_false]
  unfold Good badR
  constructor <;> intro h x hx <;> have := h x hx <;> simp at * <;> omega
theorem ovl_comm (x y : Rg) : ovl x y = ovl y x := by unfold ovl; exact Bool.and_comm _ _
theorem errR_zero {l : List Rg} : errR l = 0 ↔ Good l ∧ Apart l := by
  unfold errR
  rw [← good_iff]
  cases h : l.any badR
  · by_cases h2 : Apart l <;> simp [h2]
  · simp
theorem errR_cases (l : List Rg) : (errR l = 2 ∧ l.any badR = true) ∨ (errR l = 9 ∧ Good l ∧ ¬ Apart l) ∨ (errR l = 0 ∧ Good l ∧ Apart l) := by
  unfold errR
  rw [← good_iff]
  cases h : l.any badR
  · by_cases h2 : Apart l <;> simp [h2]
  · simp
theorem good_perm {l s : List Rg} (p : s.Perm l) : Good s ↔ Good l := ⟨fun h x hx => h x (p.mem_iff.2 hx), fun h x hx => h x (p.mem_iff.1 hx)⟩
theorem apart_perm {l s : List Rg} (p : s.Perm l) : Apart s ↔ Apart l := p.pairwise_iff (fun {x y} h => by rw [ovl_comm]; exact h)
theorem asc_of {l : List Rg} (hg : Good l) (hs : LoUp l) (ha : Apart l) : Asc l := by
  unfold Asc
  refine (hs.and ha).imp_of_mem ?_
  rintro a b ma mb ⟨h1, h2⟩
  have := hg a ma
  have := hg b mb
  simp [ovl] at h2
  omega
theorem apart_of_asc {l : List Rg} (ha : Asc l) : Apart l := ha.imp fun {a b} h => by simp [ovl]; omega

/-! ### Values -/
theorem val_nil (r : Int) : val [] r = none := rfl
theorem val_cons (x : Rg) (l : List Rg) (r : Int) : val (x :: l) r = if inR x r then some x.v else val l r := by
  unfold val; rw [List.find?_cons]; cases inR x r <;> rfl
theorem val_append (l k : List Rg) (r : Int) : val (l ++ k) r = (val l r).or (val k r) := by
  unfold val; rw [List.find?_append]; cases List.find? (fun x => inR x r) l <;> rfl
theorem val_some {l : List Rg} {r v : Int} (h : val l r = some v) : ∃ z ∈ l, inR z r = true ∧ z.v = v := by
  unfold val at h
  cases hf : l.find? fun x => inR x r with
  | none => rw [hf] at h; cases h
  | some z => rw [hf] at h; cases h; exact ⟨z, List.mem_of_find?_eq_some hf, by have := List.find?_some hf; exact this, rfl⟩
theorem val_none {l : List Rg} {r : Int} : val l r = none ↔ ∀ z ∈ l, inR z r = false := by
  unfold val
  rw [Option.map_eq_none_iff, List.find?_eq_none]
  constructor <;> intro h z hz <;> simpa using h z hz
theorem inR_ovl {x y : Rg} {r : Int} (h1 : inR x r = true) (h2 : inR y r = true) : ovl x y = true := by simp [inR, ovl] at *; omega
theorem val_mem {l : List Rg} (ha : Apart l) {z : Rg} {r : Int} (hz : z ∈ l) (hr : inR z r = true) : val l r = some z.v := by
  induction l with
  | nil => cases hz
  | cons x l ih =>
    rw [val_cons]
    have hp := List.pairwise_cons.1 ha
    rcases List.mem_cons.1 hz with rfl | hz
    · rw [if_pos hr]
    · rw [if_neg, ih hp.2 hz]
      intro hx
      have := hp.1 z hz
      rw [inR_ovl hx hr] at this
      cases this
theorem val_perm {l s : List Rg} (p : s.Perm l) (ha : Apart l) (r : Int) : val s r = val l r := by
  cases h : val l r with
  | none => exact val_none.2 fun z hz => val_none.1 h z (p.mem_iff.1 hz)
  | some v =>
    obtain ⟨z, hz, hr, rfl⟩ := val_some h
    exact val_mem ((apart_perm p).2 ha) (p.mem_iff.2 hz) hr

/-! ### How many -/
theorem tot_cons (x : Rg) (l : List Rg) : tot (x :: l) = (x.hi - x.lo + 1) + tot l := rfl
theorem tot_append (l k : List Rg) : tot (l ++ k) = tot l + tot k := by
  induction l with
  | nil => simp [tot]
  | cons x l ih => rw [List.cons_append, tot_cons, ih, tot_cons]; omega
theorem tot_perm {l s : List Rg} (p : s.Perm l) : tot s = tot l := by
  unfold tot
  induction p with
  | nil => rfl
  | cons x _ ih => simp [ih]
  | swap x y l => simp only [List.foldr_cons]; omega
  | trans _ _ ih1 ih2 => rw [ih1, ih2]

/-! ### Sorted -/
theorem insR_perm (l : List Rg) (x : Rg) : (insR l x).Perm (x :: l) := by
  induction l with
  | nil => exact List.Perm.refl _
  | cons y ys ih =>
    unfold insR
    split
    · exact (List.Perm.cons y ih).trans (List.Perm.swap x y ys)
    · exact List.Perm.refl _
theorem insR_up (l : List Rg) (x : Rg) (h : LoUp l) : LoUp (insR l x) := by
  induction l with
  | nil => exact List.pairwise_singleton _ _
  | cons y ys ih =>
    have hp := List.pairwise_cons.1 h
    unfold insR
    split
    · rename_i hlt
      refine List.pairwise_cons.2 ⟨fun z hz => ?_, ih hp.2⟩
      rcases List.mem_cons.1 ((insR_perm ys x).mem_iff.1 hz) with rfl | hz
      · omega
      · exact hp.1 z hz
    · rename_i hge
      refine List.pairwise_cons.2 ⟨fun z hz => ?_, h⟩
      rcases List.mem_cons.1 hz with rfl | hz
      · omega
      · have := hp.1 z hz; omega
theorem sortR_aux (l acc : List Rg) (h : LoUp acc) : LoUp (l.foldl insR acc) ∧ (l.foldl insR acc).Perm (acc ++ l) := by
  induction l generalizing acc with
  | nil => exact ⟨h, by simp⟩
  | cons x l ih =>
    obtain ⟨h1, h2⟩ := ih (insR acc x) (insR_up acc x h)
    refine ⟨h1, h2.trans ?_⟩
    refine (List.Perm.append_right l (insR_perm acc x)).trans ?_
    rw [List.cons_append]
    exact List.perm_middle.symm
theorem sortR_up (l : List Rg) : LoUp (sortR l) := (sortR_aux l [] List.Pairwise.nil).1
theorem sortR_perm (l : List Rg) : (sortR l).Perm l := by have := (sortR_aux l [] List.Pairwise.nil).2; rwa [List.nil_append] at this
theorem sortR_snoc (l : List Rg) (x : Rg) : sortR (l ++ [x]) = insR (sortR l) x := by unfold sortR; rw [List.foldl_append]; rfl

/-! ### Joined -/
theorem joinS_nil (x : Rg) : joinS [] x = [x] := rfl
theorem joinS_snoc (i : List Rg) (y x : Rg) : joinS (i ++ [y]) x = if y.hi = x.lo - 1 ∧ y.v = x.v then i ++ [⟨y.lo, x.hi, y.v⟩] else i ++ [y] ++ [x] := by
  unfold joinS; rw [List.getLast?_concat, List.dropLast_concat]
theorem snoc_cases (l : List Rg) : l = [] ∨ ∃ i y, l = i ++ [y] := by
  rcases List.eq_nil_or_concat l with h | ⟨i, y, h⟩
  · exact .inl h
  · exact .inr ⟨i, y, by rw [h, List.concat_eq_append]⟩
theorem joinS_ne (acc : List Rg) (x : Rg) : ∃ i y, joinS acc x = i ++ [y] ∧ y.hi = x.hi := by
  rcases snoc_cases acc with rfl | ⟨i, y, rfl⟩
  · exact ⟨[], x, rfl, rfl⟩
  · rw [joinS_snoc]
    split
    · exact ⟨i, _, rfl, rfl⟩
    · exact ⟨i ++ [y], x, rfl, rfl⟩
theorem joinR_snoc (l : List Rg) (x : Rg) : joinR (l ++ [x]) = joinS (joinR l) x := by unfold joinR; rw [List.foldl_append]; rfl
theorem joinS_facts {acc : List Rg} {x : Rg} (hc : Canon acc) (hx : 0 ≤ x.lo ∧ x.lo ≤ x.hi) (hl : ∀ y ∈ acc, y.hi < x.lo) :
    Canon (joinS acc x) ∧ (∀ r, val (joinS acc x) r = val (acc ++ [x]) r) ∧ tot (joinS acc x) = tot (acc ++ [x]) ∧ ∀ y ∈ joinS acc x, y.hi ≤ x.hi := by
  rcases snoc_cases acc with rfl | ⟨i, y, rfl⟩
  · refine ⟨⟨fun z hz => ?_, List.pairwise_singleton _ _⟩, fun r => rfl, rfl, fun z hz => ?_⟩
    · obtain rfl := List.mem_singleton.1 hz; exact hx
    · obtain rfl := List.mem_singleton.1 hz; exact Int.le_refl _
  · obtain ⟨hg, hp⟩ := hc
    have hp' := List.pairwise_append.1 hp
    have hy := hg y (by simp)
    rw [joinS_snoc]
    split
    · rename_i hj
      refine ⟨⟨fun z hz => ?_, List.pairwise_append.2 ⟨hp'.1, List.pairwise_singleton _ _, fun a ha b hb => ?_⟩⟩, fun r => ?_, ?_, fun z hz => ?_⟩
      · rcases List.mem_append.1 hz with hz | hz
        · exact hg z (by simp [hz])
        · obtain rfl := List.mem_singleton.1 hz; exact ⟨hy.1, by show y.lo ≤ x.hi; omega⟩
      · obtain rfl := List.mem_singleton.1 hb
        exact hp'.2.2 a ha y (by simp)
      · rw [val_append, List.append_assoc, val_append]
        congr 1
        simp only [List.cons_append, List.nil_append, val_cons, val_nil, inR, hj.2]
        by_cases h1 : y.lo ≤ r <;> by_cases h2 : r ≤ y.hi <;> by_cases h3 : x.lo ≤ r <;> by_cases h4 : r ≤ x.hi <;> simp [h1, h2, h3, h4] <;> omega
      · (have t0 : tot [] = 0 := rfl); simp only [tot_append, tot_cons]; omega
      · rcases List.mem_append.1 hz with hz | hz
        · have := hl z (by simp [hz]); omega
        · obtain rfl := List.mem_singleton.1 hz; exact Int.le_refl _
    · rename_i hj
      refine ⟨⟨fun z hz => ?_, List.pairwise_append.2 ⟨hp, List.pairwise_singleton _ _, fun a ha b hb => ?_⟩⟩, fun r => rfl, rfl, fun z hz => ?_⟩
      · rcases List.mem_append.1 hz with hz | hz
        · exact hg z hz
        · obtain rfl := List.mem_singleton.1 hz; exact hx
      · obtain rfl := List.mem_singleton.1 hb
        refine ⟨hl a ha, fun hh => ?_⟩
        rcases List.mem_append.1 ha with ha' | ha'
        · have := (hp'.2.2 a ha' y (by simp)).1
          have := hl y (by simp)
          omega
        · obtain rfl := List.mem_singleton.1 ha'; exact hj hh
      · rcases List.mem_append.1 hz with hz | hz
        · have := hl z hz; omega
        · obtain rfl := List.mem_singleton.1 hz; exact Int.le_refl _
theorem joinR_aux (s acc : List Rg) (hc : Canon acc) (hg : Good s) (ha : Asc s) (hl : ∀ y ∈ acc, ∀ x ∈ s, y.hi < x.lo) :
    Canon (s.foldl joinS acc) ∧ (∀ r, val (s.foldl joinS acc) r = val (acc ++ s) r) ∧ tot (s.foldl joinS acc) = tot (acc ++ s) := by
  induction s generalizing acc with
  | nil => simp [hc]
  | cons x s ih =>
    obtain ⟨hax, has⟩ := List.pairwise_cons.1 ha
    obtain ⟨h1, h2, h3, h4⟩ := joinS_facts hc (hg x (by simp)) (fun y hy => hl y hy x (by simp))
    obtain ⟨k1, k2, k3⟩ := ih (joinS acc x) h1 (fun z hz => hg z (by simp [hz])) has (fun y hy z hz => by
      have := h4 y hy
      have := hax z hz
      omega)
    refine ⟨k1, fun r => ?_, ?_⟩
    · rw [List.foldl_cons, k2 r, val_append, h2 r, ← val_append, List.append_assoc]; rfl
    · rw [List.foldl_cons, k3, tot_append, h3, ← tot_append, List.append_assoc]; rfl
theorem joinR_facts {s : List Rg} (hg : Good s) (ha : Asc s) : Canon (joinR s) ∧ (∀ r, val (joinR s) r = val s r) ∧ tot (joinR s) = tot s := by
  have := joinR_aux s [] ⟨fun _ h => (by cases h), List.Pairwise.nil⟩ hg ha (fun _ h => (by cases h))
  simpa [joinR] using this
theorem joinR_last (s : List Rg) (x : Rg) : ∃ i y, joinR (s ++ [x]) = i ++ [y] ∧ y.hi = x.hi := by rw [joinR_snoc]; exact joinS_ne _ _
theorem joinR_nil : joinR [] = [] := rfl

/-! ### Such a list is told by its values -/
theorem canon_asc {l : List Rg} (h : Canon l) : Asc l := h.2.imp fun {_ _} h => h.1
theorem canon_apart {l : List Rg} (h : Canon l) : Apart l := apart_of_asc (canon_asc h)
theorem canon_first {x y : Rg} {xs ys : List Rg} (hx : Canon (x :: xs)) (hy : Canon (y :: ys)) (h : ∀ r, val (x :: xs) r = val (y :: ys) r) : y.lo ≤ x.lo := by
  have gx := hx.1 x (by simp)
  have h1 : val (x :: xs) x.lo = some x.v := by rw [val_cons, if_pos (by simp [inR]; omega)]
  rw [h] at h1
  obtain ⟨z, hz, hr, _⟩ := val_some h1
  simp [inR] at hr
  rcases List.mem_cons.1 hz with rfl | hz
  · exact hr.1
  · have := (List.pairwise_cons.1 hy.2).1 z hz
    have := hy.1 y (by simp)
    have := this.1
    unfold Rel2 at *
    omega
theorem canon_hi {x y : Rg} {xs ys : List Rg} (hx : Canon (x :: xs)) (hy : Canon (y :: ys)) (h : ∀ r, val (x :: xs) r = val (y :: ys) r) (hlo : x.lo = y.lo) (hv : x.v = y.v) : y.hi ≤ x.hi := by
  rcases Int.lt_or_le x.hi y.hi with hlt | hle
  · exfalso
    have gx := hx.1 x (by simp)
    have h1 : val (y :: ys) (x.hi + 1) = some y.v := by rw [val_cons, if_pos (by simp [inR]; omega)]
    rw [← h] at h1
    obtain ⟨z, hz, hr, hzv⟩ := val_some h1
    simp [inR] at hr
    rcases List.mem_cons.1 hz with rfl | hz
    · omega
    · have h2 := (List.pairwise_cons.1 hx.2).1 z hz
      unfold Rel2 at h2
      exact h2.2 ⟨by omega, by rw [hv, hzv]⟩
  · exact hle
theorem canon_unique : ∀ {xs ys : List Rg}, Canon xs → Canon ys → (∀ r, val xs r = val ys r) → xs = ys
  | [], [], _, _, _ => rfl
  | [], y :: ys, _, hy, h => by
    have gy := hy.1 y (by simp)
    have := h y.lo
    rw [val_nil, val_cons, if_pos (by simp [inR]; omega)] at this
    cases this
  | x :: xs, [], hx, _, h => by
    have gx := hx.1 x (by simp)
    have := h x.lo
    rw [val_nil, val_cons, if_pos (by simp [inR]; omega)] at this
    cases this
  | x :: xs, y :: ys, hx, hy, h => by
    have e1 : x.lo = y.lo := by have := canon_first hx hy h; have := canon_first hy hx (fun r => (h r).symm); omega
    have gx := hx.1 x (by simp)
    have gy := hy.1 y (by simp)
    have e2 : x.v = y.v := by
      have := h x.lo
      rw [val_cons, if_pos (by simp [inR]; omega), val_cons, if_pos (by simp [inR]; omega)] at this
      injection this
    have e3 : x.hi = y.hi := by have := canon_hi hx hy h e1 e2; have := canon_hi hy hx (fun r => (h r).symm) e1.symm e2.symm; omega
    have exy : x = y := by cases x; cases y; simp_all
    subst exy
    have hx' : Canon xs := ⟨fun z hz => hx.1 z (by simp [hz]), (List.pairwise_cons.1 hx.2).2⟩
    have hy' : Canon ys := ⟨fun z hz => hy.1 z (by simp [hz]), (List.pairwise_cons.1 hy.2).2⟩
    refine congrArg _ (canon_unique hx' hy' fun r => ?_)
    have hr := h r
    rw [val_cons, val_cons] at hr
    by_cases hin : inR x r = true
    · have n1 : ∀ {l : List Rg}, (∀ z ∈ l, Rel2 x z) → val l r = none := fun hl => val_none.2 fun z hz => by
        have := hl z hz
        unfold Rel2 at this
        simp [inR] at hin ⊢
        omega
      rw [n1 (List.pairwise_cons.1 hx.2).1, n1 (List.pairwise_cons.1 hy.2).1]
    · simpa [hin] using hr

/-! ### The map -/
theorem mapR_facts {l : List Rg} (h : errR l = 0) : Canon (mapR l) ∧ (∀ r, val (mapR l) r = val l r) ∧ tot (mapR l) = tot l := by
  obtain ⟨hg, ha⟩ := errR_zero.1 h
  have p := sortR_perm l
  obtain ⟨h1, h2, h3⟩ := joinR_facts ((good_perm p).2 hg) (asc_of ((good_perm p).2 hg) (sortR_up l) ((apart_perm p).2 ha))
  unfold mapR
  rw [if_pos h]
  exact ⟨h1, fun r => (h2 r).trans (val_perm p ha r), h3.trans (tot_perm p)⟩
/-- What is sorted otherwise is joined to the same. -/
theorem join_sorted {l s : List Rg} (p : s.Perm l) (hg : Good l) (ha : Asc s) : errR l = 0 ∧ joinR s = mapR l := by
  have hap : Apart l := (apart_perm p).1 (apart_of_asc ha)
  have h0 : errR l = 0 := errR_zero.2 ⟨hg, hap⟩
  obtain ⟨h1, h2, _⟩ := joinR_facts ((good_perm p).2 hg) ha
  obtain ⟨k1, k2, _⟩ := mapR_facts h0
  exact ⟨h0, canon_unique h1 k1 fun r => by rw [h2, k2, val_perm p hap]⟩
theorem mapR_eq {l k : List Rg} (hl : errR l = 0) (hk : errR k = 0) (h : ∀ r, val l r = val k r) : mapR l = mapR k :=
  canon_unique (mapR_facts hl).1 (mapR_facts hk).1 fun r => by rw [(mapR_facts hl).2.1, (mapR_facts hk).2.1, h]
theorem mapR_own {l : List Rg} (h : Canon l) : errR l = 0 ∧ mapR l = l := by
  have h0 : errR l = 0 := errR_zero.2 ⟨h.1, canon_apart h⟩
  exact ⟨h0, canon_unique (mapR_facts h0).1 h (mapR_facts h0).2.1⟩
theorem mapR_perm {l s : List Rg} (p : s.Perm l) (h : errR l = 0) : errR s = 0 ∧ mapR s = mapR l := by
  obtain ⟨hg, ha⟩ := errR_zero.1 h
  have h0 : errR s = 0 := errR_zero.2 ⟨(good_perm p).2 hg, (apart_perm p).2 ha⟩
  exact ⟨h0, mapR_eq h0 h fun r => val_perm p ha r⟩

/-! ### Going over what is sorted -/
theorem up_at {s : List Rg} (h : LoUp s) {i j : Nat} (hi : i < s.length) (hj : j < s.length) (hij : i < j) : s[i].lo ≤ s[j].lo := List.pairwise_iff_getElem.1 h i j hi hj hij
theorem asc_step {s : List Rg} (hg : Good s) {k : Nat} (hk : k + 1 < s.length) (ha : Asc (s.take (k + 1))) (hlt : s[k].hi < s[k + 1].lo) : Asc (s.take (k + 2)) := by
  unfold Asc at *
  rw [List.take_succ_eq_append_getElem hk]
  refine List.pairwise_append.2 ⟨ha, List.pairwise_singleton _ _, fun a hm b hb => ?_⟩
  obtain rfl := List.mem_singleton.1 hb
  obtain ⟨i, hi, rfl⟩ := List.getElem_of_mem hm
  simp only [List.length_take] at hi
  rw [List.getElem_take]
  by_cases hik : i = k
  · subst hik; exact hlt
  · have h1 := List.pairwise_iff_getElem.1 ha i k (by simp; omega) (by simp; omega) (by omega)
    simp only [List.getElem_take] at h1
    have := hg s[k] (List.getElem_mem _)
    omega
theorem asc_one (s : List Rg) : Asc (s.take 1) := by
  unfold Asc
  cases s with
  | nil => exact List.Pairwise.nil
  | cons x l => exact List.pairwise_singleton _ _
theorem asc_zero (s : List Rg) : Asc (s.take 0) := List.Pairwise.nil
theorem not_apart {s : List Rg} (hg : Good s) (hs : LoUp s) {k : Nat} (hk : k + 1 < s.length) (hge : s[k + 1].lo ≤ s[k].hi) : ¬ Apart s := by
  intro ha
  have h1 := List.pairwise_iff_getElem.1 ha k (k + 1) (by omega) hk (by omega)
  have h2 := up_at hs (by omega) hk (Nat.lt_succ_self k)
  have := hg s[k + 1] (List.getElem_mem _)
  simp [ovl] at h1
  omega
end Go.Proofs.Ytaohdhblnjoihaa
