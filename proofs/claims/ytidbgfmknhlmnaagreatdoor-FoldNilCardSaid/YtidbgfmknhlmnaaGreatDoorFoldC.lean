/-
  Foldings as they are read: what lies in memory.
-/
import Derived.Test.YtidbgfmknhlmnaaGreatDoorFoldB
namespace Go.Proofs.YtidbgfmknhlmnaaGreatDoor
open Go.RowKit Go.Shelf
attribute [local go_sem] Oper.semAt_some

/-- A line kept, with its row's place. -/
structure FH where
  A : Option Addr
  c : Nat
  x : FL
def FH.sl (h : FH) : Value := .slice h.A h.x.row.length h.c
def fullM (hs : List FH) : List (Int × Value) := (hs.filter fun h => isCF h.x).map fun h => ((h.x.R : Int), h.sl)
def simpM (hs : List FH) : List (Int × Value) := (hs.filter fun h => isCS h.x).map fun h => ((h.x.R : Int), .int .i32 (at_ (natI h.x.row) 0))
theorem clash_cf {y x : FL} (hy : isCF y = true) (hx : isCF x = true) : clashS y.S x.S = true := by
  simp only [isCF, Bool.or_eq_true, beq_iff_eq] at hy hx
  rcases hy with e | e <;> rcases hx with f | f <;> rw [e, f] <;> decide
theorem clash_cs {y x : FL} (hy : isCS y = true) (hx : isCS x = true) : clashS y.S x.S = true := by
  simp only [isCS, Bool.or_eq_true, beq_iff_eq] at hy hx
  rcases hy with e | e <;> rcases hx with f | f <;> rw [e, f] <;> decide
theorem full_new {hs : List FH} {x : FL} (hx : isCF x = true) (h : clashL (hs.map FH.x) x = false) : mGet (x.R : Int) (fullM hs) = none := by
  rw [mGet_none]
  intro p hp e
  unfold fullM at hp
  obtain ⟨y, hy, rfl⟩ := List.mem_map.1 hp
  obtain ⟨hy, hc⟩ := List.mem_filter.1 hy
  have := List.any_eq_false.1 h y.x (List.mem_map_of_mem hy)
  have e2 : y.x.R = x.R := Int.ofNat.inj e
  simp [e2, clash_cf hc hx] at this
theorem simp_new {hs : List FH} {x : FL} (hx : isCS x = true) (h : clashL (hs.map FH.x) x = false) : mGet (x.R : Int) (simpM hs) = none := by
  rw [mGet_none]
  intro p hp e
  unfold simpM at hp
  obtain ⟨y, hy, rfl⟩ := List.mem_map.1 hp
  obtain ⟨hy, hc⟩ := List.mem_filter.1 hy
  have := List.any_eq_false.1 h y.x (List.mem_map_of_mem hy)
  have e2 : y.x.R = x.R := Int.ofNat.inj e
  simp [e2, clash_cs hc hx] at this
theorem full_put {hs : List FH} {h : FH} (hx : isCF h.x = true) (hc : clashL (hs.map FH.x) h.x = false) : mPut (h.x.R : Int) h.sl (fullM hs) = fullM (hs ++ [h]) := by
  rw [mPut_new _ (full_new hx hc)]
  simp [fullM, List.filter_append, hx]
theorem full_same {hs : List FH} {h : FH} (hx : isCF h.x = false) : fullM hs = fullM (hs ++ [h]) := by
  simp [fullM, List.filter_append, hx]
theorem simp_put {hs : List FH} {h : FH} (hx : isCS h.x = true) (hc : clashL (hs.map FH.x) h.x = false) : mPut (h.x.R : Int) (.int .i32 (at_ (natI h.x.row) 0)) (simpM hs) = simpM (hs ++ [h]) := by
  rw [mPut_new _ (simp_new hx hc)]
  simp [simpM, List.filter_append, hx]
theorem simp_same {hs : List FH} {h : FH} (hx : isCS h.x = false) : simpM hs = simpM (hs ++ [h]) := by
  simp [simpM, List.filter_append, hx]
/-- The statuses that each code point had. -/
def hadV (l : Bs) : Value := .agg #[.string ⟨l.toArray⟩]
def hadP (M : List (Int × Value)) (ls : List FL) : Prop := ∀ r : Nat, (mGet (r : Int) M).getD (hadV []) = hadV (hadL ls r)
theorem hadP.nil : hadP [] [] := fun _ => rfl
theorem hadP.put {M : List (Int × Value)} {ls : List FL} (h : hadP M ls) (x : FL) : hadP (mPut (x.R : Int) (hadV (hadL ls x.R ++ x.S)) M) (ls ++ [x]) := fun r => by
  rw [mGet_put, hadL_snoc]
  by_cases e : r = x.R
  · subst e; simp
  · have e2 : ¬ (r : Int) = (x.R : Int) := by omega
    rw [if_neg e2, if_neg (fun h => e h.symm), List.append_nil]
    exact h r
structure RdK where
  c2 : Nat
  c3 : Nat
  fb : Nat
  m1 : Nat
  m2 : Nat
  hc : Nat
  hm : Nat
  dc : Nat
  d : Nat
  b1 : Nat
  b3 : Nat
def RdK.base (K : RdK) : List Nat := [K.c2, K.c3, K.fb, K.m1, K.m2, K.hc, K.hm, K.dc, K.d, K.b1, K.b3]
structure RdSt (K : RdK) (hs : List FH) (C : Nat → Prop) (W : World) : Prop where
  r2 : W.heap[K.c2]? = some (.cells #[.pointer none] 24 (0, 0))
  r3 : W.heap[K.c3]? = some (.cells #[.nilIface] 43 (0, 0))
  fm : FoldM W K.fb K.m1 K.m2 (fullM hs) (simpM hs)
  hc : W.cell? ⟨K.hc, 0, none⟩ = some (.map (some K.hm))
  hm : ∃ M, W.heap[K.hm]? = some (mapO kvK M) ∧ hadP M (hs.map FH.x)
  dc : W.cell? ⟨K.dc, 0, none⟩ = some (.map (some K.d))
  st : StAt W K.d K.fb K.b1 K.b3
  rows : ∀ h ∈ hs, Rd (fun b => C b ∧ b ∉ K.base) W 1 csI h.A (natI h.x.row)
  own : ∀ b ∈ K.base, C b
theorem StAt.agree {w w' : World} {d fb b1 b3 : Nat} {C : Nat → Prop} (h : StAt w d fb b1 b3) (hA : Agree C w w') (h1 : C b1) (h3 : C b3) (hd : C d) : StAt w' d fb b1 b3 :=
  ⟨(hA.cell (p := ⟨b1, 0, none⟩) h1).trans h.p1, (hA.cell (p := ⟨b3, 0, none⟩) h3).trans h.p3, (hA.block _ hd).trans h.mp⟩
theorem StAt.mod {w w' : World} {d fb b1 b3 : Nat} {C : Nat → Prop} (h : StAt w d fb b1 b3) (hm : Mod C w w') (h1 : ¬ C b1) (h3 : ¬ C b3) (hd : ¬ C d) : StAt w' d fb b1 b3 :=
  ⟨cell_mod h.p1 hm h1, cell_mod h.p3 hm h3, hp_mod h.mp hm hd⟩
theorem FoldM.agree {w w' : World} {fb m1 m2 : Nat} {LF LS : List (Int × Value)} {C : Nat → Prop} (h : FoldM w fb m1 m2 LF LS) (hA : Agree C w w') (n0 : C fb) (n1 : C m1) (n2 : C m2) : FoldM w' fb m1 m2 LF LS :=
  ⟨(hA.cell (p := ⟨fb, 0, none⟩) n0).trans h.c1, (hA.cell (p := ⟨fb, 1, none⟩) n0).trans h.c2, (hA.block _ n1).trans h.h1, (hA.block _ n2).trans h.h2, h.ne⟩
theorem RdSt.agree {K : RdK} {hs : List FH} {C : Nat → Prop} {W W' : World} (h : RdSt K hs C W) (hA : Agree C W W') : RdSt K hs C W' := by
  obtain ⟨M, hM, hP⟩ := h.hm
  have o := h.own
  simp only [RdK.base, List.mem_cons, List.not_mem_nil, or_false, forall_eq_or_imp, forall_eq] at o
  obtain ⟨o1, o2, o3, o4, o5, o6, o7, o8, o9, o10, o11⟩ := o
  exact ⟨hp_agree h.r2 hA o1, hp_agree h.r3 hA o2, h.fm.agree hA o3 o4 o5, (hA.cell (p := ⟨K.hc, 0, none⟩) o6).trans h.hc, ⟨M, (hA.block _ o7).trans hM, hP⟩, (hA.cell (p := ⟨K.dc, 0, none⟩) o8).trans h.dc, h.st.agree hA o10 o11 o9, fun x hx => (h.rows x hx).keep (hA.mono fun b hb => hb.1), h.own⟩
theorem RdSt.mono {K : RdK} {hs : List FH} {C C' : Nat → Prop} {W : World} (h : RdSt K hs C W) (hC : ∀ b, C b → C' b) : RdSt K hs C' W :=
  { h with rows := fun x hx => (h.rows x hx).mono fun b hb => ⟨hC b hb.1, hb.2⟩, own := fun b hb => hC b (h.own b hb) }
/-- Where things of different kinds lie apart. -/
structure RdK.Apart (K : RdK) : Prop where
  d1 : K.d ≠ K.m1
  d2 : K.d ≠ K.m2
  d3 : K.d ≠ K.hm
  h1 : K.hm ≠ K.m1
  h2 : K.hm ≠ K.m2
theorem RdSt.step {K : RdK} {hs : List FH} {h : FH} {C : Nat → Prop} {W W' : World} (hst : RdSt K hs C W) (M : Mod (fun b => b = K.m1 ∨ b = K.m2 ∨ b = K.hm) W W') (hlt : ∀ b, C b → b < W.heap.size)
    (fm : FoldM W' K.fb K.m1 K.m2 (fullM (hs ++ [h])) (simpM (hs ++ [h]))) (hm : ∃ Mh, W'.heap[K.hm]? = some (mapO kvK Mh) ∧ hadP Mh ((hs ++ [h]).map FH.x))
    (hr : Rd (fun b => W.heap.size ≤ b ∧ b < W'.heap.size) W' 1 csI h.A (natI h.x.row)) (hK : K.Apart) : RdSt K (hs ++ [h]) (fun b => C b ∨ (W.heap.size ≤ b ∧ b < W'.heap.size)) W' := by
  obtain ⟨M0, hM0, -⟩ := hst.hm
  have ce : ∀ {b i v}, W.cell? ⟨b, i, none⟩ = some v → ¬ (b = K.m1 ∨ b = K.m2 ∨ b = K.hm) := fun hc hb => by
    rcases hb with hb | hb | hb
    · exact cell_ne_map hc hst.fm.h1 hb
    · exact cell_ne_map hc hst.fm.h2 hb
    · exact cell_ne_map hc hM0 hb
  refine ⟨hp_mod hst.r2 M (ce (hp_cell hst.r2 0)), hp_mod hst.r3 M (ce (hp_cell hst.r3 0)), fm, cell_mod hst.hc M (ce hst.hc), hm, cell_mod hst.dc M (ce hst.dc), hst.st.mod M (ce hst.st.p1) (ce hst.st.p3) (fun hb => ?_), fun x hx => ?_, fun b hb => .inl (hst.own b hb)⟩
  · rcases hb with hb | hb | hb
    · exact hK.d1 hb
    · exact hK.d2 hb
    · exact hK.d3 hb
  · have hbase : ∀ b, b < W.heap.size ∨ W.heap.size ≤ b := fun b => Nat.lt_or_ge b _
    rcases List.mem_append.1 hx with hx | hx
    · refine ((hst.rows x hx).keep (M.agree fun b hb => ⟨hlt b hb.1, fun hc => hb.2 ?_⟩)).mono fun b hb => ⟨.inl hb.1, hb.2⟩
      rcases hc with rfl | rfl | rfl <;> simp [RdK.base]
    · simp at hx; subst hx
      exact hr.mono fun b hb => ⟨.inr hb, fun hc => by have := hlt b (hst.own b hc); omega⟩
/-- An error of a table, as it lies. -/
def nmFold : Bs := [102, 111, 108, 100, 105, 110, 103]
def ErrAt (W : World) (b : Nat) (n why : Int) : Prop := W.heap[b]? = some (.cells #[.string ⟨nmFold.toArray⟩, .int .i64 n, .int .i64 why] 52 (0, 0))
def lpI (l : Bs) (K : RdK) (k : Nat) (C : Nat → Prop) (W : World) : Prop := ∃ hs, RdSt K hs C W ∧ readL [] ((linesT l).take k) = .inl (hs.map FH.x)
def lpX (l : Bs) (K : RdK) (c : Code) (_k : Nat) (C : Nat → Prop) (W : World) : Prop := c = .ret ∧ ∃ (b n : Nat), W.heap[K.c2]? = some (.cells #[.pointer none] 24 (0, 0)) ∧ W.heap[K.c3]? = some (.cells #[.iface 47 (ptrV b)] 43 (0, 0)) ∧ ErrAt W b n 6 ∧ C b ∧ C K.c2 ∧ C K.c3 ∧ foldT l = .inr n
def lpA (l : Bs) (K : RdK) (T enc : Array Value) (a' : Act) (k : Nat) (C : Nat → Prop) (W : World) : Prop :=
  ∃ v0 v1, enc = #[v0, v1] ∧ a' = { tmps := (((T.setIfInBounds 29 v0).setIfInBounds 30 v1).setIfInBounds 7 v0).setIfInBounds 8 v1, defers := [] } ∧ lpI l K k C W
theorem lpI_stab (l : Bs) (K : RdK) : Stab (lpI l K) := fun _ _ _ _ ⟨hs, h1, h2⟩ hA => ⟨hs, h1.agree hA, h2⟩
theorem lpX_stab (l : Bs) (K : RdK) (c : Code) : Stab (lpX l K c) := fun _ _ _ _ ⟨h0, b, n, h1, h2, h3, c1, c2, c3, h4⟩ hA => ⟨h0, b, n, hp_agree h1 hA c2, hp_agree h2 hA c3, hp_agree h3 hA c1, c1, c2, c3, h4⟩
theorem lpA_stab (l : Bs) (K : RdK) (T enc : Array Value) (a' : Act) : Stab (lpA l K T enc a') := fun _ _ _ _ ⟨v0, v1, e1, e2, h⟩ hA => ⟨v0, v1, e1, e2, lpI_stab l K _ _ _ _ h hA⟩
theorem readL_app (l : List FL) (a b : List (Nat × List Bs)) : readL l (a ++ b) = match readL l a with | .inl l' => readL l' b | .inr n => .inr n := by
  induction a generalizing l with
  | nil => rfl
  | cons x r ih =>
    rw [List.cons_append, readL, readL]
    cases putL l x.2 with
    | none => rfl
    | some l' => exact ih l'
theorem read_stop {ls : List FL} {L : List (Nat × List Bs)} {k : Nat} {x : Nat × List Bs} (h : readL [] (L.take k) = .inl ls) (hx : L[k]? = some x) (hp : putL ls x.2 = none) : readL [] L = .inr x.1 := by
  have hk := (List.getElem?_eq_some_iff.1 hx).1
  have he : L[k] = x := by rw [List.getElem?_eq_getElem hk] at hx; simpa using hx
  rw [← List.take_append_drop k L, readL_app, h, List.drop_eq_getElem_cons hk, he]
  exact readL_stop _ _ _ hp
theorem read_step {ls ls' : List FL} {L : List (Nat × List Bs)} {k : Nat} {x : Nat × List Bs} (h : readL [] (L.take k) = .inl ls) (hx : L[k]? = some x) (hp : putL ls x.2 = some ls') : readL [] (L.take (k + 1)) = .inl ls' := by
  have hk := (List.getElem?_eq_some_iff.1 hx).1
  have he : L[k] = x := by rw [List.getElem?_eq_getElem hk] at hx; simpa using hx
  rw [List.take_succ_eq_append_getElem hk, readL_app, h, he]
  show readL ls [x] = _
  rw [readL_step _ _ _ _ hp]; rfl
theorem linesL_el {M : Nat} : ∀ (n : Nat) (xs : List Bs), (∀ x ∈ xs, x.length ≤ M) → ∀ z ∈ linesL n xs, ∀ f ∈ z.2, f.length ≤ M
  | _, [], _, z, hz => by simp [linesL] at hz
  | n, x :: xs, h, z, hz => by
    rw [linesL] at hz
    cases hl : lineOf x with
    | none => rw [hl] at hz; exact linesL_el (n + 1) xs (fun y hy => h y (by simp [hy])) z hz
    | some fs =>
      rw [hl] at hz
      rcases List.mem_cons.1 hz with rfl | hz
      · intro f hf
        unfold lineOf at hl
        split at hl
        · cases hl
        · injection hl with hl
          subst hl
          obtain ⟨y, hy, rfl⟩ := List.mem_map.1 hf
          have h1 := splitC_mem 59 _ y hy
          have h2 := trimB_le y
          have h3 := trimB_le (upC 35 x)
          have h4 := upC_len 35 x
          have h5 := h x (by simp)
          omega
      · exact linesL_el (n + 1) xs (fun y hy => h y (by simp [hy])) z hz
theorem linesT_el (l : Bs) : ∀ z ∈ linesT l, ∀ f ∈ z.2, f.length ≤ l.length := linesL_el 0 _ (splitC_mem 10 l)
theorem rowA_len : ∀ (l cur : Bs) (ns r : List Nat), rowA ns cur l = some r → r.length ≤ ns.length + l.length + (if cur = [] then 0 else 1)
  | [], cur, ns, r, h => by
    unfold rowA at h
    split at h
    · injection h with h; subst h; simp
    · rename_i hc
      rw [if_neg hc]
      split at h
      · cases h
      · injection h with h; subst h; simp
  | b :: l, cur, ns, r, h => by
    unfold rowA at h
    split at h
    · split at h
      · rename_i hc
        have := rowA_len l [] ns r h
        rw [if_pos rfl] at this
        simp only [List.length_cons]; omega
      · rename_i hc
        rw [if_neg hc]
        split at h
        · cases h
        · have := rowA_len l [] _ r h
          rw [if_pos rfl] at this
          simp only [List.length_append, List.length_cons, List.length_nil] at this ⊢; omega
    · have := rowA_len l _ ns r h
      rw [if_neg (by simp)] at this
      simp only [List.length_cons]
      split <;> omega
theorem rowOf_len (l : Bs) : ((rowOf l).getD []).length ≤ l.length := by
  unfold rowOf
  split
  · simp
  · cases h : rowA [] [] l with
    | none => simp
    | some r =>
      have := rowA_len l [] [] r h
      simpa using this
theorem readL_len : ∀ (ls : List (Nat × List Bs)) (l r : List FL), readL l ls = .inl r → r.length ≤ l.length + ls.length
  | [], l, r, h => by simp [readL] at h; subst h; simp
  | x :: t, l, r, h => by
    rw [readL] at h
    split at h
    · rename_i l' hl'
      have h1 := readL_len t l' r h
      have : l'.length = l.length + 1 := by
        unfold putL at hl'
        split at hl'
        · split at hl'
          · injection hl' with hl'; subst hl'; simp
          · cases hl'
        · cases hl'
      simp only [List.length_cons]; omega
    · cases h
end Go.Proofs.YtidbgfmknhlmnaaGreatDoor
