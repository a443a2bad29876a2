/-
  Owned slices: a cell set, a copy within or into; lists as cells.
-/
import Derived.Test.YtidbgfmknhlmnaaGreatDoorBase
import Derived.Laws.CopyOwn
namespace Go.Proofs.YtidbgfmknhlmnaaGreatDoor
open Go.RowKit

section
variable {α : Type} {w w' : World} {sz : Nat} {cs : α → List Value} {xs ys : List α} {base E : Nat} {v : Value} {D : Nat → Prop}

theorem flat_ext (hcs : ∀ x, (cs x).length = sz) (L : List Value) (hl : L.length = xs.length * sz) (h : ∀ m (hm : m < xs.length) j, j < sz → L[m * sz + j]? = (cs xs[m])[j]?) : L = xs.flatMap cs := by
  apply List.ext_getElem?
  intro i
  by_cases hi : i < L.length
  · rw [hl] at hi
    have hsz : 0 < sz := by rcases Nat.eq_zero_or_pos sz with h0 | h0; (subst h0; omega); exact h0
    have hk : i / sz < xs.length := (Nat.div_lt_iff_lt_mul hsz).2 hi
    have hj : i = i / sz * sz + i % sz := by rw [Nat.mul_comm]; exact (Nat.div_add_mod i sz).symm
    rw [hj, h _ hk _ (Nat.mod_lt _ hsz), flat_get hcs xs _ hk _ (Nat.mod_lt _ hsz)]
  · rw [List.getElem?_eq_none (by omega), List.getElem?_eq_none (by rw [flat_length hcs]; omega)]
theorem flat_set1 (hcs : ∀ x, (cs x).length = sz) {k j : Nat} (hk : k < xs.length) (hj : j < sz) {u : Value} {y : α} (hy : cs y = (cs xs[k]).set j u) : (xs.flatMap cs).set (k * sz + j) u = (xs.set k y).flatMap cs := by
  apply flat_ext hcs
  · rw [List.length_set, flat_length hcs, List.length_set]
  · intro m hm i hi
    rw [List.length_set] at hm
    rw [List.getElem?_set, flat_get hcs xs m hm i hi, List.getElem_set]
    by_cases hmk : k = m
    · subst hmk
      by_cases hij : j = i
      · subst hij
        have hlt : k * sz + j < (xs.flatMap cs).length := by
          rw [flat_length hcs]
          calc k * sz + j < k * sz + sz := by omega
            _ = (k + 1) * sz := by rw [Nat.succ_mul]
            _ ≤ xs.length * sz := Nat.mul_le_mul_right _ hk
        rw [if_pos rfl, if_pos hlt, if_pos rfl, hy, List.getElem?_set_self (by rw [hcs]; exact hj)]
      · rw [if_neg (by omega), if_pos rfl, hy, List.getElem?_set_ne hij]
    · rw [if_neg, if_neg hmk]
      intro he
      rcases Nat.lt_or_gt_of_ne hmk with h | h
      · have : (k + 1) * sz ≤ m * sz := Nat.mul_le_mul_right _ h
        rw [Nat.succ_mul] at this; omega
      · have : (m + 1) * sz ≤ k * sz := Nat.mul_le_mul_right _ h
        rw [Nat.succ_mul] at this; omega
theorem own_set {g c n : Nat} {L : List Value} (h : w.ownsRow base E sz (.slice (some ⟨g, 0, none⟩) n c) n L) {i : Nat} (hi : i < L.length) (u : Value) :
    (w.setCell ⟨g, i, none⟩ u).ownsRow base E sz (.slice (some ⟨g, 0, none⟩) n c) n (L.set i u) := by
  refine ⟨by rw [List.length_set]; exact h.1, ?_⟩
  rcases h.2 with ⟨he, _⟩ | ⟨g', cap, cur, he, hb, hh, h1, h2, h3, h4⟩
  · cases he
  · injection he with e1 e2 e3
    injection e1 with e1
    injection e1 with e1
    subst e1
    subst e3
    refine .inr ⟨g, c, cur.setIfInBounds i u, rfl, hb, hp_set hh i u, h1, h2, by simpa using h3, ?_⟩
    rw [Array.toList_setIfInBounds, ← h4, List.take_set]
/-- One cell of one element of an owned slice is set. -/
theorem OwnS.set1 (hcs : ∀ x, (cs x).length = sz) {g n c : Nat} (h : OwnS base E sz cs w (.slice (some ⟨g, 0, none⟩) n c) xs) {k j : Nat} (hn : n = xs.length) (hk : k < n) (hj : j < sz) {u : Value} {y : α} (hy : cs y = (cs (xs[k]'(by omega))).set j u) :
    OwnS base E sz cs (w.setCell ⟨g, k * sz + j, none⟩ u) (.slice (some ⟨g, 0, none⟩) n c) (xs.set k y) := by
  subst hn
  have h' : w.ownsRow base E sz (.slice (some ⟨g, 0, none⟩) xs.length c) xs.length (xs.flatMap cs) := h
  unfold OwnS
  rw [List.length_set, ← flat_set1 hcs hk hj hy]
  refine own_set h' ?_ u
  rw [flat_length hcs]
  calc k * sz + j < k * sz + sz := by omega
    _ = (k + 1) * sz := by rw [Nat.succ_mul]
    _ ≤ xs.length * sz := Nat.mul_le_mul_right _ hk
/-- An owned slice with an element lies in a row of its own. -/
theorem OwnS.at_ (h : OwnS base E sz cs w v xs) (hpos : 0 < xs.length) : ∃ g c, v = .slice (some ⟨g, 0, none⟩) xs.length c ∧ base ≤ g ∧ g < w.heap.size ∧ (∀ i, w.frozen? ⟨g, i, none⟩ = false) := by
  rcases h.2 with ⟨rfl, h0⟩ | ⟨g, cap, cur, rfl, hg, hh, _⟩
  · omega
  · exact ⟨g, cap, rfl, hg, hp_lt hh, fun i => hp_free hh i⟩
theorem OwnS.cell (h : OwnS base E sz cs w v xs) (hcs : ∀ x, (cs x).length = sz) {g c : Nat} (hv : v = .slice (some ⟨g, 0, none⟩) xs.length c) {k : Nat} (hk : k < xs.length) {j : Nat} {u : Value} (hu : (cs xs[k])[j]? = some u) : w.cell? ⟨g, k * sz + j, none⟩ = some u := by
  obtain ⟨A, c', e, hr, _⟩ := OwnS.rd h hcs
  rw [hv] at e
  injection e with e1 e2 e3
  subst e1
  obtain ⟨b, off, he, _, hc⟩ := hr (by omega)
  injection he with he
  injection he with he1 he2
  subst he1 he2
  have := hc k hk j u hu
  rwa [Nat.zero_add] at this

theorem rd_oneT {g t : Nat} {fr : Nat × Nat} {c : Array Value} {x : α} (h : w.heap[g]? = some (.cells c t fr)) (hc : c.toList = cs x) : Rd (fun _ => True) w sz cs (some ⟨g, 0, none⟩) [x] := (Rd.one h hc).mono fun _ _ => trivial
theorem rd_of5 {A : Option Addr} {n c : Nat} (h : OwnS base E sz cs w (.slice A n c) xs) (hcs : ∀ x, (cs x).length = sz) : Rd (fun b => (Value.slice A n c).ownBlock = some b) w sz cs A xs := by
  obtain ⟨A', c', he, hr, _⟩ := OwnS.rd h hcs
  injection he with h1 h2 h3
  subst h1
  exact hr
/-- What is read from place j on. -/
theorem rd_drop {b off : Nat} (h : Rd D w sz cs (some ⟨b, off, none⟩) xs) {j : Nat} (hj : j ≤ xs.length) : Rd D w sz cs (some ⟨b, off + j * sz, none⟩) (xs.drop j) := by
  intro h0
  rw [List.length_drop] at h0
  obtain ⟨b', off', he, hd, hc⟩ := h (by omega)
  injection he with he
  injection he with e1 e2
  subst e1 e2
  refine ⟨b, off + j * sz, rfl, hd, fun k hk i u hu => ?_⟩
  rw [List.length_drop] at hk
  rw [List.getElem_drop] at hu
  have := hc (j + k) (by omega) i u hu
  rwa [Nat.add_mul, ← Nat.add_assoc] at this
theorem rd_take {A : Option Addr} (h : Rd D w sz cs A xs) (k : Nat) : Rd D w sz cs A (xs.take k) := by
  intro h0
  rw [List.length_take] at h0
  obtain ⟨b, off, he, hd, hc⟩ := h (by omega)
  refine ⟨b, off, he, hd, fun m hm i u hu => ?_⟩
  rw [List.length_take] at hm
  rw [List.getElem_take] at hu
  exact hc m (by omega) i u hu
/-! ### copy -/
theorem run_copy_k {P : Program} (w : World) {dT sT ty elem sz : Nat} (g o dLen dCap : Nat) (a : Addr) (sLen sCap : Nat) (cur : Array Value) (t : TypeId) (news : List Value) {i : TypeInfo}
    (hu : P.underlying dT = some (.slice elem)) (hi : P.info? elem = some i) (hs : i.size = sz)
    (hg : w.heap[g]? = some (.cells cur t (0, 0))) (hn : news.length = Nat.min sLen dLen * sz)
    (hsrc : ∀ j v, news[j]? = some v → w.cell? (a.add j) = some v) (hfit : o + news.length ≤ cur.size) (h1 : ∀ v ∈ news, v.oneCell' = true) :
    (Builtin.copy_ #[dT, sT] ty #[.slice (some ⟨g, o, none⟩) dLen dCap, .slice (some a) sLen sCap]).run P w =
      .ok (goInt (Nat.min sLen dLen)) (w.setRow g (cur.toList.take o ++ news ++ cur.toList.drop (o + news.length)).toArray) := by
  have hl := run_loadCells_list (P := P) w a news hsrc
  have hst := run_storeCells_at P g o t news 0 cur w hg (by simpa using hfit) h1
  simp [Builtin.copy_, run_underlying hu, Builtin.lenOf, Builtin.firstCells, sizeOf, typeInfo, hi, hs, ← hn, hl, hst]

theorem flat_take (hcs : ∀ x, (cs x).length = sz) (xs : List α) (k : Nat) : (xs.flatMap cs).take (k * sz) = (xs.take k).flatMap cs := by
  induction xs generalizing k with
  | nil => simp
  | cons x l ih =>
    cases k with
    | zero => simp
    | succ k => rw [List.take_succ_cons, List.flatMap_cons, List.flatMap_cons, ← ih k, List.take_append, hcs, List.take_of_length_le (by rw [hcs, Nat.succ_mul]; omega), Nat.succ_mul, Nat.add_sub_cancel]
theorem flat_drop (hcs : ∀ x, (cs x).length = sz) (xs : List α) (k : Nat) : (xs.flatMap cs).drop (k * sz) = (xs.drop k).flatMap cs := by
  induction xs generalizing k with
  | nil => simp
  | cons x l ih =>
    cases k with
    | zero => simp
    | succ k => rw [List.drop_succ_cons, List.flatMap_cons, ← ih k, List.drop_append, hcs, List.drop_eq_nil_of_le (by rw [hcs, Nat.succ_mul]; omega), Nat.succ_mul, Nat.add_sub_cancel, List.nil_append]
theorem OwnS.cap (h : OwnS base E sz cs w v xs) {A : Option Addr} {n c : Nat} (hv : v = .slice A n c) : n ≤ c ∧ c ≤ maxLen := by
  subst hv
  rcases h.2 with ⟨he, h0⟩ | ⟨g, cap, cur, he, _, _, h1, h2, _⟩
  · injection he with _ h1 h2; subst h1 h2; simp
  · injection he with _ h1' h2'; omega
theorem splice_take {β : Type} (L new : List β) (o N : Nat) (h : o + new.length ≤ N) (h2 : N ≤ L.length) : (L.take o ++ new ++ L.drop (o + new.length)).take N = (L.take N).take o ++ new ++ (L.take N).drop (o + new.length) := by
  apply List.ext_getElem?
  intro i
  grind
theorem splice_len {β : Type} (L new : List β) (o : Nat) (h : o + new.length ≤ L.length) : (L.take o ++ new ++ L.drop (o + new.length)).length = L.length := by
  grind
/-- copy into an owned slice. -/
theorem run_copy_own {P : Program} {dT sT ty g c n dLen dCap sLen sCap b off tgt : Nat} {i : TypeInfo} (hcs : ∀ x, (cs x).length = sz) (h1 : ∀ x, ∀ u ∈ cs x, u.oneCell' = true) (hsz : 0 < sz)
    (hu : P.underlying dT = some (.slice E)) (hi : P.info? E = some i) (hs : i.size = sz) (hown : OwnS base E sz cs w (.slice (some ⟨g, 0, none⟩) n c) xs) (hn : n = xs.length)
    (hr : Rd D w sz cs (some ⟨b, off, none⟩) ys) (hmin : ys.length = Nat.min sLen dLen) (hfit : tgt + ys.length ≤ n) :
    ∃ w', (Builtin.copy_ #[dT, sT] ty #[.slice (some ⟨g, tgt * sz, none⟩) dLen dCap, .slice (some ⟨b, off, none⟩) sLen sCap]).run P w = .ok (goInt ys.length) w' ∧
      OwnS base E sz cs w' (.slice (some ⟨g, 0, none⟩) n c) (xs.take tgt ++ ys ++ xs.drop (tgt + ys.length)) ∧ Mod (fun b => b = g) w w' := by
  subst hn
  rcases hown.2 with ⟨he, _⟩ | ⟨g', cap, cur, he, hb, hh, hc1, hc2, hc3, hc4⟩
  · cases he
  injection he with e1 _ e3
  injection e1 with e1
  injection e1 with e1
  subst e1 e3
  have hle : tgt * sz + ys.length * sz ≤ xs.length * sz := by rw [← Nat.add_mul]; exact Nat.mul_le_mul_right _ hfit
  have hle2 : xs.length * sz ≤ c * sz := Nat.mul_le_mul_right _ hc1
  have hyl := flat_length hcs ys
  have hL : (xs.take tgt ++ ys ++ xs.drop (tgt + ys.length)).length = xs.length := by simp; omega
  have hrun := run_copy_k (P := P) w (dT := dT) (sT := sT) (ty := ty) g (tgt * sz) dLen dCap ⟨b, off, none⟩ sLen sCap cur E (ys.flatMap cs) hu hi hs hh (by rw [hyl, hmin]) (hr.flat hcs hsz rfl) (by rw [hyl, hc3]; omega) (fun u hu => by obtain ⟨x, _, hx⟩ := List.mem_flatMap.1 hu; exact h1 x u hx)
  refine ⟨w.setRow g (cur.toList.take (tgt * sz) ++ ys.flatMap cs ++ cur.toList.drop (tgt * sz + (ys.flatMap cs).length)).toArray, by rw [hmin]; exact hrun, ?_, ⟨rfl, rfl, rfl, by simp [World.setRow], fun k hk hne => setRow_other w g k _ hne⟩⟩
  unfold OwnS
  rw [hL]
  have hcl : cur.toList.length = c * sz := by rw [Array.length_toList, hc3]
  refine ⟨by rw [flat_length hcs, hL], .inr ⟨g, c, (cur.toList.take (tgt * sz) ++ ys.flatMap cs ++ cur.toList.drop (tgt * sz + (ys.flatMap cs).length)).toArray, rfl, hb, setRow_heap w g _ _ E _ hh, hc1, hc2, ?_, ?_⟩⟩
  · rw [List.size_toArray, splice_len _ _ _ (by rw [hyl, hcl]; omega), hcl]
  · show List.take (xs.length * sz) (cur.toList.take (tgt * sz) ++ ys.flatMap cs ++ cur.toList.drop (tgt * sz + (ys.flatMap cs).length)) = _
    rw [splice_take _ _ _ _ (by rw [hyl]; omega) (by rw [hcl]; omega), hc4, hyl, ← Nat.add_mul, flat_take hcs, flat_drop hcs, List.flatMap_append, List.flatMap_append]
theorem run_copy_zero {P : Program} {dT sT ty sLen sCap dLen dCap : Nat} {d a : Option Addr} {i : TypeInfo} (hu : P.underlying dT = some (.slice E)) (hi : P.info? E = some i) (hn : Nat.min sLen dLen = 0) :
    (Builtin.copy_ #[dT, sT] ty #[.slice d dLen dCap, .slice a sLen sCap]).run P w = .ok (goInt 0) w := by
  have hl : ∀ (x : Addr), (loadCells x 0).run P w = .ok #[] w := fun x => by simpa using run_loadCells_list (P := P) w x [] (by simp)
  cases d <;> cases a <;> simp [Builtin.copy_, run_underlying hu, Builtin.lenOf, Builtin.firstCells, sizeOf, typeInfo, hi, hn, storeCells, hl]
/-- copy into an owned slice, as one step of a region. -/
theorem step_copy_own {P : Program} {T bytes : Nat} {ops : Array Oper} {o : Oper} {a : Act} {K : Act → World → Prop} {Q : Exit → Act → World → Prop} {F : Prop} (hgd : o.guard = none) (d s : Operand)
    (ho : o.op = .call { callee := .builtin .copy, args := #[d, s], argTypes := #[T, T] }) (ht : SliceT P T E sz bytes) (hcs : ∀ x, (cs x).length = sz) (h1 : ∀ x, ∀ u ∈ cs x, u.oneCell' = true)
    {g c n dLen dCap sLen sCap b off tgt o' : Nat} (hd : a.eval d = .slice (some ⟨g, o', none⟩) dLen dCap) (ho' : o' = tgt * sz) (hs : a.eval s = .slice (some ⟨b, off, none⟩) sLen sCap)
    (hown : OwnS base E sz cs w (.slice (some ⟨g, 0, none⟩) n c) xs) (hn : n = xs.length) (hr : Rd D w sz cs (some ⟨b, off, none⟩) ys) (hmin : ys.length = Nat.min sLen dLen) (hfit : tgt + ys.length ≤ n)
    (h : ∀ w', OwnS base E sz cs w' (.slice (some ⟨g, 0, none⟩) n c) (xs.take tgt ++ ys ++ xs.drop (tgt + ys.length)) → Mod (fun b => b = g) w w' → K (a.put o.dst (goInt ys.length)) w') :
    if Region.wanted o (yielded ops a.tmps) = true then Oper.wp P o a w K Q else F := by
  have hw : Region.wanted o (yielded ops a.tmps) = true := by simp [Region.wanted, hgd]
  rw [if_pos hw]
  obtain ⟨hu, ⟨i, z, hi, hz, hs1, hs2, hzs⟩, hp⟩ := ht
  subst ho'
  obtain ⟨w', hrun, k1, k2⟩ := run_copy_own (P := P) (ty := o.type) (sT := T) hcs h1 hp hu hi hs1 hown hn hr hmin hfit (dCap := dCap) (sCap := sCap)
  unfold Oper.wp execOp
  simp only [ho, resolve, invoke, builtin, Sem.run_bind, Sem.run_pure, Result.andThen_ok, List.map_toArray, List.map_cons, List.map_nil, hd, hs, hrun]
  exact h w' k1 k2
theorem step_copy_zero {P : Program} {T bytes : Nat} {ops : Array Oper} {o : Oper} {a : Act} {K : Act → World → Prop} {Q : Exit → Act → World → Prop} {F : Prop} (hgd : o.guard = none) (d s : Operand)
    (ho : o.op = .call { callee := .builtin .copy, args := #[d, s], argTypes := #[T, T] }) (ht : SliceT P T E sz bytes)
    {dLen dCap sLen sCap : Nat} {D A : Option Addr} (hd : a.eval d = .slice D dLen dCap) (hs : a.eval s = .slice A sLen sCap) (hmin : Nat.min sLen dLen = 0)
    (h : K (a.put o.dst (goInt 0)) w) : if Region.wanted o (yielded ops a.tmps) = true then Oper.wp P o a w K Q else F := by
  have hw : Region.wanted o (yielded ops a.tmps) = true := by simp [Region.wanted, hgd]
  rw [if_pos hw]
  obtain ⟨hu, ⟨i, z, hi, _⟩, hp⟩ := ht
  have hrun := run_copy_zero (P := P) (w := w) (ty := o.type) (sT := T) (sCap := sCap) (dCap := dCap) (d := D) (a := A) hu hi hmin
  unfold Oper.wp execOp
  simp only [ho, resolve, invoke, builtin, Sem.run_bind, Sem.run_pure, Result.andThen_ok, List.map_toArray, List.map_cons, List.map_nil, hd, hs, hrun]
  exact h
end
end Go.Proofs.YtidbgfmknhlmnaaGreatDoor
