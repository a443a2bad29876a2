/-
  A range over a map told as a list.
-/
import Derived.Test.YtidbgfmknhlmnaaGreatDoorMaps
import Derived.Maps.RangeRun
import Derived.Sort.MapsRangeIn
namespace Go.Proofs.YtidbgfmknhlmnaaGreatDoor
open Go.RowKit Go.MapKept

/-- A range over a map of n entries, under way: the places seen. -/
def rgO (b n : Nat) (seen : List Nat) : Obj := .mapIter (some b) n seen.toArray n
section
variable {κ : Type} {kv : κ → Value} {P : Program} {t kt et : TypeId} {w : World} {b r : Nat} {L : List (κ × Value)} {seen : List Nat}
theorem mEnts_mem {i : Nat} {x : MapEntry} : ∀ {L : List (κ × Value)} {i : Nat}, x ∈ mEnts kv i L → ∃ j, ∃ h : j < L.length, x = ⟨kv L[j].1, L[j].2, i + j⟩
  | [], _, h => by simp [mEnts] at h
  | p :: r, i, h => by
    simp only [mEnts, List.mem_cons] at h
    rcases h with rfl | h
    · exact ⟨0, by simp, rfl⟩
    · obtain ⟨j, hj, rfl⟩ := mEnts_mem (i := i) h
      exact ⟨j + 1, by simpa using hj, by simp; omega⟩
theorem mEnts_born (i : Nat) (L : List (κ × Value)) : (mEnts kv i L).map (·.born) = List.range' i L.length := by
  induction L generalizing i with
  | nil => rfl
  | cons p r ih => simp [mEnts, ih, List.range'_succ]
theorem run_mrange (ht : P.underlying t = some (.map kt et)) (hb : w.heap[b]? = some (mapO kv L)) :
    (Instr.range t (.map (some b))).run P w = .ok (.pointer (some ⟨w.heap.size, 0, none⟩)) (w.alloc (rgO b L.length [])) :=
  run_range_map w t kt et b _ _ ht hb
theorem run_mnext (hr : w.heap[r]? = some (rgO b L.length seen)) (hb : w.heap[b]? = some (mapO kv L)) (hne : r ≠ b) (ty : TypeId) :
    ((∀ j, j < L.length → j ∈ seen) ∧ (Instr.next (.pointer (some ⟨r, 0, none⟩)) false ty).run P w = .ok (.tuple #[.bool false]) w) ∨
    ∃ j, ∃ hj : j < L.length, j ∉ seen ∧ ∃ w', (Instr.next (.pointer (some ⟨r, 0, none⟩)) false ty).run P w = .ok (.tuple #[.bool true, kv L[j].1, L[j].2]) w' ∧ Mod (fun x => x = r) w w' ∧
      w'.heap[r]? = some (rgO b L.length (seen ++ [j])) ∧ w'.heap[b]? = some (mapO kv L) ∧ (Instr.entry (.pointer (some ⟨r, 0, none⟩))).run P w' = .ok (.tuple #[kv L[j].1, L[j].2]) w' := by
  have hbs : ∀ x ∈ (mEnts kv 0 L).toArray.toList, x.born < L.length := fun x hx => by
    obtain ⟨j, hj, rfl⟩ := mEnts_mem (i := 0) (show x ∈ mEnts kv 0 L by simpa using hx)
    simpa using hj
  rcases run_next_at (P := P) w ty r b L.length L.length seen.toArray (mEnts kv 0 L).toArray L.length hr hb hbs (Nat.le_refl _) with ⟨h0, hrun⟩ | ⟨e, he, w1, hw1, hrun⟩
  · refine .inl ⟨fun j hj => ?_, hrun⟩
    have := all_seen _ _ h0 ⟨kv L[j].1, L[j].2, 0 + j⟩ (by
      have := mEnts_at kv 0 L j hj
      simpa using List.mem_of_getElem? this)
    simpa using this
  · obtain ⟨h1, h2⟩ := mem_left he
    obtain ⟨j, hj, rfl⟩ := mEnts_mem (i := 0) (show e ∈ mEnts kv 0 L by simpa using h1)
    refine .inr ⟨j, hj, by simpa using h2, _, hrun, ?_⟩
    have hm1 : Mod (fun x => x = r) w w1 := by
      rcases hw1 with rfl | rfl
      · exact Mod.refl _ _
      · exact (Mod.refl _ _).drew
    have hr1 : w1.heap[r]? = some (rgO b L.length seen) := by rcases hw1 with rfl | rfl <;> exact hr
    have hb1 : w1.heap[b]? = some (mapO kv L) := by rcases hw1 with rfl | rfl <;> exact hb
    have hpush : seen.toArray.push (0 + j) = (seen ++ [j]).toArray := by simp
    have hr2 : (ChangeMaps.setBlock w1 r (.mapIter (some b) L.length (seen.toArray.push (0 + j)) L.length)).heap[r]? = some (rgO b L.length (seen ++ [j])) := by
      rw [hpush]; exact (MapKept.heap_set hr1).1
    have hb2 : (ChangeMaps.setBlock w1 r (.mapIter (some b) L.length (seen.toArray.push (0 + j)) L.length)).heap[b]? = some (mapO kv L) := ((MapKept.heap_set hr1).2 b hne.symm).trans hb1
    refine ⟨hm1.trans' ⟨rfl, rfl, rfl, by simp [ChangeMaps.setBlock], fun k hk hkr => (MapKept.heap_set hr1).2 k hkr⟩, hr2, hb2, ?_⟩
    exact run_entry_at _ r b L.length seen.toArray (mEnts kv 0 L).toArray L.length ⟨kv L[j].1, L[j].2, 0 + j⟩ (by rw [hr2]; simp [rgO]) hb2 h1 (by
      show (List.map (·.born) (mEnts kv 0 L)).Nodup
      rw [mEnts_born]; exact List.nodup_range')

/-- What a range over a map holds: the places seen, each once. -/
structure RgAt (w : World) (b r : Nat) (kv : κ → Value) (L : List (κ × Value)) (seen : List Nat) : Prop where
  it : w.heap[r]? = some (rgO b L.length seen)
  mp : w.heap[b]? = some (mapO kv L)
  ne : r ≠ b
  nd : seen.Nodup
  lt : ∀ j ∈ seen, j < L.length
theorem nodup_full {n : Nat} {seen : List Nat} (nd : seen.Nodup) (lt : ∀ j ∈ seen, j < n) : seen.length ≤ n := by
  have := List.Nodup.length_le_of_subset nd (l₂ := List.range n) (fun j hj => List.mem_range.2 (lt j hj))
  simpa using this
theorem RgAt.le (h : RgAt w b r kv L seen) : seen.length ≤ L.length := nodup_full h.nd h.lt
theorem RgAt.keep {w' : World} (h : RgAt w b r kv L seen) (hA : Agree (fun x => x = b ∨ x = r) w w') : RgAt w' b r kv L seen :=
  ⟨(hA.block r (.inr rfl)).trans h.it, (hA.block b (.inl rfl)).trans h.mp, h.ne, h.nd, h.lt⟩
theorem RgAt.mod {w' : World} {C : Nat → Prop} (h : RgAt w b r kv L seen) (hm : Mod C w w') (h1 : ¬ C b) (h2 : ¬ C r) : RgAt w' b r kv L seen :=
  ⟨hp_mod h.it hm h2, hp_mod h.mp hm h1, h.ne, h.nd, h.lt⟩
theorem RgAt.perm (h : RgAt w b r kv L seen) (hall : ∀ j, j < L.length → j ∈ seen) : seen.Perm (List.range L.length) :=
  (List.perm_ext_iff_of_nodup h.nd List.nodup_range).2 fun j => ⟨fun hj => List.mem_range.2 (h.lt j hj), fun hj => hall j (List.mem_range.1 hj)⟩

section
variable {ops : Array Oper} {rest : List Oper} {o : Oper} {a : Act} {Q : Exit → Act → World → Prop} {F : Fence} {n : Nat}
theorem wpList_mrange (hg : o.guard = none) (m : Operand) (t : TypeId) (hop : o.op = Op.range t m) (kt et : TypeId) (ht : P.underlying t = some (.map kt et)) (hb : w.heap[b]? = some (mapO kv L)) (hm : a.eval m = .map (some b))
    (hK : ∀ w', RgAt w' b w.heap.size kv L [] → Mod (fun _ => False) w w' → wpList P ops Q rest (a.put o.dst (.pointer (some ⟨w.heap.size, 0, none⟩))) w') : wpList P ops Q (o :: rest) a w := by
  refine wpList_plain hg fun K' hK' => ?_
  unfold Oper.wp
  simp [execOp, hop, hm, run_mrange ht hb, Result.andThen]
  exact hK' _ _ (hK _ ⟨hp_new _ _, hp_alloc hb _, by have := hp_lt hb; omega, by simp, by simp⟩ ((Mod.refl _ _).alloc _))
theorem wpListIn_mrange (hg : o.guard = none) (m : Operand) (t : TypeId) (hop : o.op = Op.range t m) (kt et : TypeId) (ht : P.underlying t = some (.map kt et)) (hb : w.heap[b]? = some (mapO kv L)) (hm : a.eval m = .map (some b))
    (hK : ∀ w', RgAt w' b w.heap.size kv L [] → Mod (fun _ => False) w w' → wpListIn F n P ops Q rest (a.put o.dst (.pointer (some ⟨w.heap.size, 0, none⟩))) w') : wpListIn F n P ops Q (o :: rest) a w := by
  refine wpListIn_plain hg fun K' hK' => ?_
  unfold Oper.wpIn
  refine ⟨by simp [Oper.about, hop], ?_⟩
  rw [Oper.semAt_plain F _ _ (by rw [hop]; intro c hc'; cases hc')]
  simp [execOp, hop, hm, run_mrange ht hb, Result.andThen]
  exact hK' _ _ (hK _ ⟨hp_new _ _, hp_alloc hb _, by have := hp_lt hb; omega, by simp, by simp⟩ ((Mod.refl _ _).alloc _))
theorem RgAt.step {w' : World} {j : Nat} (h : RgAt w b r kv L seen) (hj : j < L.length) (hn : j ∉ seen) (h1 : w'.heap[r]? = some (rgO b L.length (seen ++ [j]))) (h2 : w'.heap[b]? = some (mapO kv L)) : RgAt w' b r kv L (seen ++ [j]) :=
  ⟨h1, h2, h.ne, List.nodup_append.2 ⟨h.nd, by simp, fun x hx y hy => by simp at hy; subst hy; exact fun e => hn (e ▸ hx)⟩, fun i hi => by
    rcases List.mem_append.1 hi with hi | hi
    · exact h.lt i hi
    · simp at hi; omega⟩
theorem wpList_mnext (hg : o.guard = none) (it : Operand) (hop : o.op = Op.next it false) (hit : a.eval it = .pointer (some ⟨r, 0, none⟩)) (h : RgAt w b r kv L seen)
    (hDone : (∀ j, j < L.length → j ∈ seen) → wpList P ops Q rest (a.put o.dst (.tuple #[.bool false])) w)
    (hMore : ∀ (j : Nat) (hj : j < L.length) (w' : World), j ∉ seen → seen.length < L.length → RgAt w' b r kv L (seen ++ [j]) → Mod (fun x => x = r) w w' → (Instr.entry (.pointer (some ⟨r, 0, none⟩))).run P w' = .ok (.tuple #[kv L[j].1, L[j].2]) w' →
      wpList P ops Q rest (a.put o.dst (.tuple #[.bool true, kv L[j].1, L[j].2])) w') : wpList P ops Q (o :: rest) a w := by
  refine wpList_plain hg fun K' hK' => ?_
  unfold Oper.wp
  rcases run_mnext (P := P) h.it h.mp h.ne o.type with ⟨h0, hrun⟩ | ⟨j, hj, hn, w', hrun, hm, h1, h2, hen⟩
  · simp [execOp, hop, hit, hrun, Result.andThen]
    exact hK' _ _ (hDone h0)
  · simp [execOp, hop, hit, hrun, Result.andThen]
    have hs := h.step hj hn h1 h2
    exact hK' _ _ (hMore j hj w' hn (by have := hs.le; simp at this; omega) hs hm hen)
theorem wpListIn_mnext (hg : o.guard = none) (it : Operand) (hop : o.op = Op.next it false) (hit : a.eval it = .pointer (some ⟨r, 0, none⟩)) (h : RgAt w b r kv L seen)
    (hDone : (∀ j, j < L.length → j ∈ seen) → wpListIn F n P ops Q rest (a.put o.dst (.tuple #[.bool false])) w)
    (hMore : ∀ (j : Nat) (hj : j < L.length) (w' : World), j ∉ seen → seen.length < L.length → RgAt w' b r kv L (seen ++ [j]) → Mod (fun x => x = r) w w' → (Instr.entry (.pointer (some ⟨r, 0, none⟩))).run P w' = .ok (.tuple #[kv L[j].1, L[j].2]) w' →
      wpListIn F n P ops Q rest (a.put o.dst (.tuple #[.bool true, kv L[j].1, L[j].2])) w') : wpListIn F n P ops Q (o :: rest) a w := by
  refine wpListIn_plain hg fun K' hK' => ?_
  unfold Oper.wpIn
  refine ⟨by simp [Oper.about, hop], ?_⟩
  rw [Oper.semAt_plain F _ _ (by rw [hop]; intro c hc'; cases hc')]
  rcases run_mnext (P := P) h.it h.mp h.ne o.type with ⟨h0, hrun⟩ | ⟨j, hj, hn, w', hrun, hm, h1, h2, hen⟩
  · simp [execOp, hop, hit, hrun, Result.andThen]
    exact hK' _ _ (hDone h0)
  · simp [execOp, hop, hit, hrun, Result.andThen]
    have hs := h.step hj hn h1 h2
    exact hK' _ _ (hMore j hj w' hn (by have := hs.le; simp at this; omega) hs hm hen)
theorem wpList_mput [DecidableEq κ] (hg : o.guard = none) (m x v : Operand) (t : TypeId) (hop : o.op = Op.mapUpdate t m x v ∨ o.op = Op.insert t m x v) (kt et : TypeId) (K : KeyT kv P kt) (ht : P.underlying t = some (.map kt et)) (hm : a.eval m = .map (some b)) (hb : w.heap[b]? = some (mapO kv L)) (k : κ) (hx : a.eval x = kv k) (u : Value) (hv : a.eval v = u)
    (hK : ∀ w', w'.heap[b]? = some (mapO kv (mPut k u L)) → Mod (fun y => y = b) w w' → wpList P ops Q rest (a.put o.dst undef) w') : wpList P ops Q (o :: rest) a w := by
  refine wpList_plain hg fun K' hK' => ?_
  unfold Oper.wp
  rcases hop with hop | hop
  · simp [execOp, hop, hm, hx, hv, run_mput K ht hb, Result.andThen]
    exact hK' _ _ (hK _ (setB_at hb) (setB_mod _ _ _))
  · simp [execOp, hop, hm, hx, hv, run_mput K ht hb, Result.andThen]
    exact hK' _ _ (hK _ (setB_at hb) (setB_mod _ _ _))
theorem wpListIn_mput [DecidableEq κ] (hg : o.guard = none) (m x v : Operand) (t : TypeId) (hop : o.op = Op.mapUpdate t m x v ∨ o.op = Op.insert t m x v) (kt et : TypeId) (K : KeyT kv P kt) (ht : P.underlying t = some (.map kt et)) (hm : a.eval m = .map (some b)) (hb : w.heap[b]? = some (mapO kv L)) (k : κ) (hx : a.eval x = kv k) (u : Value) (hv : a.eval v = u)
    (hK : ∀ w', w'.heap[b]? = some (mapO kv (mPut k u L)) → Mod (fun y => y = b) w w' → wpListIn F n P ops Q rest (a.put o.dst undef) w') : wpListIn F n P ops Q (o :: rest) a w := by
  refine wpListIn_plain hg fun K' hK' => ?_
  unfold Oper.wpIn
  rcases hop with hop | hop
  · refine ⟨by simp [Oper.about, hop], ?_⟩
    rw [Oper.semAt_plain F _ _ (by rw [hop]; intro c hc'; cases hc')]
    simp [execOp, hop, hm, hx, hv, run_mput K ht hb, Result.andThen]
    exact hK' _ _ (hK _ (setB_at hb) (setB_mod _ _ _))
  · refine ⟨by simp [Oper.about, hop], ?_⟩
    rw [Oper.semAt_plain F _ _ (by rw [hop]; intro c hc'; cases hc')]
    simp [execOp, hop, hm, hx, hv, run_mput K ht hb, Result.andThen]
    exact hK' _ _ (hK _ (setB_at hb) (setB_mod _ _ _))
end
end
end Go.Proofs.YtidbgfmknhlmnaaGreatDoor
