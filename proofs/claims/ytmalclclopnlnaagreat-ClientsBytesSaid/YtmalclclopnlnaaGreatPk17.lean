/-
  Texts of this claim, one behind the other: Maps, MapsR, TabM, CliA, CliB.
-/
import Derived.Test.YtmalclclopnlnaaGreatPk00
import Derived.Test.YtmalclclopnlnaaGreatPk16
import Derived.MapKept
import Derived.Maps.Keyed
import Derived.Maps.RangeRun
import Derived.Sort.MapsRangeIn
/-
  Maps as lists: a map's block told whole, what is found in it, what is put into it.
-/
namespace Go.Proofs.YtmalclclopnlnaaGreat
open Go.RowKit Go.MapKept

section
variable {κ : Type} [DecidableEq κ]
/-- What stands under a key. -/
def mGet (k : κ) : List (κ × Value) → Option Value
  | [] => none
  | p :: r => if k = p.1 then some p.2 else mGet k r
theorem mGet_cons (k : κ) (p : κ × Value) (r : List (κ × Value)) : mGet k (p :: r) = if k = p.1 then some p.2 else mGet k r := rfl
/-- A key's value put in. -/
def mPut (k : κ) (v : Value) : List (κ × Value) → List (κ × Value)
  | [] => [(k, v)]
  | p :: r => if k = p.1 then (k, v) :: r else p :: mPut k v r
theorem mGet_put (k a : κ) (v : Value) (L : List (κ × Value)) : mGet a (mPut k v L) = if a = k then some v else mGet a L := by
  induction L with
  | nil => simp [mPut, mGet]
  | cons p r ih =>
    unfold mPut
    by_cases h : k = p.1
    · rw [if_pos h]
      unfold mGet
      by_cases h2 : a = k
      · simp [h2]
      · rw [if_neg h2, if_neg h2, if_neg (by rw [← h]; exact h2)]
    · rw [if_neg h]
      unfold mGet
      rw [ih]
      by_cases h2 : a = p.1
      · rw [if_pos h2, if_pos h2, if_neg (by rw [h2]; exact fun e => h e.symm)]
      · rw [if_neg h2, if_neg h2]
theorem mGet_none {k : κ} {L : List (κ × Value)} : mGet k L = none ↔ ∀ p ∈ L, p.1 ≠ k := by
  induction L with
  | nil => simp [mGet]
  | cons p r ih =>
    unfold mGet
    by_cases h : k = p.1
    · rw [if_pos h]; simp [h]
    · rw [if_neg h, ih]
      simp only [List.mem_cons, forall_eq_or_imp]
      exact ⟨fun h2 => ⟨fun e => h e.symm, h2⟩, fun h2 => h2.2⟩
theorem mGet_mem {k : κ} {v : Value} {L : List (κ × Value)} (h : mGet k L = some v) : (k, v) ∈ L := by
  induction L with
  | nil => simp [mGet] at h
  | cons p r ih =>
    unfold mGet at h
    by_cases hk : k = p.1
    · rw [if_pos hk] at h
      injection h with h
      rw [hk, ← h]; simp
    · rw [if_neg hk] at h
      exact List.mem_cons_of_mem _ (ih h)
theorem mPut_new {k : κ} (v : Value) {L : List (κ × Value)} (h : mGet k L = none) : mPut k v L = L ++ [(k, v)] := by
  induction L with
  | nil => rfl
  | cons p r ih =>
    unfold mGet at h
    by_cases hk : k = p.1
    · rw [if_pos hk] at h; cases h
    · rw [if_neg hk] at h
      unfold mPut
      rw [if_neg hk, ih h, List.cons_append]
theorem mGet_app (k : κ) (L M : List (κ × Value)) : mGet k (L ++ M) = (mGet k L).orElse fun _ => mGet k M := by
  induction L with
  | nil => simp [mGet]
  | cons p r ih =>
    rw [List.cons_append, mGet_cons, mGet_cons]
    by_cases hk : k = p.1
    · rw [if_pos hk, if_pos hk]; rfl
    · rw [if_neg hk, if_neg hk, ih]

end
section
variable {κ : Type} (kv : κ → Value)
def mEnts : Nat → List (κ × Value) → List MapEntry
  | _, [] => []
  | i, p :: r => ⟨kv p.1, p.2, i⟩ :: mEnts (i + 1) r
theorem mEnts_len (i : Nat) (L : List (κ × Value)) : (mEnts kv i L).length = L.length := by
  induction L generalizing i with
  | nil => rfl
  | cons p r ih => simp [mEnts, ih]
theorem mEnts_at (i : Nat) (L : List (κ × Value)) (j : Nat) (h : j < L.length) : (mEnts kv i L)[j]? = some ⟨kv L[j].1, L[j].2, i + j⟩ := by
  induction L generalizing i j with
  | nil => cases h
  | cons p r ih =>
    cases j with
    | zero => rfl
    | succ j =>
      simp only [mEnts, List.getElem?_cons_succ, List.getElem_cons_succ]
      rw [ih (i + 1) j (by simpa using h)]
      congr 2; omega
theorem mEnts_app (i : Nat) (L : List (κ × Value)) (k : κ) (v : Value) : mEnts kv i (L ++ [(k, v)]) = mEnts kv i L ++ [⟨kv k, v, i + L.length⟩] := by
  induction L generalizing i with
  | nil => rfl
  | cons p r ih =>
    simp only [mEnts, List.cons_append, ih, List.length_cons]
    rw [show i + 1 + r.length = i + (r.length + 1) by omega]
/-- The block of a map. -/
def mapO (L : List (κ × Value)) : Obj := .map (mEnts kv 0 L).toArray L.length

/-- A key's type: how keys are spelt in it. -/
structure KeyT (P : Program) (t : TypeId) : Prop where
  inj : ∀ a b, kv a = kv b → a = b
  kind : ∃ d, P.underlying t = some d ∧ ∀ a, IsKey d (kv a)

end
theorem run_mnil {κ : Type} {kv : κ → Value} {P : Program} {t kt et : TypeId} (K : KeyT kv P kt) (ht : P.underlying t = some (.map kt et)) {z : Value} {w : World} (hz : (zeroValue et).run P w = .ok z w) (k : κ) (c : Bool) :
    (Instr.lookup t (.map none) (kv k) c).run P w = .ok (if c then .tuple #[z, .bool false] else z) w := by
  obtain ⟨d, hd, hk⟩ := K.kind
  have hf := MapKept.run_findKey (P := P) (w := w) hd (show Instr.findNow d (kv k) [] 0 = some none from rfl)
  simp [Instr.lookup, run_underlying ht, MapKept.run_checkKey hd (hk k), hf, hz, Result.andThen]
section
variable {κ : Type} [DecidableEq κ] {kv : κ → Value} {P : Program} {t kt et : TypeId}
theorem findNow_none {d : TypeDesc} (hk : ∀ a, IsKey d (kv a)) (inj : ∀ a b, kv a = kv b → a = b) (k : κ) (i : Nat) (L : List (κ × Value)) (j : Nat) (h : mGet k L = none) : Instr.findNow d (kv k) (mEnts kv i L) j = some none := by
  induction L generalizing i j with
  | nil => rfl
  | cons p r ih =>
    unfold mGet at h
    by_cases hp : k = p.1
    · rw [if_pos hp] at h; cases h
    · rw [if_neg hp] at h
      obtain ⟨b, hb, hiff⟩ := MapKept.sameNow_of_keys (hk k) (hk p.1)
      have hb0 : b = false := by
        cases b with
        | false => rfl
        | true => exact absurd (inj _ _ (hiff.1 rfl)) hp
      subst hb0
      simpa only [mEnts, Instr.findNow, hb] using ih (i + 1) (j + 1) h
theorem findNow_some {d : TypeDesc} (hk : ∀ a, IsKey d (kv a)) (inj : ∀ a b, kv a = kv b → a = b) (k : κ) (i : Nat) (L : List (κ × Value)) (j : Nat) (v : Value) (h : mGet k L = some v) :
    ∃ n, Instr.findNow d (kv k) (mEnts kv i L) j = some (some (j + n, v)) ∧ n < L.length ∧ ∀ u, (mEnts kv i (mPut k u L)) = (mEnts kv i L).modify n fun e => { e with key := kv k, val := u } := by
  induction L generalizing i j with
  | nil => cases h
  | cons p r ih =>
    unfold mGet at h
    by_cases hp : k = p.1
    · rw [if_pos hp] at h
      injection h with h
      subst h
      obtain ⟨b, hb, hiff⟩ := MapKept.sameNow_of_keys (hk k) (hk p.1)
      have hb0 : b = true := hiff.2 (by rw [hp])
      subst hb0
      refine ⟨0, by simp [mEnts, Instr.findNow, hb], by simp, fun u => ?_⟩
      unfold mPut
      rw [if_pos hp]
      simp [mEnts]
    · rw [if_neg hp] at h
      obtain ⟨b, hb, hiff⟩ := MapKept.sameNow_of_keys (hk k) (hk p.1)
      have hb0 : b = false := by
        cases b with
        | false => rfl
        | true => exact absurd (inj _ _ (hiff.1 rfl)) hp
      subst hb0
      obtain ⟨n, h1, h2, h3⟩ := ih (i + 1) (j + 1) h
      refine ⟨n + 1, ?_, by simp; omega, fun u => ?_⟩
      · have e : j + 1 + n = j + (n + 1) := by omega
        rw [e] at h1
        simpa only [mEnts, Instr.findNow, hb] using h1
      · unfold mPut
        rw [if_neg hp]
        simp only [mEnts, h3 u]
        rfl
theorem run_mget (K : KeyT kv P kt) (ht : P.underlying t = some (.map kt et)) {z : Value} {w : World} (hz : (zeroValue et).run P w = .ok z w) {b : Nat} {L : List (κ × Value)} (hb : w.heap[b]? = some (mapO kv L)) (k : κ) (c : Bool) :
    (Instr.lookup t (.map (some b)) (kv k) c).run P w = .ok (if c then .tuple #[(mGet k L).getD z, .bool (mGet k L).isSome] else (mGet k L).getD z) w := by
  obtain ⟨d, hd, hk⟩ := K.kind
  cases h : mGet k L with
  | none =>
    have hf := MapKept.run_findKey (P := P) (w := w) hd (findNow_none hk K.inj k 0 L 0 h)
    simp [Instr.lookup, run_underlying ht, MapKept.run_getObj_map hb, MapKept.run_checkKey hd (hk k), hf, hz, Result.andThen]
  | some v =>
    obtain ⟨n, h1, -⟩ := findNow_some hk K.inj k 0 L 0 v h
    have hf := MapKept.run_findKey (P := P) (w := w) hd h1
    simp [Instr.lookup, run_underlying ht, MapKept.run_getObj_map hb, MapKept.run_checkKey hd (hk k), hf, Result.andThen]
def setB (w : World) (b : Nat) (o : Obj) : World := { w with heap := w.heap.setIfInBounds b o }
theorem setB_at {w : World} {b : Nat} {o o' : Obj} (hb : w.heap[b]? = some o) : (setB w b o').heap[b]? = some o' := (MapKept.heap_set hb).1
theorem setB_mod (w : World) (b : Nat) (o : Obj) : Mod (fun x => x = b) w (setB w b o) :=
  ⟨rfl, rfl, rfl, by simp [setB], fun k hk hne => by simp [setB, Ne.symm hne]⟩
theorem run_mput (K : KeyT kv P kt) (ht : P.underlying t = some (.map kt et)) {w : World} {b : Nat} {L : List (κ × Value)} (hb : w.heap[b]? = some (mapO kv L)) (k : κ) (v : Value) :
    (Instr.mapUpdate t (.map (some b)) (kv k) v).run P w = .ok () (setB w b (mapO kv (mPut k v L))) := by
  obtain ⟨d, hd, hk⟩ := K.kind
  cases h : mGet k L with
  | none =>
    have hf := MapKept.run_findKey (P := P) (w := w) hd (findNow_none hk K.inj k 0 L 0 h)
    simp [Instr.mapUpdate, run_underlying ht, MapKept.run_getObj_map hb, MapKept.run_checkKey hd (hk k), hf, MapKept.run_setObj_map _ hb, Result.andThen]
    unfold setB mapO
    rw [mPut_new v h, mEnts_app]
    simp
  | some u =>
    obtain ⟨n, h1, h2, h3⟩ := findNow_some hk K.inj k 0 L 0 u h
    have hf := MapKept.run_findKey (P := P) (w := w) hd h1
    have he := mEnts_at kv 0 L n h2
    have hkn : kv L[n].1 = kv k := by
      obtain ⟨j, e, g1, g2, g3⟩ := (MapKept.findNow_spec (hk k) (mEnts kv 0 L) 0 (fun x hx => by
        obtain ⟨i, hi, rfl⟩ := List.getElem_of_mem hx
        have hi' : i < L.length := by rw [mEnts_len] at hi; exact hi
        have := mEnts_at kv 0 L i hi'
        rw [List.getElem?_eq_getElem hi] at this
        injection this with this
        rw [this]; exact hk _)).resolve_left (fun g => by rw [h1] at g; cases g.1)
      rw [h1] at g1
      injection g1 with g1
      injection g1 with g1
      injection g1 with g1 g4
      have : j = n := by omega
      subst this
      rw [he] at g2
      injection g2 with g2
      rw [← g2] at g3
      exact g3
    have hs := MapKept.run_keyThatStays (P := P) (w := w) (hk k)
    have hln : (mPut k v L).length = L.length := by
      have := congrArg List.length (h3 v)
      rw [mEnts_len, List.length_modify, mEnts_len] at this
      exact this
    simp [Instr.mapUpdate, run_underlying ht, MapKept.run_getObj_map hb, MapKept.run_checkKey hd (hk k), hf, he, hkn, hs, MapKept.run_setObj_map _ hb, Result.andThen]
    unfold setB mapO
    rw [h3 v, hln]
end
end Go.Proofs.YtmalclclopnlnaaGreat
/-
  A range over a map told as a list.
-/
namespace Go.Proofs.YtmalclclopnlnaaGreat
open Go.RowKit Go.MapKept

/-- A range over a map of n entries, under way: the places seen. -/
def rgO (b n : Nat) (seen : List Nat) : Obj := .mapIter (some b) n seen.toArray n
section
variable {κ : Type} {kv : κ → Value} {P : Program} {t kt et : TypeId} {w : World} {b r : Nat} {L : List (κ × Value)} {seen : List Nat}
theorem mEnts_mem {i : Nat} {x : MapEntry} : ∀ {L : List (κ × Value)} {i : Nat}, x ∈ mEnts kv i L → ∃ j, ∃ h : j < L.length, x = ⟨kv L[j].1, L[j].2, i + j⟩
  | [], _, h => by simp [mEnts] at h
  | p :: r, i, h => by
    simp only [mEnts, List.mem_cons] at h
    rcases h with rfl | h
    · exact ⟨0, by simp, rfl⟩
    · obtain ⟨j, hj, rfl⟩ := mEnts_mem (i := i) h
      exact ⟨j + 1, by simpa using hj, by simp; omega⟩
theorem mEnts_born (i : Nat) (L : List (κ × Value)) : (mEnts kv i L).map (·.born) = List.range' i L.length := by
  induction L generalizing i with
  | nil => rfl
  | cons p r ih => simp [mEnts, ih, List.range'_succ]
theorem run_mrange (ht : P.underlying t = some (.map kt et)) (hb : w.heap[b]? = some (mapO kv L)) :
    (Instr.range t (.map (some b))).run P w = .ok (.pointer (some ⟨w.heap.size, 0, none⟩)) (w.alloc (rgO b L.length [])) :=
  run_range_map w t kt et b _ _ ht hb
theorem run_mnext (hr : w.heap[r]? = some (rgO b L.length seen)) (hb : w.heap[b]? = some (mapO kv L)) (hne : r ≠ b) (ty : TypeId) :
    ((∀ j, j < L.length → j ∈ seen) ∧ (Instr.next (.pointer (some ⟨r, 0, none⟩)) false ty).run P w = .ok (.tuple #[.bool false]) w) ∨
    ∃ j, ∃ hj : j < L.length, j ∉ seen ∧ ∃ w', (Instr.next (.pointer (some ⟨r, 0, none⟩)) false ty).run P w = .ok (.tuple #[.bool true, kv L[j].1, L[j].2]) w' ∧ Mod (fun x => x = r) w w' ∧
      w'.heap[r]? = some (rgO b L.length (seen ++ [j])) ∧ w'.heap[b]? = some (mapO kv L) ∧ (Instr.entry (.pointer (some ⟨r, 0, none⟩))).run P w' = .ok (.tuple #[kv L[j].1, L[j].2]) w' := by
  have hbs : ∀ x ∈ (mEnts kv 0 L).toArray.toList, x.born < L.length := fun x hx => by
    obtain ⟨j, hj, rfl⟩ := mEnts_mem (i := 0) (show x ∈ mEnts kv 0 L by simpa using hx)
    simpa using hj
  rcases run_next_at (P := P) w ty r b L.length L.length seen.toArray (mEnts kv 0 L).toArray L.length hr hb hbs (Nat.le_refl _) with ⟨h0, hrun⟩ | ⟨e, he, w1, hw1, hrun⟩
  · refine .inl ⟨fun j hj => ?_, hrun⟩
    have := all_seen _ _ h0 ⟨kv L[j].1, L[j].2, 0 + j⟩ (by
      have := mEnts_at kv 0 L j hj
      simpa using List.mem_of_getElem? this)
    simpa using this
  · obtain ⟨h1, h2⟩ := mem_left he
    obtain ⟨j, hj, rfl⟩ := mEnts_mem (i := 0) (show e ∈ mEnts kv 0 L by simpa using h1)
    refine .inr ⟨j, hj, by simpa using h2, _, hrun, ?_⟩
    have hm1 : Mod (fun x => x = r) w w1 := by
      rcases hw1 with rfl | rfl
      · exact Mod.refl _ _
      · exact (Mod.refl _ _).drew
    have hr1 : w1.heap[r]? = some (rgO b L.length seen) := by rcases hw1 with rfl | rfl <;> exact hr
    have hb1 : w1.heap[b]? = some (mapO kv L) := by rcases hw1 with rfl | rfl <;> exact hb
    have hpush : seen.toArray.push (0 + j) = (seen ++ [j]).toArray := by simp
    have hr2 : (ChangeMaps.setBlock w1 r (.mapIter (some b) L.length (seen.toArray.push (0 + j)) L.length)).heap[r]? = some (rgO b L.length (seen ++ [j])) := by
      rw [hpush]; exact (MapKept.heap_set hr1).1
    have hb2 : (ChangeMaps.setBlock w1 r (.mapIter (some b) L.length (seen.toArray.push (0 + j)) L.length)).heap[b]? = some (mapO kv L) := ((MapKept.heap_set hr1).2 b hne.symm).trans hb1
    refine ⟨hm1.trans' ⟨rfl, rfl, rfl, by simp [ChangeMaps.setBlock], fun k hk hkr => (MapKept.heap_set hr1).2 k hkr⟩, hr2, hb2, ?_⟩
    exact run_entry_at _ r b L.length seen.toArray (mEnts kv 0 L).toArray L.length ⟨kv L[j].1, L[j].2, 0 + j⟩ (by rw [hr2]; simp [rgO]) hb2 h1 (by
      show (List.map (·.born) (mEnts kv 0 L)).Nodup
      rw [mEnts_born]; exact List.nodup_range')

/-- What a range over a map holds: the places seen, each once. -/
structure RgAt (w : World) (b r : Nat) (kv : κ → Value) (L : List (κ × Value)) (seen : List Nat) : Prop where
  it : w.heap[r]? = some (rgO b L.length seen)
  mp : w.heap[b]? = some (mapO kv L)
  ne : r ≠ b
  nd : seen.Nodup
  lt : ∀ j ∈ seen, j < L.length
theorem nodup_full {n : Nat} {seen : List Nat} (nd : seen.Nodup) (lt : ∀ j ∈ seen, j < n) : seen.length ≤ n := by
  have := List.Nodup.length_le_of_subset nd (l₂ := List.range n) (fun j hj => List.mem_range.2 (lt j hj))
  simpa using this
theorem RgAt.le (h : RgAt w b r kv L seen) : seen.length ≤ L.length := nodup_full h.nd h.lt
theorem RgAt.keep {w' : World} (h : RgAt w b r kv L seen) (hA : Agree (fun x => x = b ∨ x = r) w w') : RgAt w' b r kv L seen :=
  ⟨(hA.block r (.inr rfl)).trans h.it, (hA.block b (.inl rfl)).trans h.mp, h.ne, h.nd, h.lt⟩
theorem RgAt.mod {w' : World} {C : Nat → Prop} (h : RgAt w b r kv L seen) (hm : Mod C w w') (h1 : ¬ C b) (h2 : ¬ C r) : RgAt w' b r kv L seen :=
  ⟨hp_mod h.it hm h2, hp_mod h.mp hm h1, h.ne, h.nd, h.lt⟩
theorem RgAt.perm (h : RgAt w b r kv L seen) (hall : ∀ j, j < L.length → j ∈ seen) : seen.Perm (List.range L.length) :=
  (List.perm_ext_iff_of_nodup h.nd List.nodup_range).2 fun j => ⟨fun hj => List.mem_range.2 (h.lt j hj), fun hj => hall j (List.mem_range.1 hj)⟩

section
variable {ops : Array Oper} {rest : List Oper} {o : Oper} {a : Act} {Q : Exit → Act → World → Prop} {F : Fence} {n : Nat}
theorem wpList_mrange (hg : o.guard = none) (m : Operand) (t : TypeId) (hop : o.op = Op.range t m) (kt et : TypeId) (ht : P.underlying t = some (.map kt et)) (hb : w.heap[b]? = some (mapO kv L)) (hm : a.eval m = .map (some b))
    (hK : ∀ w', RgAt w' b w.heap.size kv L [] → Mod (fun _ => False) w w' → wpList P ops Q rest (a.put o.dst (.pointer (some ⟨w.heap.size, 0, none⟩))) w') : wpList P ops Q (o :: rest) a w := by
  refine wpList_plain hg fun K' hK' => ?_
  unfold Oper.wp
  simp [execOp, hop, hm, run_mrange ht hb, Result.andThen]
  exact hK' _ _ (hK _ ⟨hp_new _ _, hp_alloc hb _, by have := hp_lt hb; omega, by simp, by simp⟩ ((Mod.refl _ _).alloc _))
theorem wpListIn_mrange (hg : o.guard = none) (m : Operand) (t : TypeId) (hop : o.op = Op.range t m) (kt et : TypeId) (ht : P.underlying t = some (.map kt et)) (hb : w.heap[b]? = some (mapO kv L)) (hm : a.eval m = .map (some b))
    (hK : ∀ w', RgAt w' b w.heap.size kv L [] → Mod (fun _ => False) w w' → wpListIn F n P ops Q rest (a.put o.dst (.pointer (some ⟨w.heap.size, 0, none⟩))) w') : wpListIn F n P ops Q (o :: rest) a w := by
  refine wpListIn_plain hg fun K' hK' => ?_
  unfold Oper.wpIn
  refine ⟨by simp [Oper.about, hop], ?_⟩
  rw [Oper.semAt_plain F _ _ (by rw [hop]; intro c hc'; cases hc')]
  simp [execOp, hop, hm, run_mrange ht hb, Result.andThen]
  exact hK' _ _ (hK _ ⟨hp_new _ _, hp_alloc hb _, by have := hp_lt hb; omega, by simp, by simp⟩ ((Mod.refl _ _).alloc _))
theorem RgAt.step {w' : World} {j : Nat} (h : RgAt w b r kv L seen) (hj : j < L.length) (hn : j ∉ seen) (h1 : w'.heap[r]? = some (rgO b L.length (seen ++ [j]))) (h2 : w'.heap[b]? = some (mapO kv L)) : RgAt w' b r kv L (seen ++ [j]) :=
  ⟨h1, h2, h.ne, List.nodup_append.2 ⟨h.nd, by simp, fun x hx y hy => by simp at hy; subst hy; exact fun e => hn (e ▸ hx)⟩, fun i hi => by
    rcases List.mem_append.1 hi with hi | hi
    · exact h.lt i hi
    · simp at hi; omega⟩
theorem wpList_mnext (hg : o.guard = none) (it : Operand) (hop : o.op = Op.next it false) (hit : a.eval it = .pointer (some ⟨r, 0, none⟩)) (h : RgAt w b r kv L seen)
    (hDone : (∀ j, j < L.length → j ∈ seen) → wpList P ops Q rest (a.put o.dst (.tuple #[.bool false])) w)
    (hMore : ∀ (j : Nat) (hj : j < L.length) (w' : World), j ∉ seen → seen.length < L.length → RgAt w' b r kv L (seen ++ [j]) → Mod (fun x => x = r) w w' → (Instr.entry (.pointer (some ⟨r, 0, none⟩))).run P w' = .ok (.tuple #[kv L[j].1, L[j].2]) w' →
      wpList P ops Q rest (a.put o.dst (.tuple #[.bool true, kv L[j].1, L[j].2])) w') : wpList P ops Q (o :: rest) a w := by
  refine wpList_plain hg fun K' hK' => ?_
  unfold Oper.wp
  rcases run_mnext (P := P) h.it h.mp h.ne o.type with ⟨h0, hrun⟩ | ⟨j, hj, hn, w', hrun, hm, h1, h2, hen⟩
  · simp [execOp, hop, hit, hrun, Result.andThen]
    exact hK' _ _ (hDone h0)
  · simp [execOp, hop, hit, hrun, Result.andThen]
    have hs := h.step hj hn h1 h2
    exact hK' _ _ (hMore j hj w' hn (by have := hs.le; simp at this; omega) hs hm hen)
theorem wpListIn_mnext (hg : o.guard = none) (it : Operand) (hop : o.op = Op.next it false) (hit : a.eval it = .pointer (some ⟨r, 0, none⟩)) (h : RgAt w b r kv L seen)
    (hDone : (∀ j, j < L.length → j ∈ seen) → wpListIn F n P ops Q rest (a.put o.dst (.tuple #[.bool false])) w)
    (hMore : ∀ (j : Nat) (hj : j < L.length) (w' : World), j ∉ seen → seen.length < L.length → RgAt w' b r kv L (seen ++ [j]) → Mod (fun x => x = r) w w' → (Instr.entry (.pointer (some ⟨r, 0, none⟩))).run P w' = .ok (.tuple #[kv L[j].1, L[j].2]) w' →
      wpListIn F n P ops Q rest (a.put o.dst (.tuple #[.bool true, kv L[j].1, L[j].2])) w') : wpListIn F n P ops Q (o :: rest) a w := by
  refine wpListIn_plain hg fun K' hK' => ?_
  unfold Oper.wpIn
  refine ⟨by simp [Oper.about, hop], ?_⟩
  rw [Oper.semAt_plain F _ _ (by rw [hop]; intro c hc'; cases hc')]
  rcases run_mnext (P := P) h.it h.mp h.ne o.type with ⟨h0, hrun⟩ | ⟨j, hj, hn, w', hrun, hm, h1, h2, hen⟩
  · simp [execOp, hop, hit, hrun, Result.andThen]
    exact hK' _ _ (hDone h0)
  · simp [execOp, hop, hit, hrun, Result.andThen]
    have hs := h.step hj hn h1 h2
    exact hK' _ _ (hMore j hj w' hn (by have := hs.le; simp at this; omega) hs hm hen)
theorem wpList_mput [DecidableEq κ] (hg : o.guard = none) (m x v : Operand) (t : TypeId) (hop : o.op = Op.mapUpdate t m x v ∨ o.op = Op.insert t m x v) (kt et : TypeId) (K : KeyT kv P kt) (ht : P.underlying t = some (.map kt et)) (hm : a.eval m = .map (some b)) (hb : w.heap[b]? = some (mapO kv L)) (k : κ) (hx : a.eval x = kv k) (u : Value) (hv : a.eval v = u)
    (hK : ∀ w', w'.heap[b]? = some (mapO kv (mPut k u L)) → Mod (fun y => y = b) w w' → wpList P ops Q rest (a.put o.dst undef) w') : wpList P ops Q (o :: rest) a w := by
  refine wpList_plain hg fun K' hK' => ?_
  unfold Oper.wp
  rcases hop with hop | hop
  · simp [execOp, hop, hm, hx, hv, run_mput K ht hb, Result.andThen]
    exact hK' _ _ (hK _ (setB_at hb) (setB_mod _ _ _))
  · simp [execOp, hop, hm, hx, hv, run_mput K ht hb, Result.andThen]
    exact hK' _ _ (hK _ (setB_at hb) (setB_mod _ _ _))
theorem wpListIn_mput [DecidableEq κ] (hg : o.guard = none) (m x v : Operand) (t : TypeId) (hop : o.op = Op.mapUpdate t m x v ∨ o.op = Op.insert t m x v) (kt et : TypeId) (K : KeyT kv P kt) (ht : P.underlying t = some (.map kt et)) (hm : a.eval m = .map (some b)) (hb : w.heap[b]? = some (mapO kv L)) (k : κ) (hx : a.eval x = kv k) (u : Value) (hv : a.eval v = u)
    (hK : ∀ w', w'.heap[b]? = some (mapO kv (mPut k u L)) → Mod (fun y => y = b) w w' → wpListIn F n P ops Q rest (a.put o.dst undef) w') : wpListIn F n P ops Q (o :: rest) a w := by
  refine wpListIn_plain hg fun K' hK' => ?_
  unfold Oper.wpIn
  rcases hop with hop | hop
  · refine ⟨by simp [Oper.about, hop], ?_⟩
    rw [Oper.semAt_plain F _ _ (by rw [hop]; intro c hc'; cases hc')]
    simp [execOp, hop, hm, hx, hv, run_mput K ht hb, Result.andThen]
    exact hK' _ _ (hK _ (setB_at hb) (setB_mod _ _ _))
  · refine ⟨by simp [Oper.about, hop], ?_⟩
    rw [Oper.semAt_plain F _ _ (by rw [hop]; intro c hc'; cases hc')]
    simp [execOp, hop, hm, hx, hv, run_mput K ht hb, Result.andThen]
    exact hK' _ _ (hK _ (setB_at hb) (setB_mod _ _ _))
end
end
end Go.Proofs.YtmalclclopnlnaaGreat
/-
  A table of clients as it lies in memory: the program's (a pointer to a map), the document's (a pointer to a list).
-/
namespace Go.Proofs.YtmalclclopnlnaaGreat
open Go.RowKit Go.MapKept

def kvU (c : Int) : Value := .int .u64 c
/-- What a map has of a client: its number, where its result's bytes are. -/
structure TC where
  c : Nat
  n : Nat
  A : Option Addr
  cap : Nat
  r : Res
def TC.val (t : TC) : Value := .agg #[.int .u64 (t.n : Int), .slice t.A (resV t.r).length t.cap]
def TC.kv (t : TC) : Int × Value := ((t.c : Int), t.val)
def TC.told (t : TC) : Told := ⟨t.c, t.n, t.r⟩
/-- A table lies in block p, its map in block m, the bytes in blocks of F. -/
structure TabAt (F : Nat → Prop) (p m T : Nat) (w : World) (L : List Told) (ms : List TC) : Prop where
  ptr : w.heap[p]? = some (.cells #[.map (some m)] T (0, 0))
  map : w.heap[m]? = some (mapO kvU (ms.map TC.kv))
  perm : (ms.map TC.told).Perm L
  tab : Tab L
  rd : ∀ t ∈ ms, Rd F w 1 csU t.A (resV t.r) ∧ (resV t.r).length ≤ t.cap
  ne : p ≠ m
  off : ∀ b, F b → b < w.heap.size ∧ b ≠ p ∧ b ≠ m
theorem TabAt.plt {F : Nat → Prop} {p m T : Nat} {w : World} {L : List Told} {ms : List TC} (h : TabAt F p m T w L ms) : p < w.heap.size := hp_lt h.ptr
theorem TabAt.mlt {F : Nat → Prop} {p m T : Nat} {w : World} {L : List Told} {ms : List TC} (h : TabAt F p m T w L ms) : m < w.heap.size := hp_lt h.map
theorem TabAt.mod {F C : Nat → Prop} {p m T : Nat} {w w' : World} {L : List Told} {ms : List TC} (h : TabAt F p m T w L ms) (hm : Mod C w w') (hp : ¬ C p) (hmm : ¬ C m) (hF : ∀ b, F b → ¬ C b) : TabAt F p m T w' L ms :=
  ⟨hp_mod h.ptr hm hp, hp_mod h.map hm hmm, h.perm, h.tab, fun t ht => ⟨(h.rd t ht).1.mod hm fun b hb => ⟨(h.off b hb).1, hF b hb⟩, (h.rd t ht).2⟩, h.ne, fun b hb => ⟨Nat.lt_of_lt_of_le (h.off b hb).1 hm.size, (h.off b hb).2⟩⟩
theorem TabAt.len {F : Nat → Prop} {p m T : Nat} {w : World} {L : List Told} {ms : List TC} (h : TabAt F p m T w L ms) : ms.length = L.length := by
  have := h.perm.length_eq
  rwa [List.length_map] at this
theorem find_get (c : Nat) : ∀ ms : List TC, (mGet (c : Int) (ms.map TC.kv) = none ∧ atT c (ms.map TC.told) = none) ∨ ∃ t ∈ ms, t.c = c ∧ mGet (c : Int) (ms.map TC.kv) = some t.val ∧ atT c (ms.map TC.told) = some t.told
  | [] => .inl ⟨rfl, rfl⟩
  | y :: l => by
    by_cases h : c = y.c
    · refine .inr ⟨y, by simp, h.symm, ?_, ?_⟩
      · rw [List.map_cons, mGet_cons, if_pos (show (c : Int) = y.kv.1 from congrArg Nat.cast h)]; rfl
      · unfold atT
        rw [List.map_cons, List.find?_cons, decide_eq_true (show y.told.c = c from h.symm)]
    · have e1 : mGet (c : Int) ((y :: l).map TC.kv) = mGet (c : Int) (l.map TC.kv) := by rw [List.map_cons, mGet_cons, if_neg (show ¬ (c : Int) = y.kv.1 from fun e => h (Int.ofNat.inj e))]
      have e2 : atT c ((y :: l).map TC.told) = atT c (l.map TC.told) := by
        unfold atT
        rw [List.map_cons, List.find?_cons, decide_eq_false (show ¬ y.told.c = c from Ne.symm h)]
      rw [e1, e2]
      rcases find_get c l with h1 | ⟨t, ht, h2⟩
      · exact .inl h1
      · exact .inr ⟨t, by simp [ht], h2⟩
/-- What the map answers, by the table. -/
theorem TabAt.get {F : Nat → Prop} {p m T : Nat} {w : World} {L : List Told} {ms : List TC} (h : TabAt F p m T w L ms) (c : Nat) :
    (mGet (c : Int) (ms.map TC.kv) = none ∧ atT c L = none) ∨ ∃ t ∈ ms, t.c = c ∧ mGet (c : Int) (ms.map TC.kv) = some t.val ∧ atT c L = some t.told := by
  rw [← perm_at h.tab.1 h.perm c]
  exact find_get c ms
theorem upd_put (t : TC) : ∀ ms : List TC, mPut (t.c : Int) t.val (ms.map TC.kv) = (updK TC.c t ms).map TC.kv
  | [] => rfl
  | y :: l => by
    simp only [updK, List.map_cons]
    unfold mPut
    by_cases h : t.c = y.c
    · rw [if_pos (show (t.c : Int) = y.kv.1 from congrArg Nat.cast h), if_pos h, List.map_cons]; rfl
    · rw [if_neg (show ¬ (t.c : Int) = y.kv.1 from fun e => h (Int.ofNat.inj e)), if_neg h, List.map_cons, upd_put t l]
theorem upd_mem {t x : TC} : ∀ {ms : List TC}, x ∈ updK TC.c t ms → x = t ∨ x ∈ ms
  | [], h => by simp [updK] at h; exact .inl h
  | y :: l, h => by
    simp only [updK] at h
    split at h
    · rcases List.mem_cons.1 h with h | h
      · exact .inl h
      · exact .inr (by simp [h])
    · rcases List.mem_cons.1 h with h | h
      · exact .inr (by simp [h])
      · exact (upd_mem h).elim .inl fun h => .inr (by simp [h])
/-- A client put into the map. -/
theorem TabAt.put {F F' : Nat → Prop} {p m T : Nat} {w w' : World} {L : List Told} {ms : List TC} (h : TabAt F p m T w L ms) (t : TC) (hm : Mod (fun b => b = m) w w') (hmap : w'.heap[m]? = some (mapO kvU (mPut (t.c : Int) t.val (ms.map TC.kv))))
    (hF : ∀ b, F b → F' b) (hF' : ∀ b, F' b → b < w'.heap.size ∧ b ≠ p ∧ b ≠ m) (hr : Rd F' w' 1 csU t.A (resV t.r)) (hcap : (resV t.r).length ≤ t.cap) (hT : Tab (putT t.told L)) : TabAt F' p m T w' (putT t.told L) (updK TC.c t ms) := by
  refine ⟨hp_mod h.ptr hm h.ne, by rw [← upd_put]; exact hmap, ?_, hT, fun x hx => ?_, h.ne, hF'⟩
  · rw [updK_map TC.told TC.c Told.c (fun _ => rfl), putT_ins]
    exact ins_upd Told.c _ h.tab.1 h.perm
  · rcases upd_mem hx with rfl | hx
    · exact ⟨hr, hcap⟩
    · exact ⟨((h.rd x hx).1.mod hm fun b hb => ⟨(h.off b hb).1, (h.off b hb).2.2⟩).mono hF, (h.rd x hx).2⟩
/-- The document's table: in block q a list of clients, rising; the results as they came in. -/
structure RefAt (base E : Nat) (D : Nat → Prop) (q T : Nat) (w : World) (L : List Told) (v : Value) (xs : List AC) : Prop where
  ptr : w.heap[q]? = some (.cells #[v] T (0, 0))
  own : OwnS base E 6 AC.cs w v xs
  ok : ∀ x ∈ xs, x.Ok D w
  told : xs.map AC.told = L
  tab : Tab L
  ne : ∀ b, v.ownBlock = some b → b ≠ q
end Go.Proofs.YtmalclclopnlnaaGreat
/-
  The package clients: is there one, its latest number, how many.
-/
namespace Go.Proofs.YtmalclclopnlnaaGreat
open Go.RowKit Go.Shelf
attribute [local go_sem] Oper.semAt_some

theorem run_neq_map {P : Program} (w : World) (t : TypeId) {kt et : TypeId} (ht : P.underlying t = some (.map kt et)) (m : Option Nat) : (binOp .neq t (.map m) (.map none)).run P w = .ok (.bool m.isSome) w := by
  have h' : ∀ d : Nat, (Op.equalIn (d + 1) t (.map m) (.map none)).run P w = .ok (m == none) w := fun d => by cases m <;> simp [Op.equalIn, run_underlying ht]
  simp only [binOp]
  simp [Op.equal, Op.maxDepth, h' 9999]
  try (cases m <;> simp)
theorem tthere_yes (p m : Nat) (w : World) (h : w.cell? ⟨p, 0, none⟩ = some (.map (some m))) : Calls Tryz.prog 24 #[.pointer (some ⟨p, 0, none⟩)] w fun e w' => e = .returned (.bool true) ∧ w = w' := by
  have hn := fun W => run_neq_map (P := Tryz.prog) W _ Tryz.underlying45 (some m)
  go_enter Tryz.func24, Tryz.ntmps24
  go_wp2
  go_ret
  exact ⟨rfl, rfl⟩
theorem tthere_no (v : Value) (w : World) (h : v = .pointer none ∨ ∃ p, v = .pointer (some ⟨p, 0, none⟩) ∧ w.cell? ⟨p, 0, none⟩ = some (.map none)) : Calls Tryz.prog 24 #[v] w fun e w' => e = .returned (.bool false) ∧ w = w' := by
  rcases h with rfl | ⟨p, rfl, h⟩
  · go_enter Tryz.func24, Tryz.ntmps24
    go_wp2
    go_ret
    exact ⟨rfl, rfl⟩
  · have hn := fun W => run_neq_map (P := Tryz.prog) W _ Tryz.underlying45 none
    go_enter Tryz.func24, Tryz.ntmps24
    go_wp2
    go_ret
    exact ⟨rfl, rfl⟩
theorem kvU_t : KeyT kvU Tryz.prog 30 := ⟨fun a b h => by injection h, _, Tryz.underlying30, fun a => by simp [Go.MapKept.IsKey, kvU]⟩
set_option maxRecDepth 100000 in
set_option maxHeartbeats 1000000 in
theorem tlatest_any (F : Nat → Prop) (p m T : Nat) (L : List Told) (ms : List TC) (c : Nat) (w : World) (h : TabAt F p m T w L ms) :
    Calls Tryz.prog 11 #[.pointer (some ⟨p, 0, none⟩), .int .u64 (c : Int)] w fun e w' => e = .returned (match atT c L with | none => .tuple #[.int .u64 0, .bool false] | some x => .tuple #[.int .u64 (x.n : Int), .bool true]) ∧ Mod (fun _ => False) w w' := by
  have x0 : w.cell? ⟨p, 0, none⟩ = some (.map (some m)) := by rw [hp_cell h.ptr]; rfl
  have hlk := run_mget (P := Tryz.prog) (w := w) kvU_t Tryz.underlying45 (z := .agg #[.int .u64 0, .slice none 0 0]) (by kernel_rfl) h.map (c : Int) true
  rcases h.get c with ⟨h1, h2⟩ | ⟨t, -, -, h1, h2⟩
  · rw [h1] at hlk
    rw [h2]
    unfold kvU at hlk
    clear h h1 h2
    go_enter Tryz.func11, Tryz.ntmps11
    go_wp2
    refine bodyPost_ret (v := .tuple #[.int .u64 0, .bool false]) (by simp [results, Tryz.results11, go_sem]) rfl ⟨rfl, by (repeat' (first | exact Mod.refl _ _ | assumption | refine Mod.alloc ?_ _ | refine Mod.drew ?_ | refine Mod.drewN ?_ _ | refine Mod.setCell ?_ (by first | exact Or.inl rfl | (right; simp; done) | (right; simp; omega) | (left; simp; done)) _))⟩
  · rw [h1] at hlk
    rw [h2]
    unfold kvU TC.val at hlk
    clear h h1 h2
    go_enter Tryz.func11, Tryz.ntmps11
    go_wp2
    refine bodyPost_ret (v := .tuple #[.int .u64 (t.n : Int), .bool true]) (by simp [results, Tryz.results11, go_sem]) rfl ⟨rfl, by (repeat' (first | exact Mod.refl _ _ | assumption | refine Mod.alloc ?_ _ | refine Mod.drew ?_ | refine Mod.drewN ?_ _ | refine Mod.setCell ?_ (by first | exact Or.inl rfl | (right; simp; done) | (right; simp; omega) | (left; simp; done)) _))⟩
theorem tlen_any (F : Nat → Prop) (p m T : Nat) (L : List Told) (ms : List TC) (w : World) (h : TabAt F p m T w L ms) :
    Calls Tryz.prog 17 #[.pointer (some ⟨p, 0, none⟩)] w fun e w' => e = .returned (.int .i64 (L.length : Int)) ∧ w = w' := by
  have x0 : w.cell? ⟨p, 0, none⟩ = some (.map (some m)) := by rw [hp_cell h.ptr]; rfl
  have hsz : (mEnts kvU 0 (ms.map TC.kv)).toArray.size = L.length := by rw [List.size_toArray, mEnts_len, List.length_map, h.len]
  have hln := run_len_map (P := Tryz.prog) (w := w) 45 3 m _ _ (by kernel_rfl) h.map
  rw [hsz] at hln
  obtain ⟨n, hn⟩ : ∃ n, n = L.length := ⟨_, rfl⟩
  rw [← hn] at hln ⊢
  clear hsz h hn
  go_enter Tryz.func17, Tryz.ntmps17
  go_wp2
  go_ret
  exact ⟨rfl, rfl⟩
end Go.Proofs.YtmalclclopnlnaaGreat
/-
  The package clients: a table without clients.
-/
namespace Go.Proofs.YtmalclclopnlnaaGreat
open Go.RowKit Go.Shelf
attribute [local go_sem] Oper.semAt_some run_makeMap

theorem tnew_any (w : World) : Calls Tryz.prog 19 #[] w fun e w' => ∃ p m, e = .returned (.pointer (some ⟨p, 0, none⟩)) ∧ TabAt (fun _ => False) p m 47 w' [] [] ∧ w.heap.size ≤ p ∧ w.heap.size ≤ m ∧ Mod (fun _ => False) w w' := by
  go_enter Tryz.func19, Tryz.ntmps19
  go_wp2
  go_ret
  refine ⟨_, w.heap.size, rfl, ⟨hp_at _ _ (by simp), hp_alloc (hp_new _ _) _, .refl _, Tab.nil, fun _ h => (by cases h), ?_, fun _ h => h.elim⟩, ?_, Nat.le_refl _, by (repeat' (first | exact Mod.refl _ _ | assumption | refine Mod.alloc ?_ _ | refine Mod.drew ?_ | refine Mod.drewN ?_ _ | refine Mod.setCell ?_ (by first | exact Or.inl rfl | (right; simp; done) | (right; simp; omega) | (left; simp; done)) _))⟩
  · simp
  · simp
end Go.Proofs.YtmalclclopnlnaaGreat
