/-
  Maps as lists: a map's block told whole, what is found in it, what is put into it.
-/
import Derived.Test.YtidbgfmknhlmnaaGreatDoorBase
import Derived.MapKept
import Derived.Maps.Keyed
namespace Go.Proofs.YtidbgfmknhlmnaaGreatDoor
open Go.RowKit Go.MapKept

section
variable {κ : Type} [DecidableEq κ]
/-- What stands under a key. -/
def mGet (k : κ) : List (κ × Value) → Option Value
  | [] => none
  | p :: r => if k = p.1 then some p.2 else mGet k r
theorem mGet_cons (k : κ) (p : κ × Value) (r : List (κ × Value)) : mGet k (p :: r) = if k = p.1 then some p.2 else mGet k r := rfl
/-- A key's value put in. -/
def mPut (k : κ) (v : Value) : List (κ × Value) → List (κ × Value)
  | [] => [(k, v)]
  | p :: r => if k = p.1 then (k, v) :: r else p :: mPut k v r
theorem mGet_put (k a : κ) (v : Value) (L : List (κ × Value)) : mGet a (mPut k v L) = if a = k then some v else mGet a L := by
  induction L with
  | nil => simp [mPut, mGet]
  | cons p r ih =>
    unfold mPut
    by_cases h : k = p.1
    · rw [if_pos h]
      unfold mGet
      by_cases h2 : a = k
      · simp [h2]
      · rw [if_neg h2, if_neg h2, if_neg (by rw [← h]; exact h2)]
    · rw [if_neg h]
      unfold mGet
      rw [ih]
      by_cases h2 : a = p.1
      · rw [if_pos h2, if_pos h2, if_neg (by rw [h2]; exact fun e => h e.symm)]
      · rw [if_neg h2, if_neg h2]
theorem mGet_none {k : κ} {L : List (κ × Value)} : mGet k L = none ↔ ∀ p ∈ L, p.1 ≠ k := by
  induction L with
  | nil => simp [mGet]
  | cons p r ih =>
    unfold mGet
    by_cases h : k = p.1
    · rw [if_pos h]; simp [h]
    · rw [if_neg h, ih]
      simp only [List.mem_cons, forall_eq_or_imp]
      exact ⟨fun h2 => ⟨fun e => h e.symm, h2⟩, fun h2 => h2.2⟩
theorem mGet_mem {k : κ} {v : Value} {L : List (κ × Value)} (h : mGet k L = some v) : (k, v) ∈ L := by
  induction L with
  | nil => simp [mGet] at h
  | cons p r ih =>
    unfold mGet at h
    by_cases hk : k = p.1
    · rw [if_pos hk] at h
      injection h with h
      rw [hk, ← h]; simp
    · rw [if_neg hk] at h
      exact List.mem_cons_of_mem _ (ih h)
theorem mPut_new {k : κ} (v : Value) {L : List (κ × Value)} (h : mGet k L = none) : mPut k v L = L ++ [(k, v)] := by
  induction L with
  | nil => rfl
  | cons p r ih =>
    unfold mGet at h
    by_cases hk : k = p.1
    · rw [if_pos hk] at h; cases h
    · rw [if_neg hk] at h
      unfold mPut
      rw [if_neg hk, ih h, List.cons_append]
theorem mGet_app (k : κ) (L M : List (κ × Value)) : mGet k (L ++ M) = (mGet k L).orElse fun _ => mGet k M := by
  induction L with
  | nil => simp [mGet]
  | cons p r ih =>
    rw [List.cons_append, mGet_cons, mGet_cons]
    by_cases hk : k = p.1
    · rw [if_pos hk, if_pos hk]; rfl
    · rw [if_neg hk, if_neg hk, ih]

end
section
variable {κ : Type} (kv : κ → Value)
def mEnts : Nat → List (κ × Value) → List MapEntry
  | _, [] => []
  | i, p :: r => ⟨kv p.1, p.2, i⟩ :: mEnts (i + 1) r
theorem mEnts_len (i : Nat) (L : List (κ × Value)) : (mEnts kv i L).length = L.length := by
  induction L generalizing i with
  | nil => rfl
  | cons p r ih => simp [mEnts, ih]
theorem mEnts_at (i : Nat) (L : List (κ × Value)) (j : Nat) (h : j < L.length) : (mEnts kv i L)[j]? = some ⟨kv L[j].1, L[j].2, i + j⟩ := by
  induction L generalizing i j with
  | nil => cases h
  | cons p r ih =>
    cases j with
    | zero => rfl
    | succ j =>
      simp only [mEnts, List.getElem?_cons_succ, List.getElem_cons_succ]
      rw [ih (i + 1) j (by simpa using h)]
      congr 2; omega
theorem mEnts_app (i : Nat) (L : List (κ × Value)) (k : κ) (v : Value) : mEnts kv i (L ++ [(k, v)]) = mEnts kv i L ++ [⟨kv k, v, i + L.length⟩] := by
  induction L generalizing i with
  | nil => rfl
  | cons p r ih =>
    simp only [mEnts, List.cons_append, ih, List.length_cons]
    rw [show i + 1 + r.length = i + (r.length + 1) by omega]
/-- The block of a map. -/
def mapO (L : List (κ × Value)) : Obj := .map (mEnts kv 0 L).toArray L.length

/-- A key's type: how keys are spelt in it. -/
structure KeyT (P : Program) (t : TypeId) : Prop where
  inj : ∀ a b, kv a = kv b → a = b
  kind : ∃ d, P.underlying t = some d ∧ ∀ a, IsKey d (kv a)

end
theorem run_mnil {κ : Type} {kv : κ → Value} {P : Program} {t kt et : TypeId} (K : KeyT kv P kt) (ht : P.underlying t = some (.map kt et)) {z : Value} {w : World} (hz : (zeroValue et).run P w = .ok z w) (k : κ) (c : Bool) :
    (Instr.lookup t (.map none) (kv k) c).run P w = .ok (if c then .tuple #[z, .bool false] else z) w := by
  obtain ⟨d, hd, hk⟩ := K.kind
  have hf := MapKept.run_findKey (P := P) (w := w) hd (show Instr.findNow d (kv k) [] 0 = some none from rfl)
  simp [Instr.lookup, run_underlying ht, MapKept.run_checkKey hd (hk k), hf, hz, Result.andThen]
section
variable {κ : Type} [DecidableEq κ] {kv : κ → Value} {P : Program} {t kt et : TypeId}
theorem findNow_none {d : TypeDesc} (hk : ∀ a, IsKey d (kv a)) (inj : ∀ a b, kv a = kv b → a = b) (k : κ) (i : Nat) (L : List (κ × Value)) (j : Nat) (h : mGet k L = none) : Instr.findNow d (kv k) (mEnts kv i L) j = some none := by
  induction L generalizing i j with
  | nil => rfl
  | cons p r ih =>
    unfold mGet at h
    by_cases hp : k = p.1
    · rw [if_pos hp] at h; cases h
    · rw [if_neg hp] at h
      obtain ⟨b, hb, hiff⟩ := MapKept.sameNow_of_keys (hk k) (hk p.1)
      have hb0 : b = false := by
        cases b with
        | false => rfl
        | true => exact absurd (inj _ _ (hiff.1 rfl)) hp
      subst hb0
      simpa only [mEnts, Instr.findNow, hb] using ih (i + 1) (j + 1) h
theorem findNow_some {d : TypeDesc} (hk : ∀ a, IsKey d (kv a)) (inj : ∀ a b, kv a = kv b → a = b) (k : κ) (i : Nat) (L : List (κ × Value)) (j : Nat) (v : Value) (h : mGet k L = some v) :
    ∃ n, Instr.findNow d (kv k) (mEnts kv i L) j = some (some (j + n, v)) ∧ n < L.length ∧ ∀ u, (mEnts kv i (mPut k u L)) = (mEnts kv i L).modify n fun e => { e with key := kv k, val := u } := by
  induction L generalizing i j with
  | nil => cases h
  | cons p r ih =>
    unfold mGet at h
    by_cases hp : k = p.1
    · rw [if_pos hp] at h
      injection h with h
      subst h
      obtain ⟨b, hb, hiff⟩ := MapKept.sameNow_of_keys (hk k) (hk p.1)
      have hb0 : b = true := hiff.2 (by rw [hp])
      subst hb0
      refine ⟨0, by simp [mEnts, Instr.findNow, hb], by simp, fun u => ?_⟩
      unfold mPut
      rw [if_pos hp]
      simp [mEnts]
    · rw [if_neg hp] at h
      obtain ⟨b, hb, hiff⟩ := MapKept.sameNow_of_keys (hk k) (hk p.1)
      have hb0 : b = false := by
        cases b with
        | false => rfl
        | true => exact absurd (inj _ _ (hiff.1 rfl)) hp
      subst hb0
      obtain ⟨n, h1, h2, h3⟩ := ih (i + 1) (j + 1) h
      refine ⟨n + 1, ?_, by simp; omega, fun u => ?_⟩
      · have e : j + 1 + n = j + (n + 1) := by omega
        rw [e] at h1
        simpa only [mEnts, Instr.findNow, hb] using h1
      · unfold mPut
        rw [if_neg hp]
        simp only [mEnts, h3 u]
        rfl
theorem run_mget (K : KeyT kv P kt) (ht : P.underlying t = some (.map kt et)) {z : Value} {w : World} (hz : (zeroValue et).run P w = .ok z w) {b : Nat} {L : List (κ × Value)} (hb : w.heap[b]? = some (mapO kv L)) (k : κ) (c : Bool) :
    (Instr.lookup t (.map (some b)) (kv k) c).run P w = .ok (if c then .tuple #[(mGet k L).getD z, .bool (mGet k L).isSome] else (mGet k L).getD z) w := by
  obtain ⟨d, hd, hk⟩ := K.kind
  cases h : mGet k L with
  | none =>
    have hf := MapKept.run_findKey (P := P) (w := w) hd (findNow_none hk K.inj k 0 L 0 h)
    simp [Instr.lookup, run_underlying ht, MapKept.run_getObj_map hb, MapKept.run_checkKey hd (hk k), hf, hz, Result.andThen]
  | some v =>
    obtain ⟨n, h1, -⟩ := findNow_some hk K.inj k 0 L 0 v h
    have hf := MapKept.run_findKey (P := P) (w := w) hd h1
    simp [Instr.lookup, run_underlying ht, MapKept.run_getObj_map hb, MapKept.run_checkKey hd (hk k), hf, Result.andThen]
def setB (w : World) (b : Nat) (o : Obj) : World := { w with heap := w.heap.setIfInBounds b o }
theorem setB_at {w : World} {b : Nat} {o o' : Obj} (hb : w.heap[b]? = some o) : (setB w b o').heap[b]? = some o' := (MapKept.heap_set hb).1
theorem setB_mod (w : World) (b : Nat) (o : Obj) : Mod (fun x => x = b) w (setB w b o) :=
  ⟨rfl, rfl, rfl, by simp [setB], fun k hk hne => by simp [setB, Ne.symm hne]⟩
theorem run_mput (K : KeyT kv P kt) (ht : P.underlying t = some (.map kt et)) {w : World} {b : Nat} {L : List (κ × Value)} (hb : w.heap[b]? = some (mapO kv L)) (k : κ) (v : Value) :
    (Instr.mapUpdate t (.map (some b)) (kv k) v).run P w = .ok () (setB w b (mapO kv (mPut k v L))) := by
  obtain ⟨d, hd, hk⟩ := K.kind
  cases h : mGet k L with
  | none =>
    have hf := MapKept.run_findKey (P := P) (w := w) hd (findNow_none hk K.inj k 0 L 0 h)
    simp [Instr.mapUpdate, run_underlying ht, MapKept.run_getObj_map hb, MapKept.run_checkKey hd (hk k), hf, MapKept.run_setObj_map _ hb, Result.andThen]
    unfold setB mapO
    rw [mPut_new v h, mEnts_app]
    simp
  | some u =>
    obtain ⟨n, h1, h2, h3⟩ := findNow_some hk K.inj k 0 L 0 u h
    have hf := MapKept.run_findKey (P := P) (w := w) hd h1
    have he := mEnts_at kv 0 L n h2
    have hkn : kv L[n].1 = kv k := by
      obtain ⟨j, e, g1, g2, g3⟩ := (MapKept.findNow_spec (hk k) (mEnts kv 0 L) 0 (fun x hx => by
        obtain ⟨i, hi, rfl⟩ := List.getElem_of_mem hx
        have hi' : i < L.length := by rw [mEnts_len] at hi; exact hi
        have := mEnts_at kv 0 L i hi'
        rw [List.getElem?_eq_getElem hi] at this
        injection this with this
        rw [this]; exact hk _)).resolve_left (fun g => by rw [h1] at g; cases g.1)
      rw [h1] at g1
      injection g1 with g1
      injection g1 with g1
      injection g1 with g1 g4
      have : j = n := by omega
      subst this
      rw [he] at g2
      injection g2 with g2
      rw [← g2] at g3
      exact g3
    have hs := MapKept.run_keyThatStays (P := P) (w := w) (hk k)
    have hln : (mPut k v L).length = L.length := by
      have := congrArg List.length (h3 v)
      rw [mEnts_len, List.length_modify, mEnts_len] at this
      exact this
    simp [Instr.mapUpdate, run_underlying ht, MapKept.run_getObj_map hb, MapKept.run_checkKey hd (hk k), hf, he, hkn, hs, MapKept.run_setObj_map _ hb, Result.andThen]
    unfold setB mapO
    rw [h3 v, hln]
end
end Go.Proofs.YtidbgfmknhlmnaaGreatDoor
