/-
  Texts of this claim, one behind the other: Bs, Str, TlvP, App1, Own, TlvA.
-/
import Derived.Test.YtmalclclopnlnaaGreatPk00
import Derived.Lib.SlTrimSet
import Derived.Test.YtmalclclopnlnaaGreatProg
import Derived.Laws.IdiomStrings
import Derived.Laws.BytesArg
import Derived.Laws.CopyOwn
import Derived.IntWalk
import Derived.Laws.Entries
/-
  Byte texts as lists; slices of texts, of 32-bit numbers.
-/
namespace Go.Proofs.YtmalclclopnlnaaGreat
open Go.RowKit

abbrev Bs := List UInt8
def csB (l : Bs) : List Value := [.string ⟨l.toArray⟩]
theorem csB_len (l : Bs) : (csB l).length = 1 := rfl
theorem csB_one (l : Bs) : ∀ u ∈ csB l, u.oneCell' = true := by simp [csB, Value.oneCell']
theorem mk_ext (l : Bs) (a b : Nat) : (⟨l.toArray⟩ : ByteArray).extract a b = ⟨((l.drop a).take (b - a)).toArray⟩ := by
  have h : ((⟨l.toArray⟩ : ByteArray).extract a b).data.toList = (l.drop a).take (b - a) := by rw [Lib.extract_data]
  cases he : (⟨l.toArray⟩ : ByteArray).extract a b with
  | mk d => rw [he] at h; cases d; simp at h; simp [h]
theorem mk_size (l : Bs) : (⟨l.toArray⟩ : ByteArray).size = l.length := rfl
def lenS : Value → Nat | .string s => s.size | _ => 0
theorem str_eq {a b : Bs} (h : a = b) : Value.string ⟨a.toArray⟩ = .string ⟨b.toArray⟩ := by rw [h]
theorem ret_str {a b : Bs} (h : a = b) : Ending.returned (.string ⟨a.toArray⟩) = .returned (.string ⟨b.toArray⟩) := by rw [h]
theorem mk_app (a b : Bs) : (⟨a.toArray⟩ : ByteArray) ++ ⟨b.toArray⟩ = ⟨(a ++ b).toArray⟩ := by
  refine ByteArray.ext ?_
  simp [ByteArray.data_append]
theorem ret_sl {A : Option Addr} {n m c : Nat} (h : n = m) : Ending.returned (.slice A n c) = .returned (.slice A m c) := by rw [h]
def csI (n : Int) : List Value := [.int .i32 n]
theorem csI_len (n : Int) : (csI n).length = 1 := rfl
theorem csI_one (n : Int) : ∀ u ∈ csI n, u.oneCell' = true := by simp [csI, Value.oneCell']
theorem rdI {D : Nat → Prop} {w : World} {A : Option Addr} {xs : List Int} (h : Rd D w 1 csI A xs) {k : Nat} (hk : k < xs.length) : ∃ b off, A = some ⟨b, off, none⟩ ∧ D b ∧ w.cell? ⟨b, off + k, none⟩ = some (.int .i32 xs[k]) := by
  obtain ⟨b, off, rfl, hd, hc⟩ := h (by omega)
  refine ⟨b, off, rfl, hd, ?_⟩
  have := hc k hk 0 _ rfl
  simpa using this
def csU (b : UInt8) : List Value := [.int .u8 (b.toNat : Int)]
theorem csU_len (b : UInt8) : (csU b).length = 1 := rfl
theorem csU_one (b : UInt8) : ∀ u ∈ csU b, u.oneCell' = true := by simp [csU, Value.oneCell']
def natI (ns : List Nat) : List Int := ns.map fun n : Nat => (n : Int)
theorem natI_len (ns : List Nat) : (natI ns).length = ns.length := List.length_map _
theorem natI_snoc (ns : List Nat) (n : Nat) : natI (ns ++ [n]) = natI ns ++ [(n : Int)] := List.map_append
end Go.Proofs.YtmalclclopnlnaaGreat
/-
  A slice of bytes, as it is turned to a text.
-/
namespace Go.Proofs.YtmalclclopnlnaaGreat
open Go.RowKit Go.Shelf
theorem u8s_t : SliceT Tryz.prog 35 5 1 1 := SliceT.mk' (z := .int .u8 0) Tryz.underlying35 (by kernel_rfl) rfl (by decide)
theorem run_str_of {D : Nat → Prop} {w : World} {A : Option Addr} {xs : Bs} (hr : Rd D w 1 csU A xs) (c : Nat) : (convert 35 9 (.slice A xs.length c)).run Tryz.prog w = .ok (.string ⟨xs.toArray⟩) w := by
  rcases A with _ | a
  · have h0 : xs = [] := by
      cases xs with
      | nil => rfl
      | cons y r => obtain ⟨b, off, h, _⟩ := hr (by simp); cases h
    subst h0
    exact run_convert_bytes_nil w 35 5 Tryz.underlying35 Tryz.underlying5 0 c 9 Tryz.underlying9
  · refine run_convert_bytes_back w 35 9 5 a c xs Tryz.underlying35 Tryz.underlying5 Tryz.underlying9 (fun j hj => ?_)
    obtain ⟨b, off, he, _, hc⟩ := hr (by omega)
    cases he
    rw [addr_add]
    have := hc j hj 0 _ rfl
    simpa using this
end Go.Proofs.YtmalclclopnlnaaGreat
/-
  Plain theory of values as bytes: a tag, four bytes of a length, the bytes.
-/
namespace Go.Proofs.YtmalclclopnlnaaGreat

/-- The four bytes of a length. -/
def lenB (n : Nat) : Bs := [UInt8.ofNat (n / 16777216), UInt8.ofNat (n / 65536 % 256), UInt8.ofNat (n / 256 % 256), UInt8.ofNat (n % 256)]
def valV (t : UInt8) (b : Bs) : Bs := t :: lenB b.length ++ b
theorem valV_len (t : UInt8) (b : Bs) : (valV t b).length = 5 + b.length := by simp [valV, lenB]; omega
/-- What the four bytes say. -/
def numV : Bs → Nat
  | [a, b, c, d] => 16777216 * a.toNat + 65536 * b.toNat + 256 * c.toNat + d.toNat
  | _ => 0
theorem numV_lenB (n : Nat) (h : n < 4294967296) : numV (lenB n) = n := by
  simp only [lenB, numV, UInt8.toNat_ofNat']; omega
theorem lenB_numV (a b c d : UInt8) : lenB (numV [a, b, c, d]) = [a, b, c, d] := by
  have ha := a.toNat_lt
  have hb := b.toNat_lt
  have hc := c.toNat_lt
  have hd := d.toNat_lt
  simp only [lenB, numV]
  refine List.cons_eq_cons.2 ⟨?_, List.cons_eq_cons.2 ⟨?_, List.cons_eq_cons.2 ⟨?_, List.cons_eq_cons.2 ⟨?_, rfl⟩⟩⟩⟩
  all_goals
    apply UInt8.toNat_inj.1
    rw [UInt8.toNat_ofNat']
    omega
/-- The first value of bytes: its tag, its bytes, how many it takes. -/
def firstV : Bs → Option (UInt8 × Bs × Nat)
  | t :: a :: b :: c :: d :: s => if t = 0 then none else if 4194304 < numV [a, b, c, d] ∨ s.length < numV [a, b, c, d] then none else some (t, s.take (numV [a, b, c, d]), 5 + numV [a, b, c, d])
  | _ => none
theorem firstV_val {t : UInt8} {b : Bs} (ht : t ≠ 0) (hb : b.length ≤ 4194304) (s : Bs) : firstV (valV t b ++ s) = some (t, b, 5 + b.length) := by
  have h := numV_lenB b.length (by omega)
  simp only [lenB] at h
  simp only [valV, lenB, List.cons_append, List.nil_append, firstV]
  rw [if_neg ht, h, if_neg (by simp; omega), List.take_append_of_le_length (Nat.le_refl _), List.take_of_length_le (Nat.le_refl _)]
/-- A first value is made of its tag and its bytes, and is of not too many. -/
theorem firstV_some {s : Bs} {t : UInt8} {b : Bs} {n : Nat} (h : firstV s = some (t, b, n)) : t ≠ 0 ∧ n = 5 + b.length ∧ b.length ≤ 4194304 ∧ n ≤ s.length ∧ s = valV t b ++ s.drop n := by
  rcases s with _ | ⟨t0, _ | ⟨a, _ | ⟨b0, _ | ⟨c, _ | ⟨d, s⟩⟩⟩⟩⟩
  all_goals try (cases h; done)
  simp only [firstV] at h
  split at h
  · cases h
  · rename_i ht
    split at h
    · cases h
    · rename_i hn
      injection h with h
      injection h with h1 h
      injection h with h2 h3
      have hl : b.length = numV [a, b0, c, d] := by rw [← h2, List.length_take]; omega
      refine ⟨by rw [← h1]; exact ht, by omega, by omega, by simp; omega, ?_⟩
      subst h1
      unfold valV
      rw [hl, lenB_numV, ← h3]
      have h5 : (t0 :: a :: b0 :: c :: d :: s).drop (5 + numV [a, b0, c, d]) = s.drop (numV [a, b0, c, d]) := by
        rw [← List.drop_drop]; rfl
      rw [h5, ← h2]
      simp
/-- Taken off: the bytes of the first value, if it has that tag, and what is left. -/
def takeV (t : UInt8) (s : Bs) : Option (Bs × Bs) := match firstV s with
  | some (t', b, n) => if t' = t then some (b, s.drop n) else none
  | none => none
theorem takeV_val {t : UInt8} {b : Bs} (ht : t ≠ 0) (hb : b.length ≤ 4194304) (s : Bs) : takeV t (valV t b ++ s) = some (b, s) := by
  unfold takeV
  rw [firstV_val ht hb]
  simp only [if_true]
  rw [← valV_len t b, List.drop_left]
theorem takeV_some {t : UInt8} {s b r : Bs} (h : takeV t s = some (b, r)) : s = valV t b ++ r ∧ b.length ≤ 4194304 ∧ t ≠ 0 := by
  unfold takeV at h
  cases hf : firstV s with
  | none => rw [hf] at h; cases h
  | some p =>
    obtain ⟨t', b', n⟩ := p
    rw [hf] at h
    simp only at h
    split at h
    · rename_i e
      subst e
      obtain ⟨h1, h2, h3, h4, h5⟩ := firstV_some hf
      injection h with h
      injection h with h6 h7
      subst h6 h7
      exact ⟨h5, h3, h1⟩
    · cases h
/-- The values up to where none stands, and that place. -/
def allV : Nat → Bs → List (UInt8 × Bs) × Nat
  | 0, _ => ([], 0)
  | f + 1, s => match firstV s with
    | none => ([], 0)
    | some (t, b, n) => ((t, b) :: (allV f (s.drop n)).1, n + (allV f (s.drop n)).2)
theorem allV_more : ∀ (f g : Nat) (s : Bs), s.length ≤ f → s.length ≤ g → allV f s = allV g s
  | 0, 0, _, _, _ => rfl
  | 0, g + 1, s, h, _ => by
    have : s = [] := List.eq_nil_of_length_eq_zero (by omega)
    subst this; rfl
  | f + 1, 0, s, _, h => by
    have : s = [] := List.eq_nil_of_length_eq_zero (by omega)
    subst this; rfl
  | f + 1, g + 1, s, h1, h2 => by
    simp only [allV]
    cases hn : firstV s with
    | none => rfl
    | some p =>
      obtain ⟨t, b, n⟩ := p
      have := firstV_some hn
      simp only
      rw [allV_more f g (s.drop n) (by simp; omega) (by simp; omega)]
def itemsV (s : Bs) : List (UInt8 × Bs) := (allV s.length s).1
def endV (s : Bs) : Nat := (allV s.length s).2
theorem itemsV_none {s : Bs} (h : firstV s = none) : itemsV s = [] ∧ endV s = 0 := by
  unfold itemsV endV
  cases hl : s.length with
  | zero => exact ⟨rfl, rfl⟩
  | succ k => simp only [allV, h]; exact ⟨trivial, trivial⟩
theorem itemsV_some {s : Bs} {t : UInt8} {b : Bs} {n : Nat} (h : firstV s = some (t, b, n)) : itemsV s = (t, b) :: itemsV (s.drop n) ∧ endV s = n + endV (s.drop n) := by
  have hf := firstV_some h
  unfold itemsV endV
  obtain ⟨k, hk⟩ : ∃ k, s.length = k + 1 := ⟨s.length - 1, by omega⟩
  rw [hk]
  simp only [allV, h]
  rw [allV_more k (s.drop n).length (s.drop n) (by simp; omega) (Nat.le_refl _)]
  exact ⟨rfl, rfl⟩
/-- How many values bytes are; below 0: they are none's. -/
def manyV (s : Bs) : Int := if endV s = s.length then ((itemsV s).length : Int) else -1
theorem manyV_val {t : UInt8} {b : Bs} (ht : t ≠ 0) (hb : b.length ≤ 4194304) : manyV (valV t b) = 1 := by
  have h := firstV_val ht hb []
  rw [List.append_nil] at h
  obtain ⟨h1, h2⟩ := itemsV_some h
  have hd : (valV t b).drop (5 + b.length) = [] := by rw [← valV_len t b, List.drop_length]
  rw [hd] at h1 h2
  unfold manyV
  have e1 : itemsV ([] : Bs) = [] := rfl
  have e2 : endV ([] : Bs) = 0 := rfl
  rw [h1, h2, valV_len, e1, e2, if_pos (by omega)]
  rfl
/-- A writer: what stands there, and what is wrong (0: nothing). -/
structure Wt where
  b : Bs
  e : Nat
deriving DecidableEq
def Wt.bytes (w : Wt) (t : UInt8) (x : Bs) : Wt := if w.e ≠ 0 then w else if 4194304 < x.length then ⟨w.b, 3⟩ else if t = 0 then ⟨w.b, 2⟩ else ⟨w.b ++ valV t x, 0⟩
theorem Wt.bytes_ok (b : Bs) {t : UInt8} {x : Bs} (ht : t ≠ 0) (hx : x.length ≤ 4194304) : Wt.bytes ⟨b, 0⟩ t x = ⟨b ++ valV t x, 0⟩ := by
  unfold Wt.bytes
  rw [if_neg (by simp), if_neg (by omega), if_neg ht]
end Go.Proofs.YtmalclclopnlnaaGreat
/-
  append of one element, laid in a new block, to a slice of one's own.
-/
namespace Go.Proofs.YtmalclclopnlnaaGreat
open Go.RowKit
section
variable {α : Type} {w0 wr w' : World} {sz : Nat} {cs : α → List Value} {xs : List α} {E : Nat} {v v' : Value}
variable {P : Program} {T bytes : Nat} {ops : Array Oper} {rest : List Oper} {o : Oper} {a : Act} {Q : Exit → Act → World → Prop}

theorem app1_after {y : α} (hm : Mod (fun _ => False) w0 wr) (hown : OwnS w0.heap.size E sz cs wr v xs) {c : Array Value}
    (h3 : Mod (fun b => v.ownBlock = some b) (wr.alloc (.cells c E (0, 0))) w') (h4 : v'.ownBlock = v.ownBlock ∨ v'.ownBlock = some (wr.alloc (.cells c E (0, 0))).heap.size) (_h2 : OwnS w0.heap.size E sz cs w' v' (xs ++ [y])) :
    Mod (fun _ => False) w0 w' ∧ Mod (fun b => v.ownBlock = some b) wr w' ∧ (v'.ownBlock = v.ownBlock ∨ v'.ownBlock = some (wr.heap.size + 1)) := by
  have hw : Mod (fun b => v.ownBlock = some b) wr w' := ((Mod.refl _ wr).alloc _).trans' h3
  refine ⟨hm.trans hw (fun b hb => .inr (hown.fresh b hb).1), hw, ?_⟩
  rcases h4 with h | h
  · exact .inl h
  · right; rw [h]; simp

theorem wpList_app1 (hgd : o.guard = none) (s x : Operand) (ho : o.op = .call { callee := .builtin .append, args := #[s, x], argTypes := #[T, T] }) (ht : SliceT P T E sz bytes) (hcs : ∀ x, (cs x).length = sz) (h1 : ∀ x, ∀ u ∈ cs x, u.oneCell' = true)
    (hs : a.eval s = v) (hown : OwnS w0.heap.size E sz cs wr v xs) (hm : Mod (fun _ => False) w0 wr) {y : α} {c : Array Value} (hx : a.eval x = .slice (some ⟨wr.heap.size, 0, none⟩) 1 1) (hc : c.toList = cs y)
    (hb1 : xs.length + 1 ≤ maxLen) (hb2 : (xs.length + 1) * bytes ≤ 140737488355328)
    (h : ∀ v' w', OwnS w0.heap.size E sz cs w' v' (xs ++ [y]) → Mod (fun _ => False) w0 w' → Mod (fun b => v.ownBlock = some b) wr w' → (v'.ownBlock = v.ownBlock ∨ v'.ownBlock = some (wr.heap.size + 1)) → wpList P ops Q rest (a.put o.dst v') w') :
    wpList P ops Q (o :: rest) a (wr.alloc (.cells c E (0, 0))) :=
  wpList_app (base := w0.heap.size) (xs := xs) (ys := [y]) (D := fun b => b = wr.heap.size) (v := v) hgd s x ho ht hcs h1 hs (hown.below ((Below.refl _ wr).alloc (Nat.le_refl _) _) fun b hb => (hown.fresh b hb).2) 1 hx rfl
    (Rd.one (hp_new wr _) hc) hb1 hb2 (by have := hm.size; simp; omega) fun v' w' h2 h3 h4 => by
      obtain ⟨k1, k2, k3⟩ := app1_after hm hown h3 h4 h2
      exact h v' w' h2 k1 k2 k3
theorem wpListIn_app1 {F : Fence} {n : Nat} (hgd : o.guard = none) (s x : Operand) (ho : o.op = .call { callee := .builtin .append, args := #[s, x], argTypes := #[T, T] }) (ht : SliceT P T E sz bytes) (hcs : ∀ x, (cs x).length = sz) (h1 : ∀ x, ∀ u ∈ cs x, u.oneCell' = true)
    (hs : a.eval s = v) (hown : OwnS w0.heap.size E sz cs wr v xs) (hm : Mod (fun _ => False) w0 wr) {y : α} {c : Array Value} (hx : a.eval x = .slice (some ⟨wr.heap.size, 0, none⟩) 1 1) (hc : c.toList = cs y)
    (hb1 : xs.length + 1 ≤ maxLen) (hb2 : (xs.length + 1) * bytes ≤ 140737488355328)
    (h : ∀ v' w', OwnS w0.heap.size E sz cs w' v' (xs ++ [y]) → Mod (fun _ => False) w0 w' → Mod (fun b => v.ownBlock = some b) wr w' → (v'.ownBlock = v.ownBlock ∨ v'.ownBlock = some (wr.heap.size + 1)) → wpListIn F n P ops Q rest (a.put o.dst v') w') :
    wpListIn F n P ops Q (o :: rest) a (wr.alloc (.cells c E (0, 0))) :=
  wpListIn_app (base := w0.heap.size) (xs := xs) (ys := [y]) (D := fun b => b = wr.heap.size) (v := v) hgd s x ho ht hcs h1 hs (hown.below ((Below.refl _ wr).alloc (Nat.le_refl _) _) fun b hb => (hown.fresh b hb).2) 1 hx rfl
    (Rd.one (hp_new wr _) hc) hb1 hb2 (by have := hm.size; simp; omega) fun v' w' h2 h3 h4 => by
      obtain ⟨k1, k2, k3⟩ := app1_after hm hown h3 h4 h2
      exact h v' w' h2 k1 k2 k3
theorem step_app1 {K : Act → World → Prop} {F : Prop} (hgd : o.guard = none) (s x : Operand) (ho : o.op = .call { callee := .builtin .append, args := #[s, x], argTypes := #[T, T] }) (ht : SliceT P T E sz bytes) (hcs : ∀ x, (cs x).length = sz) (h1 : ∀ x, ∀ u ∈ cs x, u.oneCell' = true)
    (hs : a.eval s = v) (hown : OwnS w0.heap.size E sz cs wr v xs) (hm : Mod (fun _ => False) w0 wr) {y : α} {c : Array Value} (hx : a.eval x = .slice (some ⟨wr.heap.size, 0, none⟩) 1 1) (hc : c.toList = cs y)
    (hb1 : xs.length + 1 ≤ maxLen) (hb2 : (xs.length + 1) * bytes ≤ 140737488355328)
    (h : ∀ v' w', OwnS w0.heap.size E sz cs w' v' (xs ++ [y]) → Mod (fun _ => False) w0 w' → Mod (fun b => v.ownBlock = some b) wr w' → (v'.ownBlock = v.ownBlock ∨ v'.ownBlock = some (wr.heap.size + 1)) → K (a.put o.dst v') w') :
    if Region.wanted o (yielded ops a.tmps) = true then Oper.wp P o a (wr.alloc (.cells c E (0, 0))) K Q else F :=
  step_app (base := w0.heap.size) (xs := xs) (ys := [y]) (D := fun b => b = wr.heap.size) (v := v) hgd s x ho ht hcs h1 hs (hown.below ((Below.refl _ wr).alloc (Nat.le_refl _) _) fun b hb => (hown.fresh b hb).2) 1 hx rfl
    (Rd.one (hp_new wr _) hc) hb1 hb2 (by have := hm.size; simp; omega) fun v' w' h2 h3 h4 => by
      obtain ⟨k1, k2, k3⟩ := app1_after hm hown h3 h4 h2
      exact h v' w' h2 k1 k2 k3
end
end Go.Proofs.YtmalclclopnlnaaGreat
/-
  Owned slices: a cell set, a copy within or into; lists as cells.
-/
namespace Go.Proofs.YtmalclclopnlnaaGreat
open Go.RowKit

section
variable {α : Type} {w w' : World} {sz : Nat} {cs : α → List Value} {xs ys : List α} {base E : Nat} {v : Value} {D : Nat → Prop}

theorem flat_ext (hcs : ∀ x, (cs x).length = sz) (L : List Value) (hl : L.length = xs.length * sz) (h : ∀ m (hm : m < xs.length) j, j < sz → L[m * sz + j]? = (cs xs[m])[j]?) : L = xs.flatMap cs := by
  apply List.ext_getElem?
  intro i
  by_cases hi : i < L.length
  · rw [hl] at hi
    have hsz : 0 < sz := by rcases Nat.eq_zero_or_pos sz with h0 | h0; (subst h0; omega); exact h0
    have hk : i / sz < xs.length := (Nat.div_lt_iff_lt_mul hsz).2 hi
    have hj : i = i / sz * sz + i % sz := by rw [Nat.mul_comm]; exact (Nat.div_add_mod i sz).symm
    rw [hj, h _ hk _ (Nat.mod_lt _ hsz), flat_get hcs xs _ hk _ (Nat.mod_lt _ hsz)]
  · rw [List.getElem?_eq_none (by omega), List.getElem?_eq_none (by rw [flat_length hcs]; omega)]
theorem flat_set1 (hcs : ∀ x, (cs x).length = sz) {k j : Nat} (hk : k < xs.length) (hj : j < sz) {u : Value} {y : α} (hy : cs y = (cs xs[k]).set j u) : (xs.flatMap cs).set (k * sz + j) u = (xs.set k y).flatMap cs := by
  apply flat_ext hcs
  · rw [List.length_set, flat_length hcs, List.length_set]
  · intro m hm i hi
    rw [List.length_set] at hm
    rw [List.getElem?_set, flat_get hcs xs m hm i hi, List.getElem_set]
    by_cases hmk : k = m
    · subst hmk
      by_cases hij : j = i
      · subst hij
        have hlt : k * sz + j < (xs.flatMap cs).length := by
          rw [flat_length hcs]
          calc k * sz + j < k * sz + sz := by omega
            _ = (k + 1) * sz := by rw [Nat.succ_mul]
            _ ≤ xs.length * sz := Nat.mul_le_mul_right _ hk
        rw [if_pos rfl, if_pos hlt, if_pos rfl, hy, List.getElem?_set_self (by rw [hcs]; exact hj)]
      · rw [if_neg (by omega), if_pos rfl, hy, List.getElem?_set_ne hij]
    · rw [if_neg, if_neg hmk]
      intro he
      rcases Nat.lt_or_gt_of_ne hmk with h | h
      · have : (k + 1) * sz ≤ m * sz := Nat.mul_le_mul_right _ h
        rw [Nat.succ_mul] at this; omega
      · have : (m + 1) * sz ≤ k * sz := Nat.mul_le_mul_right _ h
        rw [Nat.succ_mul] at this; omega
theorem own_set {g c n : Nat} {L : List Value} (h : w.ownsRow base E sz (.slice (some ⟨g, 0, none⟩) n c) n L) {i : Nat} (hi : i < L.length) (u : Value) :
    (w.setCell ⟨g, i, none⟩ u).ownsRow base E sz (.slice (some ⟨g, 0, none⟩) n c) n (L.set i u) := by
  refine ⟨by rw [List.length_set]; exact h.1, ?_⟩
  rcases h.2 with ⟨he, _⟩ | ⟨g', cap, cur, he, hb, hh, h1, h2, h3, h4⟩
  · cases he
  · injection he with e1 e2 e3
    injection e1 with e1
    injection e1 with e1
    subst e1
    subst e3
    refine .inr ⟨g, c, cur.setIfInBounds i u, rfl, hb, hp_set hh i u, h1, h2, by simpa using h3, ?_⟩
    rw [Array.toList_setIfInBounds, ← h4, List.take_set]
/-- One cell of one element of an owned slice is set. -/
theorem OwnS.set1 (hcs : ∀ x, (cs x).length = sz) {g n c : Nat} (h : OwnS base E sz cs w (.slice (some ⟨g, 0, none⟩) n c) xs) {k j : Nat} (hn : n = xs.length) (hk : k < n) (hj : j < sz) {u : Value} {y : α} (hy : cs y = (cs (xs[k]'(by omega))).set j u) :
    OwnS base E sz cs (w.setCell ⟨g, k * sz + j, none⟩ u) (.slice (some ⟨g, 0, none⟩) n c) (xs.set k y) := by
  subst hn
  have h' : w.ownsRow base E sz (.slice (some ⟨g, 0, none⟩) xs.length c) xs.length (xs.flatMap cs) := h
  unfold OwnS
  rw [List.length_set, ← flat_set1 hcs hk hj hy]
  refine own_set h' ?_ u
  rw [flat_length hcs]
  calc k * sz + j < k * sz + sz := by omega
    _ = (k + 1) * sz := by rw [Nat.succ_mul]
    _ ≤ xs.length * sz := Nat.mul_le_mul_right _ hk
/-- An owned slice with an element lies in a row of its own. -/
theorem OwnS.at_ (h : OwnS base E sz cs w v xs) (hpos : 0 < xs.length) : ∃ g c, v = .slice (some ⟨g, 0, none⟩) xs.length c ∧ base ≤ g ∧ g < w.heap.size ∧ (∀ i, w.frozen? ⟨g, i, none⟩ = false) := by
  rcases h.2 with ⟨rfl, h0⟩ | ⟨g, cap, cur, rfl, hg, hh, _⟩
  · omega
  · exact ⟨g, cap, rfl, hg, hp_lt hh, fun i => hp_free hh i⟩
theorem OwnS.cell (h : OwnS base E sz cs w v xs) (hcs : ∀ x, (cs x).length = sz) {g c : Nat} (hv : v = .slice (some ⟨g, 0, none⟩) xs.length c) {k : Nat} (hk : k < xs.length) {j : Nat} {u : Value} (hu : (cs xs[k])[j]? = some u) : w.cell? ⟨g, k * sz + j, none⟩ = some u := by
  obtain ⟨A, c', e, hr, _⟩ := OwnS.rd h hcs
  rw [hv] at e
  injection e with e1 e2 e3
  subst e1
  obtain ⟨b, off, he, _, hc⟩ := hr (by omega)
  injection he with he
  injection he with he1 he2
  subst he1 he2
  have := hc k hk j u hu
  rwa [Nat.zero_add] at this

theorem rd_oneT {g t : Nat} {fr : Nat × Nat} {c : Array Value} {x : α} (h : w.heap[g]? = some (.cells c t fr)) (hc : c.toList = cs x) : Rd (fun _ => True) w sz cs (some ⟨g, 0, none⟩) [x] := (Rd.one h hc).mono fun _ _ => trivial
theorem rd_of5 {A : Option Addr} {n c : Nat} (h : OwnS base E sz cs w (.slice A n c) xs) (hcs : ∀ x, (cs x).length = sz) : Rd (fun b => (Value.slice A n c).ownBlock = some b) w sz cs A xs := by
  obtain ⟨A', c', he, hr, _⟩ := OwnS.rd h hcs
  injection he with h1 h2 h3
  subst h1
  exact hr
/-- What is read from place j on. -/
theorem rd_drop {b off : Nat} (h : Rd D w sz cs (some ⟨b, off, none⟩) xs) {j : Nat} (hj : j ≤ xs.length) : Rd D w sz cs (some ⟨b, off + j * sz, none⟩) (xs.drop j) := by
  intro h0
  rw [List.length_drop] at h0
  obtain ⟨b', off', he, hd, hc⟩ := h (by omega)
  injection he with he
  injection he with e1 e2
  subst e1 e2
  refine ⟨b, off + j * sz, rfl, hd, fun k hk i u hu => ?_⟩
  rw [List.length_drop] at hk
  rw [List.getElem_drop] at hu
  have := hc (j + k) (by omega) i u hu
  rwa [Nat.add_mul, ← Nat.add_assoc] at this
theorem rd_take {A : Option Addr} (h : Rd D w sz cs A xs) (k : Nat) : Rd D w sz cs A (xs.take k) := by
  intro h0
  rw [List.length_take] at h0
  obtain ⟨b, off, he, hd, hc⟩ := h (by omega)
  refine ⟨b, off, he, hd, fun m hm i u hu => ?_⟩
  rw [List.length_take] at hm
  rw [List.getElem_take] at hu
  exact hc m (by omega) i u hu
/-! ### copy -/
theorem run_copy_k {P : Program} (w : World) {dT sT ty elem sz : Nat} (g o dLen dCap : Nat) (a : Addr) (sLen sCap : Nat) (cur : Array Value) (t : TypeId) (news : List Value) {i : TypeInfo}
    (hu : P.underlying dT = some (.slice elem)) (hi : P.info? elem = some i) (hs : i.size = sz)
    (hg : w.heap[g]? = some (.cells cur t (0, 0))) (hn : news.length = Nat.min sLen dLen * sz)
    (hsrc : ∀ j v, news[j]? = some v → w.cell? (a.add j) = some v) (hfit : o + news.length ≤ cur.size) (h1 : ∀ v ∈ news, v.oneCell' = true) :
    (Builtin.copy_ #[dT, sT] ty #[.slice (some ⟨g, o, none⟩) dLen dCap, .slice (some a) sLen sCap]).run P w =
      .ok (goInt (Nat.min sLen dLen)) (w.setRow g (cur.toList.take o ++ news ++ cur.toList.drop (o + news.length)).toArray) := by
  have hl := run_loadCells_list (P := P) w a news hsrc
  have hst := run_storeCells_at P g o t news 0 cur w hg (by simpa using hfit) h1
  simp [Builtin.copy_, run_underlying hu, Builtin.lenOf, Builtin.firstCells, sizeOf, typeInfo, hi, hs, ← hn, hl, hst]

theorem flat_take (hcs : ∀ x, (cs x).length = sz) (xs : List α) (k : Nat) : (xs.flatMap cs).take (k * sz) = (xs.take k).flatMap cs := by
  induction xs generalizing k with
  | nil => simp
  | cons x l ih =>
    cases k with
    | zero => simp
    | succ k => rw [List.take_succ_cons, List.flatMap_cons, List.flatMap_cons, ← ih k, List.take_append, hcs, List.take_of_length_le (by rw [hcs, Nat.succ_mul]; omega), Nat.succ_mul, Nat.add_sub_cancel]
theorem flat_drop (hcs : ∀ x, (cs x).length = sz) (xs : List α) (k : Nat) : (xs.flatMap cs).drop (k * sz) = (xs.drop k).flatMap cs := by
  induction xs generalizing k with
  | nil => simp
  | cons x l ih =>
    cases k with
    | zero => simp
    | succ k => rw [List.drop_succ_cons, List.flatMap_cons, ← ih k, List.drop_append, hcs, List.drop_eq_nil_of_le (by rw [hcs, Nat.succ_mul]; omega), Nat.succ_mul, Nat.add_sub_cancel, List.nil_append]
theorem OwnS.cap (h : OwnS base E sz cs w v xs) {A : Option Addr} {n c : Nat} (hv : v = .slice A n c) : n ≤ c ∧ c ≤ maxLen := by
  subst hv
  rcases h.2 with ⟨he, h0⟩ | ⟨g, cap, cur, he, _, _, h1, h2, _⟩
  · injection he with _ h1 h2; subst h1 h2; simp
  · injection he with _ h1' h2'; omega
theorem splice_take {β : Type} (L new : List β) (o N : Nat) (h : o + new.length ≤ N) (h2 : N ≤ L.length) : (L.take o ++ new ++ L.drop (o + new.length)).take N = (L.take N).take o ++ new ++ (L.take N).drop (o + new.length) := by
  apply List.ext_getElem?
  intro i
  grind
theorem splice_len {β : Type} (L new : List β) (o : Nat) (h : o + new.length ≤ L.length) : (L.take o ++ new ++ L.drop (o + new.length)).length = L.length := by
  grind
/-- copy into an owned slice. -/
theorem run_copy_own {P : Program} {dT sT ty g c n dLen dCap sLen sCap b off tgt : Nat} {i : TypeInfo} (hcs : ∀ x, (cs x).length = sz) (h1 : ∀ x, ∀ u ∈ cs x, u.oneCell' = true) (hsz : 0 < sz)
    (hu : P.underlying dT = some (.slice E)) (hi : P.info? E = some i) (hs : i.size = sz) (hown : OwnS base E sz cs w (.slice (some ⟨g, 0, none⟩) n c) xs) (hn : n = xs.length)
    (hr : Rd D w sz cs (some ⟨b, off, none⟩) ys) (hmin : ys.length = Nat.min sLen dLen) (hfit : tgt + ys.length ≤ n) :
    ∃ w', (Builtin.copy_ #[dT, sT] ty #[.slice (some ⟨g, tgt * sz, none⟩) dLen dCap, .slice (some ⟨b, off, none⟩) sLen sCap]).run P w = .ok (goInt ys.length) w' ∧
      OwnS base E sz cs w' (.slice (some ⟨g, 0, none⟩) n c) (xs.take tgt ++ ys ++ xs.drop (tgt + ys.length)) ∧ Mod (fun b => b = g) w w' := by
  subst hn
  rcases hown.2 with ⟨he, _⟩ | ⟨g', cap, cur, he, hb, hh, hc1, hc2, hc3, hc4⟩
  · cases he
  injection he with e1 _ e3
  injection e1 with e1
  injection e1 with e1
  subst e1 e3
  have hle : tgt * sz + ys.length * sz ≤ xs.length * sz := by rw [← Nat.add_mul]; exact Nat.mul_le_mul_right _ hfit
  have hle2 : xs.length * sz ≤ c * sz := Nat.mul_le_mul_right _ hc1
  have hyl := flat_length hcs ys
  have hL : (xs.take tgt ++ ys ++ xs.drop (tgt + ys.length)).length = xs.length := by simp; omega
  have hrun := run_copy_k (P := P) w (dT := dT) (sT := sT) (ty := ty) g (tgt * sz) dLen dCap ⟨b, off, none⟩ sLen sCap cur E (ys.flatMap cs) hu hi hs hh (by rw [hyl, hmin]) (hr.flat hcs hsz rfl) (by rw [hyl, hc3]; omega) (fun u hu => by obtain ⟨x, _, hx⟩ := List.mem_flatMap.1 hu; exact h1 x u hx)
  refine ⟨w.setRow g (cur.toList.take (tgt * sz) ++ ys.flatMap cs ++ cur.toList.drop (tgt * sz + (ys.flatMap cs).length)).toArray, by rw [hmin]; exact hrun, ?_, ⟨rfl, rfl, rfl, by simp [World.setRow], fun k hk hne => setRow_other w g k _ hne⟩⟩
  unfold OwnS
  rw [hL]
  have hcl : cur.toList.length = c * sz := by rw [Array.length_toList, hc3]
  refine ⟨by rw [flat_length hcs, hL], .inr ⟨g, c, (cur.toList.take (tgt * sz) ++ ys.flatMap cs ++ cur.toList.drop (tgt * sz + (ys.flatMap cs).length)).toArray, rfl, hb, setRow_heap w g _ _ E _ hh, hc1, hc2, ?_, ?_⟩⟩
  · rw [List.size_toArray, splice_len _ _ _ (by rw [hyl, hcl]; omega), hcl]
  · show List.take (xs.length * sz) (cur.toList.take (tgt * sz) ++ ys.flatMap cs ++ cur.toList.drop (tgt * sz + (ys.flatMap cs).length)) = _
    rw [splice_take _ _ _ _ (by rw [hyl]; omega) (by rw [hcl]; omega), hc4, hyl, ← Nat.add_mul, flat_take hcs, flat_drop hcs, List.flatMap_append, List.flatMap_append]
theorem run_copy_zero {P : Program} {dT sT ty sLen sCap dLen dCap : Nat} {d a : Option Addr} {i : TypeInfo} (hu : P.underlying dT = some (.slice E)) (hi : P.info? E = some i) (hn : Nat.min sLen dLen = 0) :
    (Builtin.copy_ #[dT, sT] ty #[.slice d dLen dCap, .slice a sLen sCap]).run P w = .ok (goInt 0) w := by
  have hl : ∀ (x : Addr), (loadCells x 0).run P w = .ok #[] w := fun x => by simpa using run_loadCells_list (P := P) w x [] (by simp)
  cases d <;> cases a <;> simp [Builtin.copy_, run_underlying hu, Builtin.lenOf, Builtin.firstCells, sizeOf, typeInfo, hi, hn, storeCells, hl]
/-- copy into an owned slice, as one step of a region. -/
theorem step_copy_own {P : Program} {T bytes : Nat} {ops : Array Oper} {o : Oper} {a : Act} {K : Act → World → Prop} {Q : Exit → Act → World → Prop} {F : Prop} (hgd : o.guard = none) (d s : Operand)
    (ho : o.op = .call { callee := .builtin .copy, args := #[d, s], argTypes := #[T, T] }) (ht : SliceT P T E sz bytes) (hcs : ∀ x, (cs x).length = sz) (h1 : ∀ x, ∀ u ∈ cs x, u.oneCell' = true)
    {g c n dLen dCap sLen sCap b off tgt o' : Nat} (hd : a.eval d = .slice (some ⟨g, o', none⟩) dLen dCap) (ho' : o' = tgt * sz) (hs : a.eval s = .slice (some ⟨b, off, none⟩) sLen sCap)
    (hown : OwnS base E sz cs w (.slice (some ⟨g, 0, none⟩) n c) xs) (hn : n = xs.length) (hr : Rd D w sz cs (some ⟨b, off, none⟩) ys) (hmin : ys.length = Nat.min sLen dLen) (hfit : tgt + ys.length ≤ n)
    (h : ∀ w', OwnS base E sz cs w' (.slice (some ⟨g, 0, none⟩) n c) (xs.take tgt ++ ys ++ xs.drop (tgt + ys.length)) → Mod (fun b => b = g) w w' → K (a.put o.dst (goInt ys.length)) w') :
    if Region.wanted o (yielded ops a.tmps) = true then Oper.wp P o a w K Q else F := by
  have hw : Region.wanted o (yielded ops a.tmps) = true := by simp [Region.wanted, hgd]
  rw [if_pos hw]
  obtain ⟨hu, ⟨i, z, hi, hz, hs1, hs2, hzs⟩, hp⟩ := ht
  subst ho'
  obtain ⟨w', hrun, k1, k2⟩ := run_copy_own (P := P) (ty := o.type) (sT := T) hcs h1 hp hu hi hs1 hown hn hr hmin hfit (dCap := dCap) (sCap := sCap)
  unfold Oper.wp execOp
  simp only [ho, resolve, invoke, builtin, Sem.run_bind, Sem.run_pure, Result.andThen_ok, List.map_toArray, List.map_cons, List.map_nil, hd, hs, hrun]
  exact h w' k1 k2
theorem step_copy_zero {P : Program} {T bytes : Nat} {ops : Array Oper} {o : Oper} {a : Act} {K : Act → World → Prop} {Q : Exit → Act → World → Prop} {F : Prop} (hgd : o.guard = none) (d s : Operand)
    (ho : o.op = .call { callee := .builtin .copy, args := #[d, s], argTypes := #[T, T] }) (ht : SliceT P T E sz bytes)
    {dLen dCap sLen sCap : Nat} {D A : Option Addr} (hd : a.eval d = .slice D dLen dCap) (hs : a.eval s = .slice A sLen sCap) (hmin : Nat.min sLen dLen = 0)
    (h : K (a.put o.dst (goInt 0)) w) : if Region.wanted o (yielded ops a.tmps) = true then Oper.wp P o a w K Q else F := by
  have hw : Region.wanted o (yielded ops a.tmps) = true := by simp [Region.wanted, hgd]
  rw [if_pos hw]
  obtain ⟨hu, ⟨i, z, hi, _⟩, hp⟩ := ht
  have hrun := run_copy_zero (P := P) (w := w) (ty := o.type) (sT := T) (sCap := sCap) (dCap := dCap) (d := D) (a := A) hu hi hmin
  unfold Oper.wp execOp
  simp only [ho, resolve, invoke, builtin, Sem.run_bind, Sem.run_pure, Result.andThen_ok, List.map_toArray, List.map_cons, List.map_nil, hd, hs, hrun]
  exact h
end
end Go.Proofs.YtmalclclopnlnaaGreat
/-
  The package tlv: the first value.
-/
namespace Go.Proofs.YtmalclclopnlnaaGreat
open Go.RowKit Go.Shelf
attribute [local go_sem] Oper.semAt_some

theorem wrap_i64 (n : Nat) (h : n < 9223372036854775808) : IntKind.i64.wrap (n : Int) = n := by
  simp [IntKind.wrap, IntKind.bits, IntKind.signed]; omega
theorem wrap64_in (x : Int) (h : 0 ≤ x ∧ x ≤ 9223372036854775807) : wrap64 x = x := by
  unfold wrap64; omega
theorem ofInt64 (a : Nat) (ha : a < 18446744073709551616) : (BitVec.ofInt 64 (a : Int)).toNat = a := by
  rw [BitVec.ofInt_natCast, BitVec.toNat_ofNat]; exact Nat.mod_eq_of_lt (by omega)
theorem i64_or (a b : Nat) (ha : a < 9223372036854775808) (hb : b < 9223372036854775808) : bits .or .i64 (a : Int) (b : Int) = ((a ||| b : Nat) : Int) := by
  have hx : a ||| b < 2 ^ 63 := Nat.or_lt_two_pow (by omega) (by omega)
  show IntKind.i64.wrap ((BitVec.ofInt 64 (a : Int) ||| BitVec.ofInt 64 (b : Int)).toNat : Int) = _
  rw [BitVec.toNat_or, ofInt64 a (by omega), ofInt64 b (by omega), wrap_i64 _ (by omega)]
theorem or_low (m d k : Nat) (hd : d < 2 ^ k) : m * 2 ^ k ||| d = m * 2 ^ k + d := by
  have : m * 2 ^ k = m <<< k := by rw [Nat.shiftLeft_eq]
  rw [this, Nat.shiftLeft_add_eq_or_of_lt hd]
theorem be4 (a b c d : UInt8) : bits .or .i64 (bits .or .i64 (bits .or .i64 ((a.toNat : Int) * 16777216) ((b.toNat : Int) * 65536)) ((c.toNat : Int) * 256)) (d.toNat : Int) = ((numV [a, b, c, d] : Nat) : Int) := by
  have ha := a.toNat_lt
  have hb := b.toNat_lt
  have hc := c.toNat_lt
  have hd := d.toNat_lt
  have e1 : ((a.toNat : Int) * 16777216) = ((a.toNat * 16777216 : Nat) : Int) := by omega
  have e2 : ((b.toNat : Int) * 65536) = ((b.toNat * 65536 : Nat) : Int) := by omega
  have e3 : ((c.toNat : Int) * 256) = ((c.toNat * 256 : Nat) : Int) := by omega
  have o1 : a.toNat * 16777216 ||| b.toNat * 65536 = a.toNat * 16777216 + b.toNat * 65536 := or_low a.toNat (b.toNat * 65536) 24 (by omega)
  have o2 : (a.toNat * 16777216 + b.toNat * 65536) ||| c.toNat * 256 = a.toNat * 16777216 + b.toNat * 65536 + c.toNat * 256 := by
    have := or_low (a.toNat * 256 + b.toNat) (c.toNat * 256) 16 (by omega)
    rw [show (a.toNat * 256 + b.toNat) * 2 ^ 16 = a.toNat * 16777216 + b.toNat * 65536 by omega] at this
    exact this
  have o3 : (a.toNat * 16777216 + b.toNat * 65536 + c.toNat * 256) ||| d.toNat = a.toNat * 16777216 + b.toNat * 65536 + c.toNat * 256 + d.toNat := by
    have := or_low (a.toNat * 65536 + b.toNat * 256 + c.toNat) d.toNat 8 (by omega)
    rw [show (a.toNat * 65536 + b.toNat * 256 + c.toNat) * 2 ^ 8 = a.toNat * 16777216 + b.toNat * 65536 + c.toNat * 256 by omega] at this
    exact this
  rw [e1, e2, i64_or _ _ (by omega) (by omega), o1, e3, i64_or _ _ (by omega) (by omega), o2, i64_or _ _ (by omega) (by omega), o3]
  simp only [numV]; omega
theorem rdU {D : Nat → Prop} {w : World} {A : Option Addr} {xs : Bs} (h : Rd D w 1 csU A xs) {k : Nat} (hk : k < xs.length) : ∃ b off, A = some ⟨b, off, none⟩ ∧ D b ∧ w.cell? ⟨b, off + k, none⟩ = some (.int .u8 (xs[k].toNat : Int)) := by
  obtain ⟨b, off, rfl, hd, hc⟩ := h (by omega)
  refine ⟨b, off, rfl, hd, ?_⟩
  have := hc k hk 0 _ rfl
  simpa using this
/-- What first answers. -/
def FirstEnds (D : Nat → Prop) (s : Bs) (w : World) (e : Ending) (w' : World) : Prop :=
  (match firstV s with
    | none => e = .returned (.tuple #[.int .u8 0, .slice none 0 0, .int .i64 0])
    | some (t, b, n) => ∃ A', e = .returned (.tuple #[.int .u8 (t.toNat : Int), .slice A' b.length b.length, .int .i64 (n : Int)]) ∧ Rd D w 1 csU A' b) ∧ ∃ q, w.drewN q = w'
set_option maxRecDepth 100000 in
set_option maxHeartbeats 4000000 in
theorem tfirst_any (D : Nat → Prop) (A : Option Addr) (c : Nat) (s : Bs) (w : World) (hA : Rd D w 1 csU A s) (hl : s.length ≤ 1099511627776) (hc : s.length ≤ c) :
    Calls Tryz.prog 97 #[.slice A s.length c] w (FirstEnds D s w) := by
  obtain ⟨n, hn⟩ : ∃ n, n = s.length := ⟨_, rfl⟩
  rw [← hn] at hl hc ⊢
  have HN := Lib.hid hn
  have HA := Lib.hid hA
  by_cases h5 : n < 5
  · have hno := Lib.hid (show firstV s = none by
      rcases s with _ | ⟨t0, _ | ⟨a, _ | ⟨b0, _ | ⟨c', _ | ⟨d, s⟩⟩⟩⟩⟩
      all_goals first | rfl | (simp at hn; omega))
    clear hn hA
    go_enter Tryz.func97, Tryz.ntmps97
    go_wp2
    refine bodyPost_ret (v := .tuple #[.int .u8 0, .slice none 0 0, .int .i64 0]) (by simp [results, Tryz.results97, go_sem]) rfl ⟨?_, 0, rfl⟩
    rw [hno.out]
  · rcases s with _ | ⟨t0, _ | ⟨a, _ | ⟨b0, _ | ⟨c0, _ | ⟨d, s⟩⟩⟩⟩⟩
    all_goals try (exfalso; simp at hn; omega)
    obtain ⟨b1, o1, rfl, -, q0⟩ := rdU (k := 0) hA (by simp)
    obtain ⟨b1', o1', he1, -, q1⟩ := rdU (k := 1) hA (by simp)
    obtain ⟨b2', o2', he2, -, q2⟩ := rdU (k := 2) hA (by simp)
    obtain ⟨b3', o3', he3, -, q3⟩ := rdU (k := 3) hA (by simp)
    obtain ⟨b4', o4', he4, -, q4⟩ := rdU (k := 4) hA (by simp)
    cases he1; cases he2; cases he3; cases he4
    simp only [List.getElem_cons_zero, List.getElem_cons_succ, Nat.add_zero] at q0 q1 q2 q3 q4
    have hbe := be4 a b0 c0 d
    obtain ⟨m, hm⟩ : ∃ m, m = numV [a, b0, c0, d] := ⟨_, rfl⟩
    rw [← hm] at hbe
    have wa : wrap64 (a.toNat : Int) = a.toNat := wrap64_in _ (by have := a.toNat_lt; constructor <;> omega)
    have wb : wrap64 (b0.toNat : Int) = b0.toNat := wrap64_in _ (by have := b0.toNat_lt; constructor <;> omega)
    have wc : wrap64 (c0.toNat : Int) = c0.toNat := wrap64_in _ (by have := c0.toNat_lt; constructor <;> omega)
    have wd : wrap64 (d.toNat : Int) = d.toNat := wrap64_in _ (by have := d.toNat_lt; constructor <;> omega)
    have wa2 : wrap64 ((a.toNat : Int) * 16777216) = (a.toNat : Int) * 16777216 := wrap64_in _ (by have := a.toNat_lt; constructor <;> omega)
    have wb2 : wrap64 ((b0.toNat : Int) * 65536) = (b0.toNat : Int) * 65536 := wrap64_in _ (by have := b0.toNat_lt; constructor <;> omega)
    have wc2 : wrap64 ((c0.toNat : Int) * 256) = (c0.toNat : Int) * 256 := wrap64_in _ (by have := c0.toNat_lt; constructor <;> omega)
    have hns1 : n ≤ 5 + s.length := by rw [hn]; simp; omega
    have hns2 : 5 + s.length ≤ n := by rw [hn]; simp; omega
    have HF := Lib.hid (show firstV (t0 :: a :: b0 :: c0 :: d :: s) = if t0 = 0 then none else if 4194304 < m ∨ s.length < m then none else some (t0, s.take m, 5 + m) by rw [hm]; rfl)
    clear hn hA hm
    by_cases ht : t0 = 0
    · have ht1 : ((t0.toNat : Int) == 0) = true := by rw [ht]; rfl
      have hno := Lib.hid (show firstV (t0 :: a :: b0 :: c0 :: d :: s) = none by rw [HF.out, if_pos ht])
      clear ht
      go_enter Tryz.func97, Tryz.ntmps97
      go_wp2
      refine bodyPost_ret (v := .tuple #[.int .u8 0, .slice none 0 0, .int .i64 0]) (by simp [results, Tryz.results97, go_sem]) rfl ⟨?_, 0, rfl⟩
      rw [hno.out]
    · have ht1 : ((t0.toNat : Int) == 0) = false := by
        rw [beq_eq_false_iff_ne]; intro e; exact ht (UInt8.toNat_inj.1 (by show t0.toNat = 0; omega))
      have HF2 := Lib.hid (show firstV (t0 :: a :: b0 :: c0 :: d :: s) = if 4194304 < m ∨ s.length < m then none else some (t0, s.take m, 5 + m) by rw [HF.out, if_neg ht])
      clear ht HF
      by_cases hbad : 4194304 < m ∨ s.length < m
      · have hno := Lib.hid (show firstV (t0 :: a :: b0 :: c0 :: d :: s) = none by rw [HF2.out, if_pos hbad])
        rcases (show 4194304 < m ∨ (¬ 4194304 < m ∧ n - 5 < m) by omega) with h1 | ⟨h1, h2⟩
        case' inl => have x1 : decide ((4194304 : Int) < (m : Int)) = true := by rw [decide_eq_true_eq]; omega
        case' inr =>
          have x1 : decide ((4194304 : Int) < (m : Int)) = false := by rw [decide_eq_false_iff_not]; omega
          have x2 : decide ((n : Int) - 5 < (m : Int)) = true := by rw [decide_eq_true_eq]; omega
        all_goals
          clear hbad
          go_wp2
          go_quiet (fail)
          go_wp2
          refine bodyPost_ret (v := .tuple #[.int .u8 0, .slice none 0 0, .int .i64 0]) (by simp [results, Tryz.results97, go_sem]) rfl ⟨?_, _, rfl⟩
          rw [hno.out]
      · have h1 : ¬ 4194304 < m := by omega
        have h2 : ¬ n - 5 < m := by omega
        have hml : m ≤ s.length := by omega
        have HYes := Lib.hid (show firstV (t0 :: a :: b0 :: c0 :: d :: s) = some (t0, s.take m, 5 + m) by rw [HF2.out, if_neg hbad])
        have HLt := Lib.hid (show (s.take m).length = m by rw [List.length_take]; omega)
        have x1 : decide ((4194304 : Int) < (m : Int)) = false := by rw [decide_eq_false_iff_not]; omega
        have x2 : decide ((n : Int) - 5 < (m : Int)) = false := by rw [decide_eq_false_iff_not]; omega
        have HR := Lib.hid (show Rd D w 1 csU (some ⟨b1, o1 + 5, none⟩) (s.take m) from by
          have h := rd_take (rd_drop HA.out (j := 5) (by simp)) m
          rw [Nat.mul_one] at h
          exact h)
        clear hbad
        by_cases hm0 : m = 0
        · have hA0 := Lib.hid (show Rd D w 1 csU (some ⟨b1, o1, none⟩) (s.take m) from by rw [List.eq_nil_of_length_eq_zero (HLt.out.trans hm0)]; exact Rd.nil _ _ _ _ _)
          subst hm0
          go_wp2
          go_quiet (fail)
          go_wp2
          go_quiet (fail)
          go_ways
          go_wp2
          refine bodyPost_ret (v := .tuple #[.int .u8 t0.toNat, .slice (some ⟨b1, o1, none⟩) 0 0, .int .i64 5]) (by simp [results, Tryz.results97, go_sem]) rfl ⟨?_, _, (World.drewN_drewN ..).symm⟩
          rw [HYes.out]
          refine ⟨_, ?_, hA0.out⟩
          rw [HLt.out]; rfl
        · have hm5 : ¬ 5 + m = 5 := by omega
          go_wp2
          go_quiet (fail)
          go_wp2
          go_quiet (fail)
          go_ways
          go_wp2
          refine bodyPost_ret (v := .tuple #[.int .u8 t0.toNat, .slice (some ⟨b1, o1 + 5, none⟩) m m, .int .i64 ((5 + m : Nat) : Int)]) (by simp [results, Tryz.results97, go_sem, hm5]) rfl ⟨?_, _, (World.drewN_drewN ..).symm⟩
          rw [HYes.out]
          refine ⟨_, ?_, HR.out⟩
          rw [HLt.out]
end Go.Proofs.YtmalclclopnlnaaGreat
