/-
  Byte texts as lists; slices of texts, of 32-bit numbers.
-/
import Derived.Test.YtidbgfmknhlmnaaGreatDoorBase
import Derived.Lib.SlTrimSet
namespace Go.Proofs.YtidbgfmknhlmnaaGreatDoor
open Go.RowKit

abbrev Bs := List UInt8
def csB (l : Bs) : List Value := [.string ⟨l.toArray⟩]
theorem csB_len (l : Bs) : (csB l).length = 1 := rfl
theorem csB_one (l : Bs) : ∀ u ∈ csB l, u.oneCell' = true := by simp [csB, Value.oneCell']
theorem mk_ext (l : Bs) (a b : Nat) : (⟨l.toArray⟩ : ByteArray).extract a b = ⟨((l.drop a).take (b - a)).toArray⟩ := by
  have h : ((⟨l.toArray⟩ : ByteArray).extract a b).data.toList = (l.drop a).take (b - a) := by rw [Lib.extract_data]
  cases he : (⟨l.toArray⟩ : ByteArray).extract a b with
  | mk d => rw [he] at h; cases d; simp at h; simp [h]
theorem mk_size (l : Bs) : (⟨l.toArray⟩ : ByteArray).size = l.length := rfl
def lenS : Value → Nat | .string s => s.size | _ => 0
theorem str_eq {a b : Bs} (h : a = b) : Value.string ⟨a.toArray⟩ = .string ⟨b.toArray⟩ := by rw [h]
theorem ret_str {a b : Bs} (h : a = b) : Ending.returned (.string ⟨a.toArray⟩) = .returned (.string ⟨b.toArray⟩) := by rw [h]
theorem mk_app (a b : Bs) : (⟨a.toArray⟩ : ByteArray) ++ ⟨b.toArray⟩ = ⟨(a ++ b).toArray⟩ := by
  refine ByteArray.ext ?_
  simp [ByteArray.data_append]
theorem ret_sl {A : Option Addr} {n m c : Nat} (h : n = m) : Ending.returned (.slice A n c) = .returned (.slice A m c) := by rw [h]
def csI (n : Int) : List Value := [.int .i32 n]
theorem csI_len (n : Int) : (csI n).length = 1 := rfl
theorem csI_one (n : Int) : ∀ u ∈ csI n, u.oneCell' = true := by simp [csI, Value.oneCell']
theorem rdI {D : Nat → Prop} {w : World} {A : Option Addr} {xs : List Int} (h : Rd D w 1 csI A xs) {k : Nat} (hk : k < xs.length) : ∃ b off, A = some ⟨b, off, none⟩ ∧ D b ∧ w.cell? ⟨b, off + k, none⟩ = some (.int .i32 xs[k]) := by
  obtain ⟨b, off, rfl, hd, hc⟩ := h (by omega)
  refine ⟨b, off, rfl, hd, ?_⟩
  have := hc k hk 0 _ rfl
  simpa using this
def csU (b : UInt8) : List Value := [.int .u8 (b.toNat : Int)]
theorem csU_len (b : UInt8) : (csU b).length = 1 := rfl
theorem csU_one (b : UInt8) : ∀ u ∈ csU b, u.oneCell' = true := by simp [csU, Value.oneCell']
def natI (ns : List Nat) : List Int := ns.map fun n : Nat => (n : Int)
theorem natI_len (ns : List Nat) : (natI ns).length = ns.length := List.length_map _
theorem natI_snoc (ns : List Nat) (n : Nat) : natI (ns ++ [n]) = natI ns ++ [(n : Int)] := List.map_append
end Go.Proofs.YtidbgfmknhlmnaaGreatDoor
