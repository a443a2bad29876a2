/-
  A slice of bytes, as it is turned to a text.
-/
import Derived.Test.YtidbgfmknhlmnaaGreatDoorProg
import Derived.Test.YtidbgfmknhlmnaaGreatDoorBs
import Derived.Laws.IdiomStrings
import Derived.Laws.BytesArg
namespace Go.Proofs.YtidbgfmknhlmnaaGreatDoor
open Go.RowKit Go.Shelf
theorem u8s_t : SliceT Tryz.prog 64 5 1 1 := SliceT.mk' (z := .int .u8 0) Tryz.underlying64 (by kernel_rfl) rfl (by decide)
theorem run_str_of {D : Nat → Prop} {w : World} {A : Option Addr} {xs : Bs} (hr : Rd D w 1 csU A xs) (c : Nat) : (convert 64 9 (.slice A xs.length c)).run Tryz.prog w = .ok (.string ⟨xs.toArray⟩) w := by
  rcases A with _ | a
  · have h0 : xs = [] := by
      cases xs with
      | nil => rfl
      | cons y r => obtain ⟨b, off, h, _⟩ := hr (by simp); cases h
    subst h0
    exact run_convert_bytes_nil w 64 5 Tryz.underlying64 Tryz.underlying5 0 c 9 Tryz.underlying9
  · refine run_convert_bytes_back w 64 9 5 a c xs Tryz.underlying64 Tryz.underlying5 Tryz.underlying9 (fun j hj => ?_)
    obtain ⟨b, off, he, _, hc⟩ := hr (by omega)
    cases he
    rw [addr_add]
    have := hc j hj 0 _ rfl
    simpa using this
end Go.Proofs.YtidbgfmknhlmnaaGreatDoor
