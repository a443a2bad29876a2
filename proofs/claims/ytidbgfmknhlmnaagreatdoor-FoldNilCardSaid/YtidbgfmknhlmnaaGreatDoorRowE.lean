/-
  A row that lists errors.errorType beside plain data: the condition's cell, and a world that meets the condition.
-/
import Derived.Test.YtidbgfmknhlmnaaGreatDoorRow
import Derived.Test.YtidbgfmknhlmnaaGreatDoorFoldG
import Derived.LaidHandle
import Derived.Test.YtidbgfmknhlmnaaGreatDoorRows
namespace Go.Proofs.YtidbgfmknhlmnaaGreatDoor
open Go.ChangeShapes Go.WideShapes Go.Deep Go.Joins Go.RowKit

theorem et_named : Tryz.prog.globalNamed "errors.errorType" = some 0 := by kernel_rfl
theorem et_rt : (Tryz.prog.cutTypes.find? (·.1 == "internal/reflectlite.rtype")).map (·.2) = some 114 := by kernel_rfl
theorem et_one : ((List.range 222).filter fun t => Tryz.prog.rowNamed t [101, 114, 114, 111, 114]) = [43] := by kernel_rfl
theorem et_size : Tryz.prog.types.size = 222 := by kernel_rfl
/-- What the condition gives a walk: the variable's one cell. -/
theorem ErrT.of {W : World} (h : laidMetH Tryz.prog Rows.foldReadsRow.laid W) : ErrT W := by
  have h' : laidMet Tryz.prog (Rows.foldReadsRow.laid.filter fun x => x.2.handleName?.isNone) W ∧ handlesMet Tryz.prog [("errors.errorType", Rows.laid_errors_errorType)] W := h
  obtain ⟨name, u, ty, e1, e2, e3, e4, e5⟩ := h'.2 _ (List.mem_singleton.2 rfl)
  have en : name = [101, 114, 114, 111, 114] := (Option.some.inj e1).symm
  subst en
  obtain rfl := Option.some.inj (et_rt.symm.trans e2)
  have hm : ty ∈ (List.range 222).filter fun t => Tryz.prog.rowNamed t [101, 114, 114, 111, 114] := List.mem_filter.2 ⟨List.mem_range.2 (by rw [← et_size]; exact e3), e4⟩
  rw [et_one] at hm
  obtain rfl := List.mem_singleton.1 hm
  have hh : typeHandle Tryz.prog 43 = .pointer (some ⟨4, 43, none⟩) := by kernel_rfl
  rw [hh] at e5
  unfold ErrT
  simpa using World.var?_cell et_named e5 0
/-- A world that meets the condition. -/
noncomputable def laidW0 (os : Os) : World :=
  let w0 := World.holding Tryz.prog os ⟨#[], #[], []⟩
  { w0 with heap := w0.heap.modify 0 fun
      | .cells _ t frozen => .cells #[.iface 114 (.agg #[.pointer (some ⟨4, 43, none⟩)])] t frozen
      | o => o }
def laidD : List (String × DataW Unit) := Rows.foldReadsRow.laid.filter fun x => x.2.handleName?.isNone
noncomputable def laidW (os : Os) : World := (laidW0 os).layVars Tryz.prog laidD
theorem laidW_os (os : Os) : (laidW os).os = os := World.layVars_os _ _ _
theorem laidW_data (os : Os) (args : Array Value) : laidMet Tryz.prog laidD ((laidW os).forCall (fun _ _ => 0) ⟨#[], args, []⟩).memory := by
  have e1 : (laidD.filter fun x => (laidD.map (·.1)).contains x.1) = laidD := List.filter_eq_self.2 fun x hx => List.contains_iff_mem.2 (List.mem_map.2 ⟨x, hx, rfl⟩)
  have e2 : (laidD.filter fun x => !(laidD.map (·.1)).contains x.1) = [] := List.filter_eq_nil_iff.2 fun x hx => by rw [List.contains_iff_mem.2 (List.mem_map.2 ⟨x, hx, rfl⟩)]; simp
  have h : laidMet Tryz.prog laidD (laidW os) := laidMet_layVars (w0 := laidW0 os) (laidD.map (·.1)) [] (by rw [e1]; rfl) (by rw [e1]; kernel_rfl) (by rw [e1]; kernel_rfl) (by rw [e2]; exact LaidIn.none)
  exact h.of_heap (by simp [World.memory, World.forCall, Input.heap])
theorem laidW_met (os : Os) (args : Array Value) : laidMetH Tryz.prog Rows.foldReadsRow.laid ((laidW os).forCall (fun _ _ => 0) ⟨#[], args, []⟩).memory :=
  laidMetH_of_parts (laidW_data os args) (by kernel_rfl)
end Go.Proofs.YtidbgfmknhlmnaaGreatDoor
