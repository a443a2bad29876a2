/-
  DERIVED. GIVEN WITH THE SEED: THE CARDS: each row of YtidbgfmknhlmnaaGreatDoorRows.lean that lists a variable, with what it lists TIED to the program's text (the seventh form; the later family's looks); each row that meets fmt, with fmt's text TOLD by the authors' own Lean function (tested against real Go, not proved from fmt's source: count such statements apart). THE CARD IS WHAT COUNTS. Prove the row's statement (the work); the ties are given (YtidbgfmknhlmnaaGreatDoorTie.lean); close each card by the builder's one call (the guide's Derived/Test/ToyasCard.lean, 'card_holds'). Laid BY PROGRAM, IN A SANDBOX (cutbox-door.mjs). By AI agents, Wed Nov 11 2026. No macro, syntax, notation, axiom, sorry.
-/
import Derived.Test.YtidbgfmknhlmnaaGreatDoorRows
import GoSem.ClaimSeven
namespace Go.Proofs.YtidbgfmknhlmnaaGreatDoor
namespace Rows

/-- THE TIED CARD OF 'blazonlaw06.FoldNames'. -/
def foldNamesCard : Claim7 := { stood := { row := foldNamesRow, standIns := [], harness := (true, "2562804efe739f73a65c60f0c7bcce88d36263552831f34cabab4c0b22c325ee"), looks := true }, kinds := [], alts := [], laidByText := true, laidKinds := [.data, .handle, .pinned], laidTests := true, laidLooks := .later }
def FoldNamesCardSaid : Prop := Claim7.holds Tryz.pinned (.plain (OpenSpec.ofChange foldNamesSpec)) foldNamesCard

/-- THE TIED CARD OF 'blazonlaw06.FoldReads'. -/
def foldReadsCard : Claim7 := { stood := { row := foldReadsRow, standIns := [], harness := (true, "2562804efe739f73a65c60f0c7bcce88d36263552831f34cabab4c0b22c325ee"), looks := true }, kinds := [], alts := [], laidByText := true, laidKinds := [.data, .handle, .pinned], laidTests := true, laidLooks := .later }
def FoldReadsCardSaid : Prop := Claim7.holds Tryz.pinned (.plain (OpenSpec.ofChange foldReadsSpec)) foldReadsCard

/-- THE TIED CARD OF 'blazonlaw06.FoldMeans'. -/
def foldMeansCard : Claim7 := { stood := { row := foldMeansRow, standIns := [], harness := (true, "2562804efe739f73a65c60f0c7bcce88d36263552831f34cabab4c0b22c325ee"), looks := true }, kinds := [], alts := [], laidByText := true, laidKinds := [.data, .handle, .pinned], laidTests := true, laidLooks := .later }
def FoldMeansCardSaid : Prop := Claim7.holds Tryz.pinned (.plain (OpenSpec.ofChange foldMeansSpec)) foldMeansCard

/-- THE TIED CARD OF 'blazonlaw06.FoldTells'. -/
def foldTellsCard : Claim7 := { stood := { row := foldTellsRow, standIns := [], harness := (true, "2562804efe739f73a65c60f0c7bcce88d36263552831f34cabab4c0b22c325ee"), looks := true }, kinds := [], alts := [], laidByText := true, laidKinds := [.data, .handle, .pinned], laidTests := true, laidLooks := .later }
def FoldTellsCardSaid : Prop := Claim7.holds Tryz.pinned (.plain (OpenSpec.ofChange foldTellsSpec)) foldTellsCard

/-- THE TIED CARD OF 'blazonlaw06.FoldNil'. -/
def foldNilCard : Claim7 := { stood := { row := foldNilRow, standIns := [], harness := (true, "2562804efe739f73a65c60f0c7bcce88d36263552831f34cabab4c0b22c325ee"), looks := true }, kinds := [], alts := [], laidByText := true, laidKinds := [.data, .handle, .pinned], laidTests := true, laidLooks := .later }
def FoldNilCardSaid : Prop := Claim7.holds Tryz.pinned (.plain (OpenSpec.ofChange foldNilSpec)) foldNilCard

/-- THE SECOND FORM's CARD OF 'blazonlaw06.FoldNames'. -/
def foldNamesUptoCard : Claim7 := { stood := { row := foldNamesUptoRow, standIns := [], harness := (true, "2562804efe739f73a65c60f0c7bcce88d36263552831f34cabab4c0b22c325ee"), looks := true }, kinds := [], alts := [], laidByText := true, laidKinds := [.data, .handle, .pinned], laidTests := true, laidLooks := .later }
def FoldNamesUptoCardSaid : Prop := Claim7.holds Tryz.pinned (.plain (OpenSpec.upto foldNamesSpec)) foldNamesUptoCard

/-- THE SECOND FORM's CARD OF 'blazonlaw06.FoldReads'. -/
def foldReadsUptoCard : Claim7 := { stood := { row := foldReadsUptoRow, standIns := [], harness := (true, "2562804efe739f73a65c60f0c7bcce88d36263552831f34cabab4c0b22c325ee"), looks := true }, kinds := [], alts := [], laidByText := true, laidKinds := [.data, .handle, .pinned], laidTests := true, laidLooks := .later }
def FoldReadsUptoCardSaid : Prop := Claim7.holds Tryz.pinned (.plain (OpenSpec.upto foldReadsSpec)) foldReadsUptoCard

/-- THE SECOND FORM's CARD OF 'blazonlaw06.FoldMeans'. -/
def foldMeansUptoCard : Claim7 := { stood := { row := foldMeansUptoRow, standIns := [], harness := (true, "2562804efe739f73a65c60f0c7bcce88d36263552831f34cabab4c0b22c325ee"), looks := true }, kinds := [], alts := [], laidByText := true, laidKinds := [.data, .handle, .pinned], laidTests := true, laidLooks := .later }
def FoldMeansUptoCardSaid : Prop := Claim7.holds Tryz.pinned (.plain (OpenSpec.upto foldMeansSpec)) foldMeansUptoCard

/-- THE SECOND FORM's CARD OF 'blazonlaw06.FoldTells'. -/
def foldTellsUptoCard : Claim7 := { stood := { row := foldTellsUptoRow, standIns := [], harness := (true, "2562804efe739f73a65c60f0c7bcce88d36263552831f34cabab4c0b22c325ee"), looks := true }, kinds := [], alts := [], laidByText := true, laidKinds := [.data, .handle, .pinned], laidTests := true, laidLooks := .later }
def FoldTellsUptoCardSaid : Prop := Claim7.holds Tryz.pinned (.plain (OpenSpec.upto foldTellsSpec)) foldTellsUptoCard

/-- THE SECOND FORM's CARD OF 'blazonlaw06.FoldNil'. -/
def foldNilUptoCard : Claim7 := { stood := { row := foldNilUptoRow, standIns := [], harness := (true, "2562804efe739f73a65c60f0c7bcce88d36263552831f34cabab4c0b22c325ee"), looks := true }, kinds := [], alts := [], laidByText := true, laidKinds := [.data, .handle, .pinned], laidTests := true, laidLooks := .later }
def FoldNilUptoCardSaid : Prop := Claim7.holds Tryz.pinned (.plain (OpenSpec.upto foldNilSpec)) foldNilUptoCard
end Rows
end Go.Proofs.YtidbgfmknhlmnaaGreatDoor
