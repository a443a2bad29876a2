/-
  DERIVED. GIVEN WITH THE SEED: THE CARDS: each row of YtpcenfeaoomfhaaDoorRows.lean that lists a variable, with what it lists TIED to the program's text (the seventh form; the later family's looks); each row that meets fmt, with fmt's text TOLD by the authors' own Lean function (tested against real Go, not proved from fmt's source: count such statements apart). THE CARD IS WHAT COUNTS. Prove the row's statement (the work); the ties are given (YtpcenfeaoomfhaaDoorTie.lean); close each card by the builder's one call (the guide's Derived/Test/ToyasCard.lean, 'card_holds'). Laid BY PROGRAM, IN A SANDBOX (cutbox-door.mjs). By AI agents, Wed Nov 11 2026. No macro, syntax, notation, axiom, sorry.
-/
import Derived.Test.YtpcenfeaoomfhaaDoorRows
import GoSem.ClaimSeven
namespace Go.Proofs.YtpcenfeaoomfhaaDoor
namespace Rows

/-- THE TIED CARD OF 'blazonlaw03.FieldsLines'. -/
def fieldsLinesCard : Claim7 := { stood := { row := fieldsLinesRow, standIns := [], harness := (true, "6b260ece9a5f513a844782be46dd691e9d9fb3d5ab5276511c17fb139992f5c4"), looks := false }, kinds := [], alts := [], laidByText := true, laidKinds := [.data, .pinned], laidTests := true, laidLooks := .later }
def FieldsLinesCardSaid : Prop := Claim7.holds Tryd.pinned (.plain (OpenSpec.ofChange fieldsLinesSpec)) fieldsLinesCard

/-- THE TIED CARD OF 'blazonlaw03.FieldsMeans'. -/
def fieldsMeansCard : Claim7 := { stood := { row := fieldsMeansRow, standIns := [], harness := (true, "6b260ece9a5f513a844782be46dd691e9d9fb3d5ab5276511c17fb139992f5c4"), looks := false }, kinds := [], alts := [], laidByText := true, laidKinds := [.data, .pinned], laidTests := true, laidLooks := .later }
def FieldsMeansCardSaid : Prop := Claim7.holds Tryd.pinned (.plain (OpenSpec.ofChange fieldsMeansSpec)) fieldsMeansCard

/-- THE TIED CARD OF 'blazonlaw03.FieldsCodes'. -/
def fieldsCodesCard : Claim7 := { stood := { row := fieldsCodesRow, standIns := [], harness := (true, "6b260ece9a5f513a844782be46dd691e9d9fb3d5ab5276511c17fb139992f5c4"), looks := false }, kinds := [], alts := [], laidByText := true, laidKinds := [.data, .pinned], laidTests := true, laidLooks := .later }
def FieldsCodesCardSaid : Prop := Claim7.holds Tryd.pinned (.plain (OpenSpec.ofChange fieldsCodesSpec)) fieldsCodesCard

/-- THE SECOND FORM's CARD OF 'blazonlaw03.FieldsLines'. -/
def fieldsLinesUptoCard : Claim7 := { stood := { row := fieldsLinesUptoRow, standIns := [], harness := (true, "6b260ece9a5f513a844782be46dd691e9d9fb3d5ab5276511c17fb139992f5c4"), looks := false }, kinds := [], alts := [], laidByText := true, laidKinds := [.data, .pinned], laidTests := true, laidLooks := .later }
def FieldsLinesUptoCardSaid : Prop := Claim7.holds Tryd.pinned (.plain (OpenSpec.upto fieldsLinesSpec)) fieldsLinesUptoCard

/-- THE SECOND FORM's CARD OF 'blazonlaw03.FieldsMeans'. -/
def fieldsMeansUptoCard : Claim7 := { stood := { row := fieldsMeansUptoRow, standIns := [], harness := (true, "6b260ece9a5f513a844782be46dd691e9d9fb3d5ab5276511c17fb139992f5c4"), looks := false }, kinds := [], alts := [], laidByText := true, laidKinds := [.data, .pinned], laidTests := true, laidLooks := .later }
def FieldsMeansUptoCardSaid : Prop := Claim7.holds Tryd.pinned (.plain (OpenSpec.upto fieldsMeansSpec)) fieldsMeansUptoCard

/-- THE SECOND FORM's CARD OF 'blazonlaw03.FieldsCodes'. -/
def fieldsCodesUptoCard : Claim7 := { stood := { row := fieldsCodesUptoRow, standIns := [], harness := (true, "6b260ece9a5f513a844782be46dd691e9d9fb3d5ab5276511c17fb139992f5c4"), looks := false }, kinds := [], alts := [], laidByText := true, laidKinds := [.data, .pinned], laidTests := true, laidLooks := .later }
def FieldsCodesUptoCardSaid : Prop := Claim7.holds Tryd.pinned (.plain (OpenSpec.upto fieldsCodesSpec)) fieldsCodesUptoCard
end Rows
end Go.Proofs.YtpcenfeaoomfhaaDoor
