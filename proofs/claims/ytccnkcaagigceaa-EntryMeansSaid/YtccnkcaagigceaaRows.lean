/-
  No cell of these rows narrows 'for every input' (looked for: loops, veiled, ifaces, maps, wideKeys, modest, calm, conditions, laid).
  DERIVED. THE GIVEN ROWS OF THIS SEAT. 5 by the template 'for every input the law returns true; each argument reads behind the call as it read before'; 0 by the template 'total and deterministic' (their statements: YtccnkcaagigceaaTotals.lean).
  GIVEN WITH THE SEED: the statements are not yours to turn. If you find one false, say at which input.
  Laid BY PROGRAM, IN A SANDBOX (cutbox-rows.mjs): the forced cells as the released guide's own fill.sh prints them over the translation 859a025bc503b375… (all of the seat's roots in one cut). By AI agents, Wed Nov 11 2026. No macro, syntax, notation, axiom, sorry.
-/
import Derived.Test.YtccnkcaagigceaaChecked
import GoSem.Claim
import GoSem.ClaimJoined
import GoSem.ClaimMapViews
import Derived.JoinedTies
import Derived.KernelRfl
namespace Go.Proofs.Ytccnkcaagigceaa
/- THE CELL 'sum', in the pinned program and in every row, IS THE sha256 OF THE DUMP (.gsa) THAT YtccnkcaagigceaaProg.lean LOADS. Nothing in Lean hashes anything: it is a label: what it is worth is what the hold of that sum in a sandbox is worth. -/
noncomputable def Try.pinned : Pinned := { name := "ytccnkcaagigceaa", sum := "859a025bc503b375c901d7d2f4e336b6a7bfd2b6d1338ae40660b62479c45fce", checked := Try.checked }
namespace Rows
def none {H : Type} : Left H := { results := [], args := [] }

/-- 'blazonlaw19.EntryBounds': WHATEVER THE INPUT: true; the input reads as it did. -/
def entryBoundsSpec : ChangeSpec := { name := "entryBounds", fn := fun _ => fun
  | [] => { results := [.lit (.bool true)], args := [] }
  | _ => none }
def entryBoundsRow : OpenClaim := { program := "ytccnkcaagigceaa", sum := "859a025bc503b375c901d7d2f4e336b6a7bfd2b6d1338ae40660b62479c45fce", func := "blazon/blazonlaw19.EntryBounds", spec := "entryBounds", inPlace := ["internal/bytealg.abigen_runtime_cmpstring"], unfollowed := true, recurses := true, apart := false }
def EntryBoundsSaid : Prop := entryBoundsRow.holds Try.pinned (OpenSpec.ofChange entryBoundsSpec)

/-- ITS FALSE NEIGHBOUR: 'it returns false'. Refute it at one input. -/
def entryBoundsWrong : ChangeSpec := { name := "entryBounds", fn := fun _ => fun
  | [] => { results := [.lit (.bool false)], args := [] }
  | _ => none }
def EntryBoundsWrongFalsely : Prop := entryBoundsRow.holds Try.pinned (OpenSpec.ofChange entryBoundsWrong)

/-- 'blazonlaw19.EntryMay': WHATEVER THE INPUT: true; the input reads as it did. -/
def entryMaySpec : ChangeSpec := { name := "entryMay", fn := fun _ => fun
  | [d1, d2] => { results := [.lit (.bool true)], args := [d1, d2] }
  | _ => none }
def entryMayRow : OpenClaim := { program := "ytccnkcaagigceaa", sum := "859a025bc503b375c901d7d2f4e336b6a7bfd2b6d1338ae40660b62479c45fce", func := "blazon/blazonlaw19.EntryMay", spec := "entryMay", inPlace := ["internal/bytealg.abigen_runtime_cmpstring"], unfollowed := true, recurses := true, apart := false }
def EntryMaySaid : Prop := entryMayRow.holds Try.pinned (OpenSpec.ofChange entryMaySpec)

/-- ITS FALSE NEIGHBOUR: 'it returns false'. Refute it at one input. -/
def entryMayWrong : ChangeSpec := { name := "entryMay", fn := fun _ => fun
  | [d1, d2] => { results := [.lit (.bool false)], args := [d1, d2] }
  | _ => none }
def EntryMayWrongFalsely : Prop := entryMayRow.holds Try.pinned (OpenSpec.ofChange entryMayWrong)

/-- 'blazonlaw19.EntryChanges': WHATEVER THE INPUT: true; the input reads as it did. -/
def entryChangesSpec : ChangeSpec := { name := "entryChanges", fn := fun _ => fun
  | [d1, d2, d3] => { results := [.lit (.bool true)], args := [d1, d2, d3] }
  | _ => none }
def entryChangesRow : OpenClaim := { program := "ytccnkcaagigceaa", sum := "859a025bc503b375c901d7d2f4e336b6a7bfd2b6d1338ae40660b62479c45fce", func := "blazon/blazonlaw19.EntryChanges", spec := "entryChanges", inPlace := ["internal/bytealg.abigen_runtime_cmpstring"], unfollowed := true, recurses := true, apart := false }
def EntryChangesSaid : Prop := entryChangesRow.holds Try.pinned (OpenSpec.ofChange entryChangesSpec)

/-- ITS FALSE NEIGHBOUR: 'it returns false'. Refute it at one input. -/
def entryChangesWrong : ChangeSpec := { name := "entryChanges", fn := fun _ => fun
  | [d1, d2, d3] => { results := [.lit (.bool false)], args := [d1, d2, d3] }
  | _ => none }
def EntryChangesWrongFalsely : Prop := entryChangesRow.holds Try.pinned (OpenSpec.ofChange entryChangesWrong)

/-- 'blazonlaw19.EntryLooks': WHATEVER THE INPUT: true; the input reads as it did. -/
def entryLooksSpec : ChangeSpec := { name := "entryLooks", fn := fun _ => fun
  | [d1, d2, d3] => { results := [.lit (.bool true)], args := [d1, d2, d3] }
  | _ => none }
def entryLooksRow : OpenClaim := { program := "ytccnkcaagigceaa", sum := "859a025bc503b375c901d7d2f4e336b6a7bfd2b6d1338ae40660b62479c45fce", func := "blazon/blazonlaw19.EntryLooks", spec := "entryLooks", inPlace := ["internal/bytealg.abigen_runtime_cmpstring"], unfollowed := true, recurses := true, apart := false }
def EntryLooksSaid : Prop := entryLooksRow.holds Try.pinned (OpenSpec.ofChange entryLooksSpec)

/-- ITS FALSE NEIGHBOUR: 'it returns false'. Refute it at one input. -/
def entryLooksWrong : ChangeSpec := { name := "entryLooks", fn := fun _ => fun
  | [d1, d2, d3] => { results := [.lit (.bool false)], args := [d1, d2, d3] }
  | _ => none }
def EntryLooksWrongFalsely : Prop := entryLooksRow.holds Try.pinned (OpenSpec.ofChange entryLooksWrong)

/-- 'blazonlaw19.EntryMeans': WHATEVER THE INPUT: true; the input reads as it did. -/
def entryMeansSpec : ChangeSpec := { name := "entryMeans", fn := fun _ => fun
  | [d1, d2, d3] => { results := [.lit (.bool true)], args := [d1, d2, d3] }
  | _ => none }
def entryMeansRow : OpenClaim := { program := "ytccnkcaagigceaa", sum := "859a025bc503b375c901d7d2f4e336b6a7bfd2b6d1338ae40660b62479c45fce", func := "blazon/blazonlaw19.EntryMeans", spec := "entryMeans", inPlace := ["internal/bytealg.abigen_runtime_cmpstring"], unfollowed := true, recurses := true, apart := false }
def EntryMeansSaid : Prop := entryMeansRow.holds Try.pinned (OpenSpec.ofChange entryMeansSpec)

/-- ITS FALSE NEIGHBOUR: 'it returns false'. Refute it at one input. -/
def entryMeansWrong : ChangeSpec := { name := "entryMeans", fn := fun _ => fun
  | [d1, d2, d3] => { results := [.lit (.bool false)], args := [d1, d2, d3] }
  | _ => none }
def EntryMeansWrongFalsely : Prop := entryMeansRow.holds Try.pinned (OpenSpec.ofChange entryMeansWrong)

/- THE SECOND FORM. 'bulk': how many values and letters a reading holds, each counted each time it is reached (what is shared counts as often as it is met; a slice's spare places count too). A statement '..UptoSaid' is the law's where the arguments, and the package variables that the reading takes, are together of bulk at most 1048576: NARROWER than '..Said'. Prove '..Said' where nothing that the law and all that it calls make is longer than what came in: it says more and counts as full. Else prove '..UptoSaid'. A law counts once. -/
mutual
def uptoBulk {H : Type} : DataW H → Nat
  | .lit (.string bytes) => bytes.length + 1
  | .lit _ => 1
  | .nil => 1
  | .ptr d => uptoBulk d + 1
  | .slice elems spare => uptoBulkAll elems + uptoBulkAll spare + 1
  | .agg parts => uptoBulkAll parts + 1
  | .iface _ d => uptoBulk d + 1
  | .map entries => uptoBulkEntries entries + 1
  | .held _ => 1
def uptoBulkAll {H : Type} : List (DataW H) → Nat
  | [] => 0
  | d :: r => uptoBulk d + uptoBulkAll r
def uptoBulkEntries {H : Type} : List (Lit × DataW H) → Nat
  | [] => 0
  | x :: r => uptoBulkEntry x + uptoBulkEntries r
def uptoBulkEntry {H : Type} : Lit × DataW H → Nat
  | (.string bytes, d) => bytes.length + uptoBulk d + 1
  | (_, d) => uptoBulk d + 1
 end
def uptoSmall : (H : Type) → List (DataW H) → Bool := fun _ ds => decide (uptoBulkAll ds ≤ 1048576)
def OpenSpec.upto (s : _root_.Go.ChangeSpec) : _root_.Go.OpenSpec := { _root_.Go.OpenSpec.ofChange s with cond := some uptoSmall }

/-- 'blazonlaw19.EntryBounds', WHERE WHAT IT READS IS OF BULK AT MOST 1048576: true; the input reads as it did. -/
def entryBoundsUptoRow : OpenClaim := { program := "ytccnkcaagigceaa", sum := "859a025bc503b375c901d7d2f4e336b6a7bfd2b6d1338ae40660b62479c45fce", func := "blazon/blazonlaw19.EntryBounds", spec := "entryBounds", inPlace := ["internal/bytealg.abigen_runtime_cmpstring"], unfollowed := true, recurses := true, apart := false, narrowed := true }
def EntryBoundsUptoSaid : Prop := entryBoundsUptoRow.holds Try.pinned (OpenSpec.upto entryBoundsSpec)

/-- 'blazonlaw19.EntryMay', WHERE WHAT IT READS IS OF BULK AT MOST 1048576: true; the input reads as it did. -/
def entryMayUptoRow : OpenClaim := { program := "ytccnkcaagigceaa", sum := "859a025bc503b375c901d7d2f4e336b6a7bfd2b6d1338ae40660b62479c45fce", func := "blazon/blazonlaw19.EntryMay", spec := "entryMay", inPlace := ["internal/bytealg.abigen_runtime_cmpstring"], unfollowed := true, recurses := true, apart := false, narrowed := true }
def EntryMayUptoSaid : Prop := entryMayUptoRow.holds Try.pinned (OpenSpec.upto entryMaySpec)

/-- 'blazonlaw19.EntryChanges', WHERE WHAT IT READS IS OF BULK AT MOST 1048576: true; the input reads as it did. -/
def entryChangesUptoRow : OpenClaim := { program := "ytccnkcaagigceaa", sum := "859a025bc503b375c901d7d2f4e336b6a7bfd2b6d1338ae40660b62479c45fce", func := "blazon/blazonlaw19.EntryChanges", spec := "entryChanges", inPlace := ["internal/bytealg.abigen_runtime_cmpstring"], unfollowed := true, recurses := true, apart := false, narrowed := true }
def EntryChangesUptoSaid : Prop := entryChangesUptoRow.holds Try.pinned (OpenSpec.upto entryChangesSpec)

/-- 'blazonlaw19.EntryLooks', WHERE WHAT IT READS IS OF BULK AT MOST 1048576: true; the input reads as it did. -/
def entryLooksUptoRow : OpenClaim := { program := "ytccnkcaagigceaa", sum := "859a025bc503b375c901d7d2f4e336b6a7bfd2b6d1338ae40660b62479c45fce", func := "blazon/blazonlaw19.EntryLooks", spec := "entryLooks", inPlace := ["internal/bytealg.abigen_runtime_cmpstring"], unfollowed := true, recurses := true, apart := false, narrowed := true }
def EntryLooksUptoSaid : Prop := entryLooksUptoRow.holds Try.pinned (OpenSpec.upto entryLooksSpec)

/-- 'blazonlaw19.EntryMeans', WHERE WHAT IT READS IS OF BULK AT MOST 1048576: true; the input reads as it did. -/
def entryMeansUptoRow : OpenClaim := { program := "ytccnkcaagigceaa", sum := "859a025bc503b375c901d7d2f4e336b6a7bfd2b6d1338ae40660b62479c45fce", func := "blazon/blazonlaw19.EntryMeans", spec := "entryMeans", inPlace := ["internal/bytealg.abigen_runtime_cmpstring"], unfollowed := true, recurses := true, apart := false, narrowed := true }
def EntryMeansUptoSaid : Prop := entryMeansUptoRow.holds Try.pinned (OpenSpec.upto entryMeansSpec)

end Rows
end Go.Proofs.Ytccnkcaagigceaa
