/-
  No cell of these rows narrows 'for every input' (looked for: loops, veiled, ifaces, maps, wideKeys, modest, calm, conditions, laid).
  DERIVED. THE GIVEN ROWS OF THIS SEAT. 3 by the template 'for every input the law returns true; each argument reads behind the call as it read before'; 0 by the template 'total and deterministic' (their statements: YtiojlpjpihmgdaaTotals.lean).
  GIVEN WITH THE SEED: the statements are not yours to turn. If you find one false, say at which input.
  Laid BY PROGRAM, IN A SANDBOX (cutbox-rows.mjs): the forced cells as the released guide's own fill.sh prints them over the translation fa7058222ce9d60f… (all of the seat's roots in one cut). By AI agents, Wed Nov 11 2026. No macro, syntax, notation, axiom, sorry.
-/
import Derived.Test.YtiojlpjpihmgdaaChecked
import GoSem.Claim
import GoSem.ClaimJoined
import GoSem.ClaimMapViews
import Derived.JoinedTies
import Derived.KernelRfl
namespace Go.Proofs.Ytiojlpjpihmgdaa
/- THE CELL 'sum', in the pinned program and in every row, IS THE sha256 OF THE DUMP (.gsa) THAT YtiojlpjpihmgdaaProg.lean LOADS. Nothing in Lean hashes anything: it is a label: what it is worth is what the hold of that sum in a sandbox is worth. -/
noncomputable def Try.pinned : Pinned := { name := "ytiojlpjpihmgdaa", sum := "fa7058222ce9d60fc0f9aaab05ed8e490aadc32615005ad6903a47be621380d1", checked := Try.checked }
namespace Rows
def none {H : Type} : Left H := { results := [], args := [] }

/-- 'blazonlaw15.WeighWalk': WHATEVER THE INPUT: true; the input reads as it did. -/
def weighWalkSpec : ChangeSpec := { name := "weighWalk", fn := fun _ => fun
  | [d1, d2, d3] => { results := [.lit (.bool true)], args := [d1, d2, d3] }
  | _ => none }
def weighWalkRow : OpenClaim := { program := "ytiojlpjpihmgdaa", sum := "fa7058222ce9d60fc0f9aaab05ed8e490aadc32615005ad6903a47be621380d1", func := "blazon/blazonlaw15.WeighWalk", spec := "weighWalk", unfollowed := true, recurses := true, apart := false }
def WeighWalkSaid : Prop := weighWalkRow.holds Try.pinned (OpenSpec.ofChange weighWalkSpec)

/-- ITS FALSE NEIGHBOUR: 'it returns false'. Refute it at one input. -/
def weighWalkWrong : ChangeSpec := { name := "weighWalk", fn := fun _ => fun
  | [d1, d2, d3] => { results := [.lit (.bool false)], args := [d1, d2, d3] }
  | _ => none }
def WeighWalkWrongFalsely : Prop := weighWalkRow.holds Try.pinned (OpenSpec.ofChange weighWalkWrong)

/-- 'blazonlaw15.WeighParts': WHATEVER THE INPUT: true; the input reads as it did. -/
def weighPartsSpec : ChangeSpec := { name := "weighParts", fn := fun _ => fun
  | [d1, d2, d3, d4] => { results := [.lit (.bool true)], args := [d1, d2, d3, d4] }
  | _ => none }
def weighPartsRow : OpenClaim := { program := "ytiojlpjpihmgdaa", sum := "fa7058222ce9d60fc0f9aaab05ed8e490aadc32615005ad6903a47be621380d1", func := "blazon/blazonlaw15.WeighParts", spec := "weighParts", unfollowed := true, recurses := true, apart := false }
def WeighPartsSaid : Prop := weighPartsRow.holds Try.pinned (OpenSpec.ofChange weighPartsSpec)

/-- ITS FALSE NEIGHBOUR: 'it returns false'. Refute it at one input. -/
def weighPartsWrong : ChangeSpec := { name := "weighParts", fn := fun _ => fun
  | [d1, d2, d3, d4] => { results := [.lit (.bool false)], args := [d1, d2, d3, d4] }
  | _ => none }
def WeighPartsWrongFalsely : Prop := weighPartsRow.holds Try.pinned (OpenSpec.ofChange weighPartsWrong)

/-- 'blazonlaw15.WeighOf': WHATEVER THE INPUT: true; the input reads as it did. -/
def weighOfSpec : ChangeSpec := { name := "weighOf", fn := fun _ => fun
  | [d1, d2] => { results := [.lit (.bool true)], args := [d1, d2] }
  | _ => none }
def weighOfRow : OpenClaim := { program := "ytiojlpjpihmgdaa", sum := "fa7058222ce9d60fc0f9aaab05ed8e490aadc32615005ad6903a47be621380d1", func := "blazon/blazonlaw15.WeighOf", spec := "weighOf", unfollowed := true, recurses := true, apart := false }
def WeighOfSaid : Prop := weighOfRow.holds Try.pinned (OpenSpec.ofChange weighOfSpec)

/-- ITS FALSE NEIGHBOUR: 'it returns false'. Refute it at one input. -/
def weighOfWrong : ChangeSpec := { name := "weighOf", fn := fun _ => fun
  | [d1, d2] => { results := [.lit (.bool false)], args := [d1, d2] }
  | _ => none }
def WeighOfWrongFalsely : Prop := weighOfRow.holds Try.pinned (OpenSpec.ofChange weighOfWrong)

/- THE SECOND FORM. 'bulk': how many values and letters a reading holds, each counted each time it is reached (what is shared counts as often as it is met; a slice's spare places count too). A statement '..UptoSaid' is the law's where the arguments, and the package variables that the reading takes, are together of bulk at most 1048576: NARROWER than '..Said'. Prove '..Said' where nothing that the law and all that it calls make is longer than what came in: it says more and counts as full. Else prove '..UptoSaid'. A law counts once. -/
mutual
def uptoBulk {H : Type} : DataW H → Nat
  | .lit (.string bytes) => bytes.length + 1
  | .lit _ => 1
  | .nil => 1
  | .ptr d => uptoBulk d + 1
  | .slice elems spare => uptoBulkAll elems + uptoBulkAll spare + 1
  | .agg parts => uptoBulkAll parts + 1
  | .iface _ d => uptoBulk d + 1
  | .map entries => uptoBulkEntries entries + 1
  | .held _ => 1
def uptoBulkAll {H : Type} : List (DataW H) → Nat
  | [] => 0
  | d :: r => uptoBulk d + uptoBulkAll r
def uptoBulkEntries {H : Type} : List (Lit × DataW H) → Nat
  | [] => 0
  | x :: r => uptoBulkEntry x + uptoBulkEntries r
def uptoBulkEntry {H : Type} : Lit × DataW H → Nat
  | (.string bytes, d) => bytes.length + uptoBulk d + 1
  | (_, d) => uptoBulk d + 1
 end
def uptoSmall : (H : Type) → List (DataW H) → Bool := fun _ ds => decide (uptoBulkAll ds ≤ 1048576)
def OpenSpec.upto (s : _root_.Go.ChangeSpec) : _root_.Go.OpenSpec := { _root_.Go.OpenSpec.ofChange s with cond := some uptoSmall }

/-- 'blazonlaw15.WeighWalk', WHERE WHAT IT READS IS OF BULK AT MOST 1048576: true; the input reads as it did. -/
def weighWalkUptoRow : OpenClaim := { program := "ytiojlpjpihmgdaa", sum := "fa7058222ce9d60fc0f9aaab05ed8e490aadc32615005ad6903a47be621380d1", func := "blazon/blazonlaw15.WeighWalk", spec := "weighWalk", unfollowed := true, recurses := true, apart := false, narrowed := true }
def WeighWalkUptoSaid : Prop := weighWalkUptoRow.holds Try.pinned (OpenSpec.upto weighWalkSpec)

/-- 'blazonlaw15.WeighParts', WHERE WHAT IT READS IS OF BULK AT MOST 1048576: true; the input reads as it did. -/
def weighPartsUptoRow : OpenClaim := { program := "ytiojlpjpihmgdaa", sum := "fa7058222ce9d60fc0f9aaab05ed8e490aadc32615005ad6903a47be621380d1", func := "blazon/blazonlaw15.WeighParts", spec := "weighParts", unfollowed := true, recurses := true, apart := false, narrowed := true }
def WeighPartsUptoSaid : Prop := weighPartsUptoRow.holds Try.pinned (OpenSpec.upto weighPartsSpec)

/-- 'blazonlaw15.WeighOf', WHERE WHAT IT READS IS OF BULK AT MOST 1048576: true; the input reads as it did. -/
def weighOfUptoRow : OpenClaim := { program := "ytiojlpjpihmgdaa", sum := "fa7058222ce9d60fc0f9aaab05ed8e490aadc32615005ad6903a47be621380d1", func := "blazon/blazonlaw15.WeighOf", spec := "weighOf", unfollowed := true, recurses := true, apart := false, narrowed := true }
def WeighOfUptoSaid : Prop := weighOfUptoRow.holds Try.pinned (OpenSpec.upto weighOfSpec)

end Rows
end Go.Proofs.Ytiojlpjpihmgdaa
