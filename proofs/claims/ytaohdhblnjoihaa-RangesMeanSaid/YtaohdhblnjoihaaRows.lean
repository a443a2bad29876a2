/-
  No cell of these rows narrows 'for every input' (looked for: loops, veiled, ifaces, maps, wideKeys, modest, calm, conditions, laid).
  DERIVED. THE GIVEN ROWS OF THIS SEAT. 4 by the template 'for every input the law returns true; each argument reads behind the call as it read before'; 0 by the template 'total and deterministic' (their statements: YtaohdhblnjoihaaTotals.lean).
  GIVEN WITH THE SEED: the statements are not yours to turn. If you find one false, say at which input.
  Laid BY PROGRAM, IN A SANDBOX (cutbox-rows.mjs): the forced cells as the released guide's own fill.sh prints them over the translation 6afa0ce5c1727dcb… (all of the seat's roots in one cut). By AI agents, Wed Nov 11 2026. No macro, syntax, notation, axiom, sorry.
-/
import Derived.Test.YtaohdhblnjoihaaChecked
import GoSem.Claim
import GoSem.ClaimJoined
import GoSem.ClaimMapViews
import Derived.JoinedTies
import Derived.KernelRfl
namespace Go.Proofs.Ytaohdhblnjoihaa
/- THE CELL 'sum', in the pinned program and in every row, IS THE sha256 OF THE DUMP (.gsa) THAT YtaohdhblnjoihaaProg.lean LOADS. Nothing in Lean hashes anything: it is a label: what it is worth is what the hold of that sum in a sandbox is worth. -/
noncomputable def Try.pinned : Pinned := { name := "ytaohdhblnjoihaa", sum := "6afa0ce5c1727dcbef5ca5403f879370bd00ba498f3526312809a4699eab375a", checked := Try.checked }
namespace Rows
def none {H : Type} : Left H := { results := [], args := [] }

/-- 'blazonlaw04.RangesSplit': WHATEVER THE INPUT: true; the input reads as it did. -/
def rangesSplitSpec : ChangeSpec := { name := "rangesSplit", fn := fun _ => fun
  | [d1, d2, d3] => { results := [.lit (.bool true)], args := [d1, d2, d3] }
  | _ => none }
def rangesSplitRow : OpenClaim := { program := "ytaohdhblnjoihaa", sum := "6afa0ce5c1727dcbef5ca5403f879370bd00ba498f3526312809a4699eab375a", func := "blazon/blazonlaw04.RangesSplit", spec := "rangesSplit", unfollowed := true, recurses := true, apart := false }
def RangesSplitSaid : Prop := rangesSplitRow.holds Try.pinned (OpenSpec.ofChange rangesSplitSpec)

/-- ITS FALSE NEIGHBOUR: 'it returns false'. Refute it at one input. -/
def rangesSplitWrong : ChangeSpec := { name := "rangesSplit", fn := fun _ => fun
  | [d1, d2, d3] => { results := [.lit (.bool false)], args := [d1, d2, d3] }
  | _ => none }
def RangesSplitWrongFalsely : Prop := rangesSplitRow.holds Try.pinned (OpenSpec.ofChange rangesSplitWrong)

/-- 'blazonlaw04.RangesMean': WHATEVER THE INPUT: true; the input reads as it did. -/
def rangesMeanSpec : ChangeSpec := { name := "rangesMean", fn := fun _ => fun
  | [d1, d2] => { results := [.lit (.bool true)], args := [d1, d2] }
  | _ => none }
def rangesMeanRow : OpenClaim := { program := "ytaohdhblnjoihaa", sum := "6afa0ce5c1727dcbef5ca5403f879370bd00ba498f3526312809a4699eab375a", func := "blazon/blazonlaw04.RangesMean", spec := "rangesMean", unfollowed := true, recurses := true, apart := false }
def RangesMeanSaid : Prop := rangesMeanRow.holds Try.pinned (OpenSpec.ofChange rangesMeanSpec)

/-- ITS FALSE NEIGHBOUR: 'it returns false'. Refute it at one input. -/
def rangesMeanWrong : ChangeSpec := { name := "rangesMean", fn := fun _ => fun
  | [d1, d2] => { results := [.lit (.bool false)], args := [d1, d2] }
  | _ => none }
def RangesMeanWrongFalsely : Prop := rangesMeanRow.holds Try.pinned (OpenSpec.ofChange rangesMeanWrong)

/-- 'blazonlaw04.RangesMakes': WHATEVER THE INPUT: true; the input reads as it did. -/
def rangesMakesSpec : ChangeSpec := { name := "rangesMakes", fn := fun _ => fun
  | [d1, d2, d3, d4] => { results := [.lit (.bool true)], args := [d1, d2, d3, d4] }
  | _ => none }
def rangesMakesRow : OpenClaim := { program := "ytaohdhblnjoihaa", sum := "6afa0ce5c1727dcbef5ca5403f879370bd00ba498f3526312809a4699eab375a", func := "blazon/blazonlaw04.RangesMakes", spec := "rangesMakes", unfollowed := true, recurses := true, apart := false }
def RangesMakesSaid : Prop := rangesMakesRow.holds Try.pinned (OpenSpec.ofChange rangesMakesSpec)

/-- ITS FALSE NEIGHBOUR: 'it returns false'. Refute it at one input. -/
def rangesMakesWrong : ChangeSpec := { name := "rangesMakes", fn := fun _ => fun
  | [d1, d2, d3, d4] => { results := [.lit (.bool false)], args := [d1, d2, d3, d4] }
  | _ => none }
def RangesMakesWrongFalsely : Prop := rangesMakesRow.holds Try.pinned (OpenSpec.ofChange rangesMakesWrong)

/-- 'blazonlaw04.RangesNil': WHATEVER THE INPUT: true; the input reads as it did. -/
def rangesNilSpec : ChangeSpec := { name := "rangesNil", fn := fun _ => fun
  | [] => { results := [.lit (.bool true)], args := [] }
  | _ => none }
def rangesNilRow : OpenClaim := { program := "ytaohdhblnjoihaa", sum := "6afa0ce5c1727dcbef5ca5403f879370bd00ba498f3526312809a4699eab375a", func := "blazon/blazonlaw04.RangesNil", spec := "rangesNil", unfollowed := true, recurses := true, apart := false }
def RangesNilSaid : Prop := rangesNilRow.holds Try.pinned (OpenSpec.ofChange rangesNilSpec)

/-- ITS FALSE NEIGHBOUR: 'it returns false'. Refute it at one input. -/
def rangesNilWrong : ChangeSpec := { name := "rangesNil", fn := fun _ => fun
  | [] => { results := [.lit (.bool false)], args := [] }
  | _ => none }
def RangesNilWrongFalsely : Prop := rangesNilRow.holds Try.pinned (OpenSpec.ofChange rangesNilWrong)

/- THE SECOND FORM. 'bulk': how many values and letters a reading holds, each counted each time it is reached (what is shared counts as often as it is met; a slice's spare places count too). A statement '..UptoSaid' is the law's where the arguments, and the package variables that the reading takes, are together of bulk at most 1048576: NARROWER than '..Said'. Prove '..Said' where nothing that the law and all that it calls make is longer than what came in: it says more and counts as full. Else prove '..UptoSaid'. A law counts once. -/
mutual
def uptoBulk {H : Type} : DataW H → Nat
  | .lit (.string bytes) => bytes.length + 1
  | .lit _ => 1
  | .nil => 1
  | .ptr d => uptoBulk d + 1
  | .slice elems spare => uptoBulkAll elems + uptoBulkAll spare + 1
  | .agg parts => uptoBulkAll parts + 1
  | .iface _ d => uptoBulk d + 1
  | .map entries => uptoBulkEntries entries + 1
  | .held _ => 1
def uptoBulkAll {H : Type} : List (DataW H) → Nat
  | [] => 0
  | d :: r => uptoBulk d + uptoBulkAll r
def uptoBulkEntries {H : Type} : List (Lit × DataW H) → Nat
  | [] => 0
  | x :: r => uptoBulkEntry x + uptoBulkEntries r
def uptoBulkEntry {H : Type} : Lit × DataW H → Nat
  | (.string bytes, d) => bytes.length + uptoBulk d + 1
  | (_, d) => uptoBulk d + 1
 end
def uptoSmall : (H : Type) → List (DataW H) → Bool := fun _ ds => decide (uptoBulkAll ds ≤ 1048576)
def OpenSpec.upto (s : _root_.Go.ChangeSpec) : _root_.Go.OpenSpec := { _root_.Go.OpenSpec.ofChange s with cond := some uptoSmall }

/-- 'blazonlaw04.RangesSplit', WHERE WHAT IT READS IS OF BULK AT MOST 1048576: true; the input reads as it did. -/
def rangesSplitUptoRow : OpenClaim := { program := "ytaohdhblnjoihaa", sum := "6afa0ce5c1727dcbef5ca5403f879370bd00ba498f3526312809a4699eab375a", func := "blazon/blazonlaw04.RangesSplit", spec := "rangesSplit", unfollowed := true, recurses := true, apart := false, narrowed := true }
def RangesSplitUptoSaid : Prop := rangesSplitUptoRow.holds Try.pinned (OpenSpec.upto rangesSplitSpec)

/-- 'blazonlaw04.RangesMean', WHERE WHAT IT READS IS OF BULK AT MOST 1048576: true; the input reads as it did. -/
def rangesMeanUptoRow : OpenClaim := { program := "ytaohdhblnjoihaa", sum := "6afa0ce5c1727dcbef5ca5403f879370bd00ba498f3526312809a4699eab375a", func := "blazon/blazonlaw04.RangesMean", spec := "rangesMean", unfollowed := true, recurses := true, apart := false, narrowed := true }
def RangesMeanUptoSaid : Prop := rangesMeanUptoRow.holds Try.pinned (OpenSpec.upto rangesMeanSpec)

/-- 'blazonlaw04.RangesMakes', WHERE WHAT IT READS IS OF BULK AT MOST 1048576: true; the input reads as it did. -/
def rangesMakesUptoRow : OpenClaim := { program := "ytaohdhblnjoihaa", sum := "6afa0ce5c1727dcbef5ca5403f879370bd00ba498f3526312809a4699eab375a", func := "blazon/blazonlaw04.RangesMakes", spec := "rangesMakes", unfollowed := true, recurses := true, apart := false, narrowed := true }
def RangesMakesUptoSaid : Prop := rangesMakesUptoRow.holds Try.pinned (OpenSpec.upto rangesMakesSpec)

/-- 'blazonlaw04.RangesNil', WHERE WHAT IT READS IS OF BULK AT MOST 1048576: true; the input reads as it did. -/
def rangesNilUptoRow : OpenClaim := { program := "ytaohdhblnjoihaa", sum := "6afa0ce5c1727dcbef5ca5403f879370bd00ba498f3526312809a4699eab375a", func := "blazon/blazonlaw04.RangesNil", spec := "rangesNil", unfollowed := true, recurses := true, apart := false, narrowed := true }
def RangesNilUptoSaid : Prop := rangesNilUptoRow.holds Try.pinned (OpenSpec.upto rangesNilSpec)

end Rows
end Go.Proofs.Ytaohdhblnjoihaa
