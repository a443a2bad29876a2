/-
  No cell of these rows narrows 'for every input' (looked for: loops, veiled, ifaces, maps, wideKeys, modest, calm, conditions, laid).
  DERIVED. THE GIVEN ROWS OF THIS SEAT. 4 by the template 'for every input the law returns true; each argument reads behind the call as it read before'; 0 by the template 'total and deterministic' (their statements: YtmalclclopnlnaaGreatTotals.lean).
  GIVEN WITH THE SEED: the statements are not yours to turn. If you find one false, say at which input.
  Laid BY PROGRAM, IN A SANDBOX (cutbox-rows.mjs): the forced cells as the released guide's own fill.sh prints them over the translation 8eb59471eb41aa1e… (all of the seat's roots in one cut). By AI agents, Wed Nov 11 2026. No macro, syntax, notation, axiom, sorry.
-/
import Derived.Test.YtmalclclopnlnaaGreatChecked
import GoSem.Claim
import GoSem.ClaimJoined
import GoSem.ClaimMapViews
import Derived.JoinedTies
import Derived.KernelRfl
namespace Go.Proofs.YtmalclclopnlnaaGreat
/- THE CELL 'sum', in the pinned program and in every row, IS THE sha256 OF THE DUMP (.gsa) THAT YtmalclclopnlnaaGreatProg.lean LOADS. Nothing in Lean hashes anything: it is a label: what it is worth is what the hold of that sum in a sandbox is worth. -/
noncomputable def Tryz.pinned : Pinned := { name := "ytmalclclopnlnaagreat", sum := "8eb59471eb41aa1e01a39d639fd5738408fbfdb82939035d20a355d2a0dfe2b8", checked := Tryz.checked }
namespace Rows
def none {H : Type} : Left H := { results := [], args := [] }

/-- 'blazonlaw25.ClientsRise': WHATEVER THE INPUT: true; the input reads as it did. -/
def clientsRiseSpec : ChangeSpec := { name := "clientsRise", fn := fun _ => fun
  | [d1, d2, d3] => { results := [.lit (.bool true)], args := [d1, d2, d3] }
  | _ => none }
def clientsRiseRow : OpenClaim := { program := "ytmalclclopnlnaagreat", sum := "8eb59471eb41aa1e01a39d639fd5738408fbfdb82939035d20a355d2a0dfe2b8", func := "blazon/blazonlaw25.ClientsRise", spec := "clientsRise", inPlace := ["internal/bytealg.abigen_runtime_cmpstring", "maps.clone"], unfollowed := true, recurses := true, apart := false }
def ClientsRiseSaid : Prop := clientsRiseRow.holds Tryz.pinned (OpenSpec.ofChange clientsRiseSpec)

/-- ITS FALSE NEIGHBOUR: 'it returns false'. Refute it at one input. -/
def clientsRiseWrong : ChangeSpec := { name := "clientsRise", fn := fun _ => fun
  | [d1, d2, d3] => { results := [.lit (.bool false)], args := [d1, d2, d3] }
  | _ => none }
def ClientsRiseWrongFalsely : Prop := clientsRiseRow.holds Tryz.pinned (OpenSpec.ofChange clientsRiseWrong)

/-- 'blazonlaw25.ClientsPlay': WHATEVER THE INPUT: true; the input reads as it did. -/
def clientsPlaySpec : ChangeSpec := { name := "clientsPlay", fn := fun _ => fun
  | [d1, d2] => { results := [.lit (.bool true)], args := [d1, d2] }
  | _ => none }
def clientsPlayRow : OpenClaim := { program := "ytmalclclopnlnaagreat", sum := "8eb59471eb41aa1e01a39d639fd5738408fbfdb82939035d20a355d2a0dfe2b8", func := "blazon/blazonlaw25.ClientsPlay", spec := "clientsPlay", inPlace := ["internal/bytealg.abigen_runtime_cmpstring", "maps.clone"], unfollowed := true, recurses := true, apart := false }
def ClientsPlaySaid : Prop := clientsPlayRow.holds Tryz.pinned (OpenSpec.ofChange clientsPlaySpec)

/-- ITS FALSE NEIGHBOUR: 'it returns false'. Refute it at one input. -/
def clientsPlayWrong : ChangeSpec := { name := "clientsPlay", fn := fun _ => fun
  | [d1, d2] => { results := [.lit (.bool false)], args := [d1, d2] }
  | _ => none }
def ClientsPlayWrongFalsely : Prop := clientsPlayRow.holds Tryz.pinned (OpenSpec.ofChange clientsPlayWrong)

/-- 'blazonlaw25.ClientsNil': WHATEVER THE INPUT: true; the input reads as it did. -/
def clientsNilSpec : ChangeSpec := { name := "clientsNil", fn := fun _ => fun
  | [] => { results := [.lit (.bool true)], args := [] }
  | _ => none }
def clientsNilRow : OpenClaim := { program := "ytmalclclopnlnaagreat", sum := "8eb59471eb41aa1e01a39d639fd5738408fbfdb82939035d20a355d2a0dfe2b8", func := "blazon/blazonlaw25.ClientsNil", spec := "clientsNil", inPlace := ["internal/bytealg.abigen_runtime_cmpstring", "maps.clone"], unfollowed := true, recurses := true, apart := false }
def ClientsNilSaid : Prop := clientsNilRow.holds Tryz.pinned (OpenSpec.ofChange clientsNilSpec)

/-- ITS FALSE NEIGHBOUR: 'it returns false'. Refute it at one input. -/
def clientsNilWrong : ChangeSpec := { name := "clientsNil", fn := fun _ => fun
  | [] => { results := [.lit (.bool false)], args := [] }
  | _ => none }
def ClientsNilWrongFalsely : Prop := clientsNilRow.holds Tryz.pinned (OpenSpec.ofChange clientsNilWrong)

/-- 'blazonlaw25.ClientsBytes': WHATEVER THE INPUT: true; the input reads as it did. -/
def clientsBytesSpec : ChangeSpec := { name := "clientsBytes", fn := fun _ => fun
  | [d1, d2, d3, d4, d5] => { results := [.lit (.bool true)], args := [d1, d2, d3, d4, d5] }
  | _ => none }
def clientsBytesRow : OpenClaim := { program := "ytmalclclopnlnaagreat", sum := "8eb59471eb41aa1e01a39d639fd5738408fbfdb82939035d20a355d2a0dfe2b8", func := "blazon/blazonlaw25.ClientsBytes", spec := "clientsBytes", inPlace := ["internal/bytealg.abigen_runtime_cmpstring", "maps.clone"], unfollowed := true, recurses := true, apart := false }
def ClientsBytesSaid : Prop := clientsBytesRow.holds Tryz.pinned (OpenSpec.ofChange clientsBytesSpec)

/-- ITS FALSE NEIGHBOUR: 'it returns false'. Refute it at one input. -/
def clientsBytesWrong : ChangeSpec := { name := "clientsBytes", fn := fun _ => fun
  | [d1, d2, d3, d4, d5] => { results := [.lit (.bool false)], args := [d1, d2, d3, d4, d5] }
  | _ => none }
def ClientsBytesWrongFalsely : Prop := clientsBytesRow.holds Tryz.pinned (OpenSpec.ofChange clientsBytesWrong)

/- THE SECOND FORM. 'bulk': how many values and letters a reading holds, each counted each time it is reached (what is shared counts as often as it is met; a slice's spare places count too). A statement '..UptoSaid' is the law's where the arguments, and the package variables that the reading takes, are together of bulk at most 1048576: NARROWER than '..Said'. Prove '..Said' where nothing that the law and all that it calls make is longer than what came in: it says more and counts as full. Else prove '..UptoSaid'. A law counts once. -/
mutual
def uptoBulk {H : Type} : DataW H → Nat
  | .lit (.string bytes) => bytes.length + 1
  | .lit _ => 1
  | .nil => 1
  | .ptr d => uptoBulk d + 1
  | .slice elems spare => uptoBulkAll elems + uptoBulkAll spare + 1
  | .agg parts => uptoBulkAll parts + 1
  | .iface _ d => uptoBulk d + 1
  | .map entries => uptoBulkEntries entries + 1
  | .held _ => 1
def uptoBulkAll {H : Type} : List (DataW H) → Nat
  | [] => 0
  | d :: r => uptoBulk d + uptoBulkAll r
def uptoBulkEntries {H : Type} : List (Lit × DataW H) → Nat
  | [] => 0
  | x :: r => uptoBulkEntry x + uptoBulkEntries r
def uptoBulkEntry {H : Type} : Lit × DataW H → Nat
  | (.string bytes, d) => bytes.length + uptoBulk d + 1
  | (_, d) => uptoBulk d + 1
 end
def uptoSmall : (H : Type) → List (DataW H) → Bool := fun _ ds => decide (uptoBulkAll ds ≤ 1048576)
def OpenSpec.upto (s : _root_.Go.ChangeSpec) : _root_.Go.OpenSpec := { _root_.Go.OpenSpec.ofChange s with cond := some uptoSmall }

/-- 'blazonlaw25.ClientsRise', WHERE WHAT IT READS IS OF BULK AT MOST 1048576: true; the input reads as it did. -/
def clientsRiseUptoRow : OpenClaim := { program := "ytmalclclopnlnaagreat", sum := "8eb59471eb41aa1e01a39d639fd5738408fbfdb82939035d20a355d2a0dfe2b8", func := "blazon/blazonlaw25.ClientsRise", spec := "clientsRise", inPlace := ["internal/bytealg.abigen_runtime_cmpstring", "maps.clone"], unfollowed := true, recurses := true, apart := false, narrowed := true }
def ClientsRiseUptoSaid : Prop := clientsRiseUptoRow.holds Tryz.pinned (OpenSpec.upto clientsRiseSpec)

/-- 'blazonlaw25.ClientsPlay', WHERE WHAT IT READS IS OF BULK AT MOST 1048576: true; the input reads as it did. -/
def clientsPlayUptoRow : OpenClaim := { program := "ytmalclclopnlnaagreat", sum := "8eb59471eb41aa1e01a39d639fd5738408fbfdb82939035d20a355d2a0dfe2b8", func := "blazon/blazonlaw25.ClientsPlay", spec := "clientsPlay", inPlace := ["internal/bytealg.abigen_runtime_cmpstring", "maps.clone"], unfollowed := true, recurses := true, apart := false, narrowed := true }
def ClientsPlayUptoSaid : Prop := clientsPlayUptoRow.holds Tryz.pinned (OpenSpec.upto clientsPlaySpec)

/-- 'blazonlaw25.ClientsNil', WHERE WHAT IT READS IS OF BULK AT MOST 1048576: true; the input reads as it did. -/
def clientsNilUptoRow : OpenClaim := { program := "ytmalclclopnlnaagreat", sum := "8eb59471eb41aa1e01a39d639fd5738408fbfdb82939035d20a355d2a0dfe2b8", func := "blazon/blazonlaw25.ClientsNil", spec := "clientsNil", inPlace := ["internal/bytealg.abigen_runtime_cmpstring", "maps.clone"], unfollowed := true, recurses := true, apart := false, narrowed := true }
def ClientsNilUptoSaid : Prop := clientsNilUptoRow.holds Tryz.pinned (OpenSpec.upto clientsNilSpec)

/-- 'blazonlaw25.ClientsBytes', WHERE WHAT IT READS IS OF BULK AT MOST 1048576: true; the input reads as it did. -/
def clientsBytesUptoRow : OpenClaim := { program := "ytmalclclopnlnaagreat", sum := "8eb59471eb41aa1e01a39d639fd5738408fbfdb82939035d20a355d2a0dfe2b8", func := "blazon/blazonlaw25.ClientsBytes", spec := "clientsBytes", inPlace := ["internal/bytealg.abigen_runtime_cmpstring", "maps.clone"], unfollowed := true, recurses := true, apart := false, narrowed := true }
def ClientsBytesUptoSaid : Prop := clientsBytesUptoRow.holds Tryz.pinned (OpenSpec.upto clientsBytesSpec)

end Rows
end Go.Proofs.YtmalclclopnlnaaGreat
