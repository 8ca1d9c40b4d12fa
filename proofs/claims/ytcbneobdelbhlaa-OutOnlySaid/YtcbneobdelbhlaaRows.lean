/-
  No cell of these rows narrows 'for every input' (looked for: loops, veiled, ifaces, maps, wideKeys, modest, calm, conditions, laid).
  DERIVED. THE GIVEN ROWS OF THIS SEAT. 6 by the template 'for every input the law returns true; each argument reads behind the call as it read before'; 0 by the template 'total and deterministic' (their statements: YtcbneobdelbhlaaTotals.lean).
  GIVEN WITH THE SEED: the statements are not yours to turn. If you find one false, say at which input.
  Laid BY PROGRAM, IN A SANDBOX (cutbox-rows.mjs): the forced cells as the released guide's own fill.sh prints them over the translation 8f1cd1669c23e4aa… (all of the seat's roots in one cut). By AI agents, Wed Nov 11 2026. No macro, syntax, notation, axiom, sorry.
-/
import Derived.Test.YtcbneobdelbhlaaChecked
import GoSem.Claim
import GoSem.ClaimJoined
import GoSem.ClaimMapViews
import Derived.JoinedTies
import Derived.KernelRfl
namespace Go.Proofs.Ytcbneobdelbhlaa
/- THE CELL 'sum', in the pinned program and in every row, IS THE sha256 OF THE DUMP (.gsa) THAT YtcbneobdelbhlaaProg.lean LOADS. Nothing in Lean hashes anything: it is a label: what it is worth is what the hold of that sum in a sandbox is worth. -/
noncomputable def Try.pinned : Pinned := { name := "ytcbneobdelbhlaa", sum := "8f1cd1669c23e4aa489f9d582116806d0387ab24ea40a2ebe7e3bfdbe6e4688c", checked := Try.checked }
namespace Rows
def none {H : Type} : Left H := { results := [], args := [] }

/-- 'stragglelaw02.PlaneSquares': WHATEVER THE INPUT: true; the input reads as it did. -/
def planeSquaresSpec : ChangeSpec := { name := "planeSquares", fn := fun _ => fun
  | [d1, d2, d3, d4] => { results := [.lit (.bool true)], args := [d1, d2, d3, d4] }
  | _ => none }
def planeSquaresRow : OpenClaim := { program := "ytcbneobdelbhlaa", sum := "8f1cd1669c23e4aa489f9d582116806d0387ab24ea40a2ebe7e3bfdbe6e4688c", func := "straggle/stragglelaw02.PlaneSquares", spec := "planeSquares", inPlace := ["math.Float64bits", "math.Float64frombits", "math.archTrunc"], unfollowed := true, recurses := true, apart := false }
def PlaneSquaresSaid : Prop := planeSquaresRow.holds Try.pinned (OpenSpec.ofChange planeSquaresSpec)

/-- ITS FALSE NEIGHBOUR: 'it returns false'. Refute it at one input. -/
def planeSquaresWrong : ChangeSpec := { name := "planeSquares", fn := fun _ => fun
  | [d1, d2, d3, d4] => { results := [.lit (.bool false)], args := [d1, d2, d3, d4] }
  | _ => none }
def PlaneSquaresWrongFalsely : Prop := planeSquaresRow.holds Try.pinned (OpenSpec.ofChange planeSquaresWrong)

/-- 'stragglelaw05.WireOnly': WHATEVER THE INPUT: true; the input reads as it did. -/
def wireOnlySpec : ChangeSpec := { name := "wireOnly", fn := fun _ => fun
  | [d] => { results := [.lit (.bool true)], args := [d] }
  | _ => none }
def wireOnlyRow : OpenClaim := { program := "ytcbneobdelbhlaa", sum := "8f1cd1669c23e4aa489f9d582116806d0387ab24ea40a2ebe7e3bfdbe6e4688c", func := "straggle/stragglelaw05.WireOnly", spec := "wireOnly", inPlace := ["math.Float64bits", "math.Float64frombits", "math.archTrunc"], unfollowed := true, recurses := true, apart := false }
def WireOnlySaid : Prop := wireOnlyRow.holds Try.pinned (OpenSpec.ofChange wireOnlySpec)

/-- ITS FALSE NEIGHBOUR: 'it returns false'. Refute it at one input. -/
def wireOnlyWrong : ChangeSpec := { name := "wireOnly", fn := fun _ => fun
  | [d] => { results := [.lit (.bool false)], args := [d] }
  | _ => none }
def WireOnlyWrongFalsely : Prop := wireOnlyRow.holds Try.pinned (OpenSpec.ofChange wireOnlyWrong)

/-- 'stragglelaw06.SplitWhole': WHATEVER THE INPUT: true; the input reads as it did. -/
def splitWholeSpec : ChangeSpec := { name := "splitWhole", fn := fun _ => fun
  | [d] => { results := [.lit (.bool true)], args := [d] }
  | _ => none }
def splitWholeRow : OpenClaim := { program := "ytcbneobdelbhlaa", sum := "8f1cd1669c23e4aa489f9d582116806d0387ab24ea40a2ebe7e3bfdbe6e4688c", func := "straggle/stragglelaw06.SplitWhole", spec := "splitWhole", inPlace := ["math.Float64bits", "math.Float64frombits", "math.archTrunc"], unfollowed := true, recurses := true, apart := false }
def SplitWholeSaid : Prop := splitWholeRow.holds Try.pinned (OpenSpec.ofChange splitWholeSpec)

/-- ITS FALSE NEIGHBOUR: 'it returns false'. Refute it at one input. -/
def splitWholeWrong : ChangeSpec := { name := "splitWhole", fn := fun _ => fun
  | [d] => { results := [.lit (.bool false)], args := [d] }
  | _ => none }
def SplitWholeWrongFalsely : Prop := splitWholeRow.holds Try.pinned (OpenSpec.ofChange splitWholeWrong)

/-- 'stragglelaw06.SplitParts': WHATEVER THE INPUT: true; the input reads as it did. -/
def splitPartsSpec : ChangeSpec := { name := "splitParts", fn := fun _ => fun
  | [d1, d2] => { results := [.lit (.bool true)], args := [d1, d2] }
  | _ => none }
def splitPartsRow : OpenClaim := { program := "ytcbneobdelbhlaa", sum := "8f1cd1669c23e4aa489f9d582116806d0387ab24ea40a2ebe7e3bfdbe6e4688c", func := "straggle/stragglelaw06.SplitParts", spec := "splitParts", inPlace := ["math.Float64bits", "math.Float64frombits", "math.archTrunc"], unfollowed := true, recurses := true, apart := false }
def SplitPartsSaid : Prop := splitPartsRow.holds Try.pinned (OpenSpec.ofChange splitPartsSpec)

/-- ITS FALSE NEIGHBOUR: 'it returns false'. Refute it at one input. -/
def splitPartsWrong : ChangeSpec := { name := "splitParts", fn := fun _ => fun
  | [d1, d2] => { results := [.lit (.bool false)], args := [d1, d2] }
  | _ => none }
def SplitPartsWrongFalsely : Prop := splitPartsRow.holds Try.pinned (OpenSpec.ofChange splitPartsWrong)

/-- 'stragglelaw06.SplitBad': WHATEVER THE INPUT: true; the input reads as it did. -/
def splitBadSpec : ChangeSpec := { name := "splitBad", fn := fun _ => fun
  | [d] => { results := [.lit (.bool true)], args := [d] }
  | _ => none }
def splitBadRow : OpenClaim := { program := "ytcbneobdelbhlaa", sum := "8f1cd1669c23e4aa489f9d582116806d0387ab24ea40a2ebe7e3bfdbe6e4688c", func := "straggle/stragglelaw06.SplitBad", spec := "splitBad", inPlace := ["math.Float64bits", "math.Float64frombits", "math.archTrunc"], unfollowed := true, recurses := true, apart := false }
def SplitBadSaid : Prop := splitBadRow.holds Try.pinned (OpenSpec.ofChange splitBadSpec)

/-- ITS FALSE NEIGHBOUR: 'it returns false'. Refute it at one input. -/
def splitBadWrong : ChangeSpec := { name := "splitBad", fn := fun _ => fun
  | [d] => { results := [.lit (.bool false)], args := [d] }
  | _ => none }
def SplitBadWrongFalsely : Prop := splitBadRow.holds Try.pinned (OpenSpec.ofChange splitBadWrong)

/-- 'stragglelaw28.OutOnly': WHATEVER THE INPUT: true; the input reads as it did. -/
def outOnlySpec : ChangeSpec := { name := "outOnly", fn := fun _ => fun
  | [d] => { results := [.lit (.bool true)], args := [d] }
  | _ => none }
def outOnlyRow : OpenClaim := { program := "ytcbneobdelbhlaa", sum := "8f1cd1669c23e4aa489f9d582116806d0387ab24ea40a2ebe7e3bfdbe6e4688c", func := "straggle/stragglelaw28.OutOnly", spec := "outOnly", inPlace := ["math.Float64bits", "math.Float64frombits", "math.archTrunc"], unfollowed := true, recurses := true, apart := false }
def OutOnlySaid : Prop := outOnlyRow.holds Try.pinned (OpenSpec.ofChange outOnlySpec)

/-- ITS FALSE NEIGHBOUR: 'it returns false'. Refute it at one input. -/
def outOnlyWrong : ChangeSpec := { name := "outOnly", fn := fun _ => fun
  | [d] => { results := [.lit (.bool false)], args := [d] }
  | _ => none }
def OutOnlyWrongFalsely : Prop := outOnlyRow.holds Try.pinned (OpenSpec.ofChange outOnlyWrong)

/- THE SECOND FORM. 'bulk': how many values and letters a reading holds, each counted each time it is reached (what is shared counts as often as it is met; a slice's spare places count too). A statement '..UptoSaid' is the law's where the arguments, and the package variables that the reading takes, are together of bulk at most 1048576: NARROWER than '..Said'. Prove '..Said' where nothing that the law and all that it calls make is longer than what came in: it says more and counts as full. Else prove '..UptoSaid'. A law counts once. -/
mutual
def uptoBulk {H : Type} : DataW H → Nat
  | .lit (.string bytes) => bytes.length + 1
  | .lit _ => 1
  | .nil => 1
  | .ptr d => uptoBulk d + 1
  | .slice elems spare => uptoBulkAll elems + uptoBulkAll spare + 1
  | .agg parts => uptoBulkAll parts + 1
  | .iface _ d => uptoBulk d + 1
  | .map entries => uptoBulkEntries entries + 1
  | .held _ => 1
def uptoBulkAll {H : Type} : List (DataW H) → Nat
  | [] => 0
  | d :: r => uptoBulk d + uptoBulkAll r
def uptoBulkEntries {H : Type} : List (Lit × DataW H) → Nat
  | [] => 0
  | x :: r => uptoBulkEntry x + uptoBulkEntries r
def uptoBulkEntry {H : Type} : Lit × DataW H → Nat
  | (.string bytes, d) => bytes.length + uptoBulk d + 1
  | (_, d) => uptoBulk d + 1
 end
def uptoSmall : (H : Type) → List (DataW H) → Bool := fun _ ds => decide (uptoBulkAll ds ≤ 1048576)
def OpenSpec.upto (s : _root_.Go.ChangeSpec) : _root_.Go.OpenSpec := { _root_.Go.OpenSpec.ofChange s with cond := some uptoSmall }

/-- 'stragglelaw02.PlaneSquares', WHERE WHAT IT READS IS OF BULK AT MOST 1048576: true; the input reads as it did. -/
def planeSquaresUptoRow : OpenClaim := { program := "ytcbneobdelbhlaa", sum := "8f1cd1669c23e4aa489f9d582116806d0387ab24ea40a2ebe7e3bfdbe6e4688c", func := "straggle/stragglelaw02.PlaneSquares", spec := "planeSquares", inPlace := ["math.Float64bits", "math.Float64frombits", "math.archTrunc"], unfollowed := true, recurses := true, apart := false, narrowed := true }
def PlaneSquaresUptoSaid : Prop := planeSquaresUptoRow.holds Try.pinned (OpenSpec.upto planeSquaresSpec)

/-- 'stragglelaw05.WireOnly', WHERE WHAT IT READS IS OF BULK AT MOST 1048576: true; the input reads as it did. -/
def wireOnlyUptoRow : OpenClaim := { program := "ytcbneobdelbhlaa", sum := "8f1cd1669c23e4aa489f9d582116806d0387ab24ea40a2ebe7e3bfdbe6e4688c", func := "straggle/stragglelaw05.WireOnly", spec := "wireOnly", inPlace := ["math.Float64bits", "math.Float64frombits", "math.archTrunc"], unfollowed := true, recurses := true, apart := false, narrowed := true }
def WireOnlyUptoSaid : Prop := wireOnlyUptoRow.holds Try.pinned (OpenSpec.upto wireOnlySpec)

/-- 'stragglelaw06.SplitWhole', WHERE WHAT IT READS IS OF BULK AT MOST 1048576: true; the input reads as it did. -/
def splitWholeUptoRow : OpenClaim := { program := "ytcbneobdelbhlaa", sum := "8f1cd1669c23e4aa489f9d582116806d0387ab24ea40a2ebe7e3bfdbe6e4688c", func := "straggle/stragglelaw06.SplitWhole", spec := "splitWhole", inPlace := ["math.Float64bits", "math.Float64frombits", "math.archTrunc"], unfollowed := true, recurses := true, apart := false, narrowed := true }
def SplitWholeUptoSaid : Prop := splitWholeUptoRow.holds Try.pinned (OpenSpec.upto splitWholeSpec)

/-- 'stragglelaw06.SplitParts', WHERE WHAT IT READS IS OF BULK AT MOST 1048576: true; the input reads as it did. -/
def splitPartsUptoRow : OpenClaim := { program := "ytcbneobdelbhlaa", sum := "8f1cd1669c23e4aa489f9d582116806d0387ab24ea40a2ebe7e3bfdbe6e4688c", func := "straggle/stragglelaw06.SplitParts", spec := "splitParts", inPlace := ["math.Float64bits", "math.Float64frombits", "math.archTrunc"], unfollowed := true, recurses := true, apart := false, narrowed := true }
def SplitPartsUptoSaid : Prop := splitPartsUptoRow.holds Try.pinned (OpenSpec.upto splitPartsSpec)

/-- 'stragglelaw06.SplitBad', WHERE WHAT IT READS IS OF BULK AT MOST 1048576: true; the input reads as it did. -/
def splitBadUptoRow : OpenClaim := { program := "ytcbneobdelbhlaa", sum := "8f1cd1669c23e4aa489f9d582116806d0387ab24ea40a2ebe7e3bfdbe6e4688c", func := "straggle/stragglelaw06.SplitBad", spec := "splitBad", inPlace := ["math.Float64bits", "math.Float64frombits", "math.archTrunc"], unfollowed := true, recurses := true, apart := false, narrowed := true }
def SplitBadUptoSaid : Prop := splitBadUptoRow.holds Try.pinned (OpenSpec.upto splitBadSpec)

/-- 'stragglelaw28.OutOnly', WHERE WHAT IT READS IS OF BULK AT MOST 1048576: true; the input reads as it did. -/
def outOnlyUptoRow : OpenClaim := { program := "ytcbneobdelbhlaa", sum := "8f1cd1669c23e4aa489f9d582116806d0387ab24ea40a2ebe7e3bfdbe6e4688c", func := "straggle/stragglelaw28.OutOnly", spec := "outOnly", inPlace := ["math.Float64bits", "math.Float64frombits", "math.archTrunc"], unfollowed := true, recurses := true, apart := false, narrowed := true }
def OutOnlyUptoSaid : Prop := outOnlyUptoRow.holds Try.pinned (OpenSpec.upto outOnlySpec)

end Rows
end Go.Proofs.Ytcbneobdelbhlaa
