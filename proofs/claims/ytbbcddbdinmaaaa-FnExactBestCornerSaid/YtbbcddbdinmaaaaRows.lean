/-
  No cell of these rows narrows 'for every input' (looked for: loops, veiled, ifaces, maps, wideKeys, modest, calm, conditions, laid).
  DERIVED. THE GIVEN ROWS OF THIS SEAT. 6 by the template 'for every input the law returns true; each argument reads behind the call as it read before'; 0 by the template 'total and deterministic' (their statements: YtbbcddbdinmaaaaTotals.lean).
  GIVEN WITH THE SEED: the statements are not yours to turn. If you find one false, say at which input.
  Laid BY PROGRAM, IN A SANDBOX (cutbox-rows.mjs): the forced cells as the released guide's own fill.sh prints them over the translation 2ae0489e620e8e98… (all of the seat's roots in one cut). By AI agents, Wed Nov 11 2026. No macro, syntax, notation, axiom, sorry.
-/
import Derived.Test.YtbbcddbdinmaaaaChecked
import GoSem.Claim
import GoSem.ClaimJoined
import GoSem.ClaimMapViews
import Derived.JoinedTies
import Derived.KernelRfl
namespace Go.Proofs.Ytbbcddbdinmaaaa
/- THE CELL 'sum', in the pinned program and in every row, IS THE sha256 OF THE DUMP (.gsa) THAT YtbbcddbdinmaaaaProg.lean LOADS. Nothing in Lean hashes anything: it is a label: what it is worth is what the hold of that sum in a sandbox is worth. -/
noncomputable def Try.pinned : Pinned := { name := "ytbbcddbdinmaaaa", sum := "2ae0489e620e8e98aaecd7689b0188955ccd49cfeb5d76994af4e6a1ff4c263b", checked := Try.checked }
namespace Rows
def none {H : Type} : Left H := { results := [], args := [] }

/-- 'laws.FnExactPivotTable': WHATEVER THE INPUT: true; the input reads as it did. -/
def fnExactPivotTableSpec : ChangeSpec := { name := "fnExactPivotTable", fn := fun _ => fun
  | [d1, d2, d3] => { results := [.lit (.bool true)], args := [d1, d2, d3] }
  | _ => none }
def fnExactPivotTableRow : OpenClaim := { program := "ytbbcddbdinmaaaa", sum := "2ae0489e620e8e98aaecd7689b0188955ccd49cfeb5d76994af4e6a1ff4c263b", func := "loop.example/g01346/laws.FnExactPivotTable", spec := "fnExactPivotTable", apart := false }
def FnExactPivotTableSaid : Prop := fnExactPivotTableRow.holds Try.pinned (OpenSpec.ofChange fnExactPivotTableSpec)

/-- ITS FALSE NEIGHBOUR: 'it returns false'. Refute it at one input. -/
def fnExactPivotTableWrong : ChangeSpec := { name := "fnExactPivotTable", fn := fun _ => fun
  | [d1, d2, d3] => { results := [.lit (.bool false)], args := [d1, d2, d3] }
  | _ => none }
def FnExactPivotTableWrongFalsely : Prop := fnExactPivotTableRow.holds Try.pinned (OpenSpec.ofChange fnExactPivotTableWrong)

/-- 'laws.FnExactSolveTable': WHATEVER THE INPUT: true; the input reads as it did. -/
def fnExactSolveTableSpec : ChangeSpec := { name := "fnExactSolveTable", fn := fun _ => fun
  | [d1, d2, d3] => { results := [.lit (.bool true)], args := [d1, d2, d3] }
  | _ => none }
def fnExactSolveTableRow : OpenClaim := { program := "ytbbcddbdinmaaaa", sum := "2ae0489e620e8e98aaecd7689b0188955ccd49cfeb5d76994af4e6a1ff4c263b", func := "loop.example/g01346/laws.FnExactSolveTable", spec := "fnExactSolveTable", apart := false }
def FnExactSolveTableSaid : Prop := fnExactSolveTableRow.holds Try.pinned (OpenSpec.ofChange fnExactSolveTableSpec)

/-- ITS FALSE NEIGHBOUR: 'it returns false'. Refute it at one input. -/
def fnExactSolveTableWrong : ChangeSpec := { name := "fnExactSolveTable", fn := fun _ => fun
  | [d1, d2, d3] => { results := [.lit (.bool false)], args := [d1, d2, d3] }
  | _ => none }
def FnExactSolveTableWrongFalsely : Prop := fnExactSolveTableRow.holds Try.pinned (OpenSpec.ofChange fnExactSolveTableWrong)

/-- 'laws.FnExactRayOf': WHATEVER THE INPUT: true; the input reads as it did. -/
def fnExactRayOfSpec : ChangeSpec := { name := "fnExactRayOf", fn := fun _ => fun
  | [d1, d2, d3] => { results := [.lit (.bool true)], args := [d1, d2, d3] }
  | _ => none }
def fnExactRayOfRow : OpenClaim := { program := "ytbbcddbdinmaaaa", sum := "2ae0489e620e8e98aaecd7689b0188955ccd49cfeb5d76994af4e6a1ff4c263b", func := "loop.example/g01346/laws.FnExactRayOf", spec := "fnExactRayOf", apart := false }
def FnExactRayOfSaid : Prop := fnExactRayOfRow.holds Try.pinned (OpenSpec.ofChange fnExactRayOfSpec)

/-- ITS FALSE NEIGHBOUR: 'it returns false'. Refute it at one input. -/
def fnExactRayOfWrong : ChangeSpec := { name := "fnExactRayOf", fn := fun _ => fun
  | [d1, d2, d3] => { results := [.lit (.bool false)], args := [d1, d2, d3] }
  | _ => none }
def FnExactRayOfWrongFalsely : Prop := fnExactRayOfRow.holds Try.pinned (OpenSpec.ofChange fnExactRayOfWrong)

/-- 'laws.FnExactBoundRange': WHATEVER THE INPUT: true; the input reads as it did. -/
def fnExactBoundRangeSpec : ChangeSpec := { name := "fnExactBoundRange", fn := fun _ => fun
  | [d1, d2, d3, d4] => { results := [.lit (.bool true)], args := [d1, d2, d3, d4] }
  | _ => none }
def fnExactBoundRangeRow : OpenClaim := { program := "ytbbcddbdinmaaaa", sum := "2ae0489e620e8e98aaecd7689b0188955ccd49cfeb5d76994af4e6a1ff4c263b", func := "loop.example/g01346/laws.FnExactBoundRange", spec := "fnExactBoundRange", apart := false }
def FnExactBoundRangeSaid : Prop := fnExactBoundRangeRow.holds Try.pinned (OpenSpec.ofChange fnExactBoundRangeSpec)

/-- ITS FALSE NEIGHBOUR: 'it returns false'. Refute it at one input. -/
def fnExactBoundRangeWrong : ChangeSpec := { name := "fnExactBoundRange", fn := fun _ => fun
  | [d1, d2, d3, d4] => { results := [.lit (.bool false)], args := [d1, d2, d3, d4] }
  | _ => none }
def FnExactBoundRangeWrongFalsely : Prop := fnExactBoundRangeRow.holds Try.pinned (OpenSpec.ofChange fnExactBoundRangeWrong)

/-- 'laws.FnExactSolveRows': WHATEVER THE INPUT: true; the input reads as it did. -/
def fnExactSolveRowsSpec : ChangeSpec := { name := "fnExactSolveRows", fn := fun _ => fun
  | [d1, d2, d3] => { results := [.lit (.bool true)], args := [d1, d2, d3] }
  | _ => none }
def fnExactSolveRowsRow : OpenClaim := { program := "ytbbcddbdinmaaaa", sum := "2ae0489e620e8e98aaecd7689b0188955ccd49cfeb5d76994af4e6a1ff4c263b", func := "loop.example/g01346/laws.FnExactSolveRows", spec := "fnExactSolveRows", apart := false }
def FnExactSolveRowsSaid : Prop := fnExactSolveRowsRow.holds Try.pinned (OpenSpec.ofChange fnExactSolveRowsSpec)

/-- ITS FALSE NEIGHBOUR: 'it returns false'. Refute it at one input. -/
def fnExactSolveRowsWrong : ChangeSpec := { name := "fnExactSolveRows", fn := fun _ => fun
  | [d1, d2, d3] => { results := [.lit (.bool false)], args := [d1, d2, d3] }
  | _ => none }
def FnExactSolveRowsWrongFalsely : Prop := fnExactSolveRowsRow.holds Try.pinned (OpenSpec.ofChange fnExactSolveRowsWrong)

/-- 'laws.FnExactBestCorner': WHATEVER THE INPUT: true; the input reads as it did. -/
def fnExactBestCornerSpec : ChangeSpec := { name := "fnExactBestCorner", fn := fun _ => fun
  | [d1, d2] => { results := [.lit (.bool true)], args := [d1, d2] }
  | _ => none }
def fnExactBestCornerRow : OpenClaim := { program := "ytbbcddbdinmaaaa", sum := "2ae0489e620e8e98aaecd7689b0188955ccd49cfeb5d76994af4e6a1ff4c263b", func := "loop.example/g01346/laws.FnExactBestCorner", spec := "fnExactBestCorner", inPlace := ["math.Float64bits", "math.Float64frombits"], apart := false }
def FnExactBestCornerSaid : Prop := fnExactBestCornerRow.holds Try.pinned (OpenSpec.ofChange fnExactBestCornerSpec)

/-- ITS FALSE NEIGHBOUR: 'it returns false'. Refute it at one input. -/
def fnExactBestCornerWrong : ChangeSpec := { name := "fnExactBestCorner", fn := fun _ => fun
  | [d1, d2] => { results := [.lit (.bool false)], args := [d1, d2] }
  | _ => none }
def FnExactBestCornerWrongFalsely : Prop := fnExactBestCornerRow.holds Try.pinned (OpenSpec.ofChange fnExactBestCornerWrong)

/- THE SECOND FORM. 'bulk': how many values and letters a reading holds, each counted each time it is reached (what is shared counts as often as it is met; a slice's spare places count too). A statement '..UptoSaid' is the law's where the arguments, and the package variables that the reading takes, are together of bulk at most 1048576: NARROWER than '..Said'. Prove '..Said' where nothing that the law and all that it calls make is longer than what came in: it says more and counts as full. Else prove '..UptoSaid'. A law counts once. -/
mutual
def uptoBulk {H : Type} : DataW H → Nat
  | .lit (.string bytes) => bytes.length + 1
  | .lit _ => 1
  | .nil => 1
  | .ptr d => uptoBulk d + 1
  | .slice elems spare => uptoBulkAll elems + uptoBulkAll spare + 1
  | .agg parts => uptoBulkAll parts + 1
  | .iface _ d => uptoBulk d + 1
  | .map entries => uptoBulkEntries entries + 1
  | .held _ => 1
def uptoBulkAll {H : Type} : List (DataW H) → Nat
  | [] => 0
  | d :: r => uptoBulk d + uptoBulkAll r
def uptoBulkEntries {H : Type} : List (Lit × DataW H) → Nat
  | [] => 0
  | x :: r => uptoBulkEntry x + uptoBulkEntries r
def uptoBulkEntry {H : Type} : Lit × DataW H → Nat
  | (.string bytes, d) => bytes.length + uptoBulk d + 1
  | (_, d) => uptoBulk d + 1
 end
def uptoSmall : (H : Type) → List (DataW H) → Bool := fun _ ds => decide (uptoBulkAll ds ≤ 1048576)
def OpenSpec.upto (s : _root_.Go.ChangeSpec) : _root_.Go.OpenSpec := { _root_.Go.OpenSpec.ofChange s with cond := some uptoSmall }

/-- 'laws.FnExactPivotTable', WHERE WHAT IT READS IS OF BULK AT MOST 1048576: true; the input reads as it did. -/
def fnExactPivotTableUptoRow : OpenClaim := { program := "ytbbcddbdinmaaaa", sum := "2ae0489e620e8e98aaecd7689b0188955ccd49cfeb5d76994af4e6a1ff4c263b", func := "loop.example/g01346/laws.FnExactPivotTable", spec := "fnExactPivotTable", apart := false, narrowed := true }
def FnExactPivotTableUptoSaid : Prop := fnExactPivotTableUptoRow.holds Try.pinned (OpenSpec.upto fnExactPivotTableSpec)

/-- 'laws.FnExactSolveTable', WHERE WHAT IT READS IS OF BULK AT MOST 1048576: true; the input reads as it did. -/
def fnExactSolveTableUptoRow : OpenClaim := { program := "ytbbcddbdinmaaaa", sum := "2ae0489e620e8e98aaecd7689b0188955ccd49cfeb5d76994af4e6a1ff4c263b", func := "loop.example/g01346/laws.FnExactSolveTable", spec := "fnExactSolveTable", apart := false, narrowed := true }
def FnExactSolveTableUptoSaid : Prop := fnExactSolveTableUptoRow.holds Try.pinned (OpenSpec.upto fnExactSolveTableSpec)

/-- 'laws.FnExactRayOf', WHERE WHAT IT READS IS OF BULK AT MOST 1048576: true; the input reads as it did. -/
def fnExactRayOfUptoRow : OpenClaim := { program := "ytbbcddbdinmaaaa", sum := "2ae0489e620e8e98aaecd7689b0188955ccd49cfeb5d76994af4e6a1ff4c263b", func := "loop.example/g01346/laws.FnExactRayOf", spec := "fnExactRayOf", apart := false, narrowed := true }
def FnExactRayOfUptoSaid : Prop := fnExactRayOfUptoRow.holds Try.pinned (OpenSpec.upto fnExactRayOfSpec)

/-- 'laws.FnExactBoundRange', WHERE WHAT IT READS IS OF BULK AT MOST 1048576: true; the input reads as it did. -/
def fnExactBoundRangeUptoRow : OpenClaim := { program := "ytbbcddbdinmaaaa", sum := "2ae0489e620e8e98aaecd7689b0188955ccd49cfeb5d76994af4e6a1ff4c263b", func := "loop.example/g01346/laws.FnExactBoundRange", spec := "fnExactBoundRange", apart := false, narrowed := true }
def FnExactBoundRangeUptoSaid : Prop := fnExactBoundRangeUptoRow.holds Try.pinned (OpenSpec.upto fnExactBoundRangeSpec)

/-- 'laws.FnExactSolveRows', WHERE WHAT IT READS IS OF BULK AT MOST 1048576: true; the input reads as it did. -/
def fnExactSolveRowsUptoRow : OpenClaim := { program := "ytbbcddbdinmaaaa", sum := "2ae0489e620e8e98aaecd7689b0188955ccd49cfeb5d76994af4e6a1ff4c263b", func := "loop.example/g01346/laws.FnExactSolveRows", spec := "fnExactSolveRows", apart := false, narrowed := true }
def FnExactSolveRowsUptoSaid : Prop := fnExactSolveRowsUptoRow.holds Try.pinned (OpenSpec.upto fnExactSolveRowsSpec)

/-- 'laws.FnExactBestCorner', WHERE WHAT IT READS IS OF BULK AT MOST 1048576: true; the input reads as it did. -/
def fnExactBestCornerUptoRow : OpenClaim := { program := "ytbbcddbdinmaaaa", sum := "2ae0489e620e8e98aaecd7689b0188955ccd49cfeb5d76994af4e6a1ff4c263b", func := "loop.example/g01346/laws.FnExactBestCorner", spec := "fnExactBestCorner", inPlace := ["math.Float64bits", "math.Float64frombits"], apart := false, narrowed := true }
def FnExactBestCornerUptoSaid : Prop := fnExactBestCornerUptoRow.holds Try.pinned (OpenSpec.upto fnExactBestCornerSpec)

end Rows
end Go.Proofs.Ytbbcddbdinmaaaa
