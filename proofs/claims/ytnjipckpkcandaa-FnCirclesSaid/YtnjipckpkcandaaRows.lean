/-
  No cell of these rows narrows 'for every input' (looked for: loops, veiled, ifaces, maps, wideKeys, modest, calm, conditions, laid).
  DERIVED. THE GIVEN ROWS OF THIS SEAT. 2 by the template 'for every input the law returns true; each argument reads behind the call as it read before'; 0 by the template 'total and deterministic' (their statements: YtnjipckpkcandaaTotals.lean).
  GIVEN WITH THE SEED: the statements are not yours to turn. If you find one false, say at which input.
  Laid BY PROGRAM, IN A SANDBOX (cutbox-rows.mjs): the forced cells as the released guide's own fill.sh prints them over the translation 3983aaf6c977a6d3… (all of the seat's roots in one cut). By AI agents, Wed Nov 11 2026. No macro, syntax, notation, axiom, sorry.
-/
import Derived.Test.YtnjipckpkcandaaChecked
import GoSem.Claim
import GoSem.ClaimJoined
import GoSem.ClaimMapViews
import Derived.JoinedTies
import Derived.KernelRfl
namespace Go.Proofs.Ytnjipckpkcandaa
/- THE CELL 'sum', in the pinned program and in every row, IS THE sha256 OF THE DUMP (.gsa) THAT YtnjipckpkcandaaProg.lean LOADS. Nothing in Lean hashes anything: it is a label: what it is worth is what the hold of that sum in a sandbox is worth. -/
noncomputable def Try.pinned : Pinned := { name := "ytnjipckpkcandaa", sum := "3983aaf6c977a6d3a4342242c1bca5fb7b75d25f38ac8bf7d428c1e0995e5d30", checked := Try.checked }
namespace Rows
def none {H : Type} : Left H := { results := [], args := [] }

/-- 'laws.FnCircles': WHATEVER THE INPUT: true; the input reads as it did. -/
def fnCirclesSpec : ChangeSpec := { name := "fnCircles", fn := fun _ => fun
  | [d1, d2] => { results := [.lit (.bool true)], args := [d1, d2] }
  | _ => none }
def fnCirclesRow : OpenClaim := { program := "ytnjipckpkcandaa", sum := "3983aaf6c977a6d3a4342242c1bca5fb7b75d25f38ac8bf7d428c1e0995e5d30", func := "loop.example/g01346/laws.FnCircles", spec := "fnCircles", inPlace := ["math.Float64frombits", "math.Float64bits", "math.archTrunc", "math.sqrt", "math.archFloor", "math.Float32bits"], apart := false }
def FnCirclesSaid : Prop := fnCirclesRow.holds Try.pinned (OpenSpec.ofChange fnCirclesSpec)

/-- ITS FALSE NEIGHBOUR: 'it returns false'. Refute it at one input. -/
def fnCirclesWrong : ChangeSpec := { name := "fnCircles", fn := fun _ => fun
  | [d1, d2] => { results := [.lit (.bool false)], args := [d1, d2] }
  | _ => none }
def FnCirclesWrongFalsely : Prop := fnCirclesRow.holds Try.pinned (OpenSpec.ofChange fnCirclesWrong)

/-- 'laws.FnExactAreSets': WHATEVER THE INPUT: true; the input reads as it did. -/
def fnExactAreSetsSpec : ChangeSpec := { name := "fnExactAreSets", fn := fun _ => fun
  | [d1, d2] => { results := [.lit (.bool true)], args := [d1, d2] }
  | _ => none }
def fnExactAreSetsRow : OpenClaim := { program := "ytnjipckpkcandaa", sum := "3983aaf6c977a6d3a4342242c1bca5fb7b75d25f38ac8bf7d428c1e0995e5d30", func := "loop.example/g01346/laws.FnExactAreSets", spec := "fnExactAreSets", apart := false }
def FnExactAreSetsSaid : Prop := fnExactAreSetsRow.holds Try.pinned (OpenSpec.ofChange fnExactAreSetsSpec)

/-- ITS FALSE NEIGHBOUR: 'it returns false'. Refute it at one input. -/
def fnExactAreSetsWrong : ChangeSpec := { name := "fnExactAreSets", fn := fun _ => fun
  | [d1, d2] => { results := [.lit (.bool false)], args := [d1, d2] }
  | _ => none }
def FnExactAreSetsWrongFalsely : Prop := fnExactAreSetsRow.holds Try.pinned (OpenSpec.ofChange fnExactAreSetsWrong)

/- THE SECOND FORM. 'bulk': how many values and letters a reading holds, each counted each time it is reached (what is shared counts as often as it is met; a slice's spare places count too). A statement '..UptoSaid' is the law's where the arguments, and the package variables that the reading takes, are together of bulk at most 1048576: NARROWER than '..Said'. Prove '..Said' where nothing that the law and all that it calls make is longer than what came in: it says more and counts as full. Else prove '..UptoSaid'. A law counts once. -/
mutual
def uptoBulk {H : Type} : DataW H → Nat
  | .lit (.string bytes) => bytes.length + 1
  | .lit _ => 1
  | .nil => 1
  | .ptr d => uptoBulk d + 1
  | .slice elems spare => uptoBulkAll elems + uptoBulkAll spare + 1
  | .agg parts => uptoBulkAll parts + 1
  | .iface _ d => uptoBulk d + 1
  | .map entries => uptoBulkEntries entries + 1
  | .held _ => 1
def uptoBulkAll {H : Type} : List (DataW H) → Nat
  | [] => 0
  | d :: r => uptoBulk d + uptoBulkAll r
def uptoBulkEntries {H : Type} : List (Lit × DataW H) → Nat
  | [] => 0
  | x :: r => uptoBulkEntry x + uptoBulkEntries r
def uptoBulkEntry {H : Type} : Lit × DataW H → Nat
  | (.string bytes, d) => bytes.length + uptoBulk d + 1
  | (_, d) => uptoBulk d + 1
 end
def uptoSmall : (H : Type) → List (DataW H) → Bool := fun _ ds => decide (uptoBulkAll ds ≤ 1048576)
def OpenSpec.upto (s : _root_.Go.ChangeSpec) : _root_.Go.OpenSpec := { _root_.Go.OpenSpec.ofChange s with cond := some uptoSmall }

/-- 'laws.FnCircles', WHERE WHAT IT READS IS OF BULK AT MOST 1048576: true; the input reads as it did. -/
def fnCirclesUptoRow : OpenClaim := { program := "ytnjipckpkcandaa", sum := "3983aaf6c977a6d3a4342242c1bca5fb7b75d25f38ac8bf7d428c1e0995e5d30", func := "loop.example/g01346/laws.FnCircles", spec := "fnCircles", inPlace := ["math.Float64frombits", "math.Float64bits", "math.archTrunc", "math.sqrt", "math.archFloor", "math.Float32bits"], apart := false, narrowed := true }
def FnCirclesUptoSaid : Prop := fnCirclesUptoRow.holds Try.pinned (OpenSpec.upto fnCirclesSpec)

/-- 'laws.FnExactAreSets', WHERE WHAT IT READS IS OF BULK AT MOST 1048576: true; the input reads as it did. -/
def fnExactAreSetsUptoRow : OpenClaim := { program := "ytnjipckpkcandaa", sum := "3983aaf6c977a6d3a4342242c1bca5fb7b75d25f38ac8bf7d428c1e0995e5d30", func := "loop.example/g01346/laws.FnExactAreSets", spec := "fnExactAreSets", apart := false, narrowed := true }
def FnExactAreSetsUptoSaid : Prop := fnExactAreSetsUptoRow.holds Try.pinned (OpenSpec.upto fnExactAreSetsSpec)

end Rows
end Go.Proofs.Ytnjipckpkcandaa
