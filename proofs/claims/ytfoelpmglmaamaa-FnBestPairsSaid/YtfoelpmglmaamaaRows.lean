/-
  No cell of these rows narrows 'for every input' (looked for: loops, veiled, ifaces, maps, wideKeys, modest, calm, conditions, laid).
  DERIVED. THE GIVEN ROWS OF THIS SEAT. 4 by the template 'for every input the law returns true; each argument reads behind the call as it read before'; 0 by the template 'total and deterministic' (their statements: YtfoelpmglmaamaaTotals.lean).
  GIVEN WITH THE SEED: the statements are not yours to turn. If you find one false, say at which input.
  Laid BY PROGRAM, IN A SANDBOX (cutbox-rows.mjs): the forced cells as the released guide's own fill.sh prints them over the translation 442ff97c77d968e2… (all of the seat's roots in one cut). By AI agents, Wed Nov 11 2026. No macro, syntax, notation, axiom, sorry.
-/
import Derived.Test.YtfoelpmglmaamaaChecked
import GoSem.Claim
import GoSem.ClaimJoined
import GoSem.ClaimMapViews
import Derived.JoinedTies
import Derived.KernelRfl
namespace Go.Proofs.Ytfoelpmglmaamaa
/- THE CELL 'sum', in the pinned program and in every row, IS THE sha256 OF THE DUMP (.gsa) THAT YtfoelpmglmaamaaProg.lean LOADS. Nothing in Lean hashes anything: it is a label: what it is worth is what the hold of that sum in a sandbox is worth. -/
noncomputable def Try.pinned : Pinned := { name := "ytfoelpmglmaamaa", sum := "442ff97c77d968e2abf824ce21a485c95acbfba3d473a175e9ae0677711eb2a2", checked := Try.checked }
namespace Rows
def none {H : Type} : Left H := { results := [], args := [] }

/-- 'laws.FnBestPairs': WHATEVER THE INPUT: true; the input reads as it did. -/
def fnBestPairsSpec : ChangeSpec := { name := "fnBestPairs", fn := fun _ => fun
  | [d1, d2] => { results := [.lit (.bool true)], args := [d1, d2] }
  | _ => none }
def fnBestPairsRow : OpenClaim := { program := "ytfoelpmglmaamaa", sum := "442ff97c77d968e2abf824ce21a485c95acbfba3d473a175e9ae0677711eb2a2", func := "loop.example/g01346/laws.FnBestPairs", spec := "fnBestPairs", recurses := true, apart := false }
def FnBestPairsSaid : Prop := fnBestPairsRow.holds Try.pinned (OpenSpec.ofChange fnBestPairsSpec)

/-- ITS FALSE NEIGHBOUR: 'it returns false'. Refute it at one input. -/
def fnBestPairsWrong : ChangeSpec := { name := "fnBestPairs", fn := fun _ => fun
  | [d1, d2] => { results := [.lit (.bool false)], args := [d1, d2] }
  | _ => none }
def FnBestPairsWrongFalsely : Prop := fnBestPairsRow.holds Try.pinned (OpenSpec.ofChange fnBestPairsWrong)

/-- 'laws.FnExactBestPairs': WHATEVER THE INPUT: true; the input reads as it did. -/
def fnExactBestPairsSpec : ChangeSpec := { name := "fnExactBestPairs", fn := fun _ => fun
  | [d1, d2] => { results := [.lit (.bool true)], args := [d1, d2] }
  | _ => none }
def fnExactBestPairsRow : OpenClaim := { program := "ytfoelpmglmaamaa", sum := "442ff97c77d968e2abf824ce21a485c95acbfba3d473a175e9ae0677711eb2a2", func := "loop.example/g01346/laws.FnExactBestPairs", spec := "fnExactBestPairs", apart := false }
def FnExactBestPairsSaid : Prop := fnExactBestPairsRow.holds Try.pinned (OpenSpec.ofChange fnExactBestPairsSpec)

/-- ITS FALSE NEIGHBOUR: 'it returns false'. Refute it at one input. -/
def fnExactBestPairsWrong : ChangeSpec := { name := "fnExactBestPairs", fn := fun _ => fun
  | [d1, d2] => { results := [.lit (.bool false)], args := [d1, d2] }
  | _ => none }
def FnExactBestPairsWrongFalsely : Prop := fnExactBestPairsRow.holds Try.pinned (OpenSpec.ofChange fnExactBestPairsWrong)

/-- 'laws.FnExactMatchSides': WHATEVER THE INPUT: true; the input reads as it did. -/
def fnExactMatchSidesSpec : ChangeSpec := { name := "fnExactMatchSides", fn := fun _ => fun
  | [d1, d2, d3] => { results := [.lit (.bool true)], args := [d1, d2, d3] }
  | _ => none }
def fnExactMatchSidesRow : OpenClaim := { program := "ytfoelpmglmaamaa", sum := "442ff97c77d968e2abf824ce21a485c95acbfba3d473a175e9ae0677711eb2a2", func := "loop.example/g01346/laws.FnExactMatchSides", spec := "fnExactMatchSides", recurses := true, apart := false }
def FnExactMatchSidesSaid : Prop := fnExactMatchSidesRow.holds Try.pinned (OpenSpec.ofChange fnExactMatchSidesSpec)

/-- ITS FALSE NEIGHBOUR: 'it returns false'. Refute it at one input. -/
def fnExactMatchSidesWrong : ChangeSpec := { name := "fnExactMatchSides", fn := fun _ => fun
  | [d1, d2, d3] => { results := [.lit (.bool false)], args := [d1, d2, d3] }
  | _ => none }
def FnExactMatchSidesWrongFalsely : Prop := fnExactMatchSidesRow.holds Try.pinned (OpenSpec.ofChange fnExactMatchSidesWrong)

/-- 'laws.FnExactCoverSides': WHATEVER THE INPUT: true; the input reads as it did. -/
def fnExactCoverSidesSpec : ChangeSpec := { name := "fnExactCoverSides", fn := fun _ => fun
  | [d1, d2, d3] => { results := [.lit (.bool true)], args := [d1, d2, d3] }
  | _ => none }
def fnExactCoverSidesRow : OpenClaim := { program := "ytfoelpmglmaamaa", sum := "442ff97c77d968e2abf824ce21a485c95acbfba3d473a175e9ae0677711eb2a2", func := "loop.example/g01346/laws.FnExactCoverSides", spec := "fnExactCoverSides", recurses := true, apart := false }
def FnExactCoverSidesSaid : Prop := fnExactCoverSidesRow.holds Try.pinned (OpenSpec.ofChange fnExactCoverSidesSpec)

/-- ITS FALSE NEIGHBOUR: 'it returns false'. Refute it at one input. -/
def fnExactCoverSidesWrong : ChangeSpec := { name := "fnExactCoverSides", fn := fun _ => fun
  | [d1, d2, d3] => { results := [.lit (.bool false)], args := [d1, d2, d3] }
  | _ => none }
def FnExactCoverSidesWrongFalsely : Prop := fnExactCoverSidesRow.holds Try.pinned (OpenSpec.ofChange fnExactCoverSidesWrong)

/- THE SECOND FORM. 'bulk': how many values and letters a reading holds, each counted each time it is reached (what is shared counts as often as it is met; a slice's spare places count too). A statement '..UptoSaid' is the law's where the arguments, and the package variables that the reading takes, are together of bulk at most 1048576: NARROWER than '..Said'. Prove '..Said' where nothing that the law and all that it calls make is longer than what came in: it says more and counts as full. Else prove '..UptoSaid'. A law counts once. -/
mutual
def uptoBulk {H : Type} : DataW H → Nat
  | .lit (.string bytes) => bytes.length + 1
  | .lit _ => 1
  | .nil => 1
  | .ptr d => uptoBulk d + 1
  | .slice elems spare => uptoBulkAll elems + uptoBulkAll spare + 1
  | .agg parts => uptoBulkAll parts + 1
  | .iface _ d => uptoBulk d + 1
  | .map entries => uptoBulkEntries entries + 1
  | .held _ => 1
def uptoBulkAll {H : Type} : List (DataW H) → Nat
  | [] => 0
  | d :: r => uptoBulk d + uptoBulkAll r
def uptoBulkEntries {H : Type} : List (Lit × DataW H) → Nat
  | [] => 0
  | x :: r => uptoBulkEntry x + uptoBulkEntries r
def uptoBulkEntry {H : Type} : Lit × DataW H → Nat
  | (.string bytes, d) => bytes.length + uptoBulk d + 1
  | (_, d) => uptoBulk d + 1
 end
def uptoSmall : (H : Type) → List (DataW H) → Bool := fun _ ds => decide (uptoBulkAll ds ≤ 1048576)
def OpenSpec.upto (s : _root_.Go.ChangeSpec) : _root_.Go.OpenSpec := { _root_.Go.OpenSpec.ofChange s with cond := some uptoSmall }

/-- 'laws.FnBestPairs', WHERE WHAT IT READS IS OF BULK AT MOST 1048576: true; the input reads as it did. -/
def fnBestPairsUptoRow : OpenClaim := { program := "ytfoelpmglmaamaa", sum := "442ff97c77d968e2abf824ce21a485c95acbfba3d473a175e9ae0677711eb2a2", func := "loop.example/g01346/laws.FnBestPairs", spec := "fnBestPairs", recurses := true, apart := false, narrowed := true }
def FnBestPairsUptoSaid : Prop := fnBestPairsUptoRow.holds Try.pinned (OpenSpec.upto fnBestPairsSpec)

/-- 'laws.FnExactBestPairs', WHERE WHAT IT READS IS OF BULK AT MOST 1048576: true; the input reads as it did. -/
def fnExactBestPairsUptoRow : OpenClaim := { program := "ytfoelpmglmaamaa", sum := "442ff97c77d968e2abf824ce21a485c95acbfba3d473a175e9ae0677711eb2a2", func := "loop.example/g01346/laws.FnExactBestPairs", spec := "fnExactBestPairs", apart := false, narrowed := true }
def FnExactBestPairsUptoSaid : Prop := fnExactBestPairsUptoRow.holds Try.pinned (OpenSpec.upto fnExactBestPairsSpec)

/-- 'laws.FnExactMatchSides', WHERE WHAT IT READS IS OF BULK AT MOST 1048576: true; the input reads as it did. -/
def fnExactMatchSidesUptoRow : OpenClaim := { program := "ytfoelpmglmaamaa", sum := "442ff97c77d968e2abf824ce21a485c95acbfba3d473a175e9ae0677711eb2a2", func := "loop.example/g01346/laws.FnExactMatchSides", spec := "fnExactMatchSides", recurses := true, apart := false, narrowed := true }
def FnExactMatchSidesUptoSaid : Prop := fnExactMatchSidesUptoRow.holds Try.pinned (OpenSpec.upto fnExactMatchSidesSpec)

/-- 'laws.FnExactCoverSides', WHERE WHAT IT READS IS OF BULK AT MOST 1048576: true; the input reads as it did. -/
def fnExactCoverSidesUptoRow : OpenClaim := { program := "ytfoelpmglmaamaa", sum := "442ff97c77d968e2abf824ce21a485c95acbfba3d473a175e9ae0677711eb2a2", func := "loop.example/g01346/laws.FnExactCoverSides", spec := "fnExactCoverSides", recurses := true, apart := false, narrowed := true }
def FnExactCoverSidesUptoSaid : Prop := fnExactCoverSidesUptoRow.holds Try.pinned (OpenSpec.upto fnExactCoverSidesSpec)

end Rows
end Go.Proofs.Ytfoelpmglmaamaa
