/-
  No cell of these rows narrows 'for every input' (looked for: loops, veiled, ifaces, maps, wideKeys, modest, calm, conditions, laid).
  DERIVED. THE GIVEN ROWS OF THIS SEAT. 7 by the template 'for every input the law returns true; each argument reads behind the call as it read before'; 0 by the template 'total and deterministic' (their statements: YtjbmcdnnnkfhgaaTotals.lean).
  GIVEN WITH THE SEED: the statements are not yours to turn. If you find one false, say at which input.
  Laid BY PROGRAM, IN A SANDBOX (cutbox-rows.mjs): the forced cells as the released guide's own fill.sh prints them over the translation 1193464103ac2f61… (all of the seat's roots in one cut). By AI agents, Wed Nov 11 2026. No macro, syntax, notation, axiom, sorry.
-/
import Derived.Test.YtjbmcdnnnkfhgaaChecked
import GoSem.Claim
import GoSem.ClaimJoined
import GoSem.ClaimMapViews
import Derived.JoinedTies
import Derived.KernelRfl
namespace Go.Proofs.Ytjbmcdnnnkfhgaa
/- THE CELL 'sum', in the pinned program and in every row, IS THE sha256 OF THE DUMP (.gsa) THAT YtjbmcdnnnkfhgaaProg.lean LOADS. Nothing in Lean hashes anything: it is a label: what it is worth is what the hold of that sum in a sandbox is worth. -/
noncomputable def Try.pinned : Pinned := { name := "ytjbmcdnnnkfhgaa", sum := "1193464103ac2f619b11a058dea0d06e48c3d83881cdf31665ca1acec496edf7", checked := Try.checked }
namespace Rows
def none {H : Type} : Left H := { results := [], args := [] }

/-- 'laws.FnExactMatchSides': WHATEVER THE INPUT: true; the input reads as it did. -/
def fnExactMatchSidesSpec : ChangeSpec := { name := "fnExactMatchSides", fn := fun _ => fun
  | [d1, d2, d3] => { results := [.lit (.bool true)], args := [d1, d2, d3] }
  | _ => none }
def fnExactMatchSidesRow : OpenClaim := { program := "ytjbmcdnnnkfhgaa", sum := "1193464103ac2f619b11a058dea0d06e48c3d83881cdf31665ca1acec496edf7", func := "loop.example/g01346/laws.FnExactMatchSides", spec := "fnExactMatchSides", recurses := true, apart := false }
def FnExactMatchSidesSaid : Prop := fnExactMatchSidesRow.holds Try.pinned (OpenSpec.ofChange fnExactMatchSidesSpec)

/-- ITS FALSE NEIGHBOUR: 'it returns false'. Refute it at one input. -/
def fnExactMatchSidesWrong : ChangeSpec := { name := "fnExactMatchSides", fn := fun _ => fun
  | [d1, d2, d3] => { results := [.lit (.bool false)], args := [d1, d2, d3] }
  | _ => none }
def FnExactMatchSidesWrongFalsely : Prop := fnExactMatchSidesRow.holds Try.pinned (OpenSpec.ofChange fnExactMatchSidesWrong)

/-- 'laws.FnExactCoverSides': WHATEVER THE INPUT: true; the input reads as it did. -/
def fnExactCoverSidesSpec : ChangeSpec := { name := "fnExactCoverSides", fn := fun _ => fun
  | [d1, d2, d3] => { results := [.lit (.bool true)], args := [d1, d2, d3] }
  | _ => none }
def fnExactCoverSidesRow : OpenClaim := { program := "ytjbmcdnnnkfhgaa", sum := "1193464103ac2f619b11a058dea0d06e48c3d83881cdf31665ca1acec496edf7", func := "loop.example/g01346/laws.FnExactCoverSides", spec := "fnExactCoverSides", recurses := true, apart := false }
def FnExactCoverSidesSaid : Prop := fnExactCoverSidesRow.holds Try.pinned (OpenSpec.ofChange fnExactCoverSidesSpec)

/-- ITS FALSE NEIGHBOUR: 'it returns false'. Refute it at one input. -/
def fnExactCoverSidesWrong : ChangeSpec := { name := "fnExactCoverSides", fn := fun _ => fun
  | [d1, d2, d3] => { results := [.lit (.bool false)], args := [d1, d2, d3] }
  | _ => none }
def FnExactCoverSidesWrongFalsely : Prop := fnExactCoverSidesRow.holds Try.pinned (OpenSpec.ofChange fnExactCoverSidesWrong)

/-- 'laws.FnExactBestPairs': WHATEVER THE INPUT: true; the input reads as it did. -/
def fnExactBestPairsSpec : ChangeSpec := { name := "fnExactBestPairs", fn := fun _ => fun
  | [d1, d2] => { results := [.lit (.bool true)], args := [d1, d2] }
  | _ => none }
def fnExactBestPairsRow : OpenClaim := { program := "ytjbmcdnnnkfhgaa", sum := "1193464103ac2f619b11a058dea0d06e48c3d83881cdf31665ca1acec496edf7", func := "loop.example/g01346/laws.FnExactBestPairs", spec := "fnExactBestPairs", apart := false }
def FnExactBestPairsSaid : Prop := fnExactBestPairsRow.holds Try.pinned (OpenSpec.ofChange fnExactBestPairsSpec)

/-- ITS FALSE NEIGHBOUR: 'it returns false'. Refute it at one input. -/
def fnExactBestPairsWrong : ChangeSpec := { name := "fnExactBestPairs", fn := fun _ => fun
  | [d1, d2] => { results := [.lit (.bool false)], args := [d1, d2] }
  | _ => none }
def FnExactBestPairsWrongFalsely : Prop := fnExactBestPairsRow.holds Try.pinned (OpenSpec.ofChange fnExactBestPairsWrong)

/-- 'laws.FnExactWideWay': WHATEVER THE INPUT: true; the input reads as it did. -/
def fnExactWideWaySpec : ChangeSpec := { name := "fnExactWideWay", fn := fun _ => fun
  | [d1, d2, d3] => { results := [.lit (.bool true)], args := [d1, d2, d3] }
  | _ => none }
def fnExactWideWayRow : OpenClaim := { program := "ytjbmcdnnnkfhgaa", sum := "1193464103ac2f619b11a058dea0d06e48c3d83881cdf31665ca1acec496edf7", func := "loop.example/g01346/laws.FnExactWideWay", spec := "fnExactWideWay", apart := false }
def FnExactWideWaySaid : Prop := fnExactWideWayRow.holds Try.pinned (OpenSpec.ofChange fnExactWideWaySpec)

/-- ITS FALSE NEIGHBOUR: 'it returns false'. Refute it at one input. -/
def fnExactWideWayWrong : ChangeSpec := { name := "fnExactWideWay", fn := fun _ => fun
  | [d1, d2, d3] => { results := [.lit (.bool false)], args := [d1, d2, d3] }
  | _ => none }
def FnExactWideWayWrongFalsely : Prop := fnExactWideWayRow.holds Try.pinned (OpenSpec.ofChange fnExactWideWayWrong)

/-- 'laws.FnExactGreatFlow': WHATEVER THE INPUT: true; the input reads as it did. -/
def fnExactGreatFlowSpec : ChangeSpec := { name := "fnExactGreatFlow", fn := fun _ => fun
  | [d1, d2, d3] => { results := [.lit (.bool true)], args := [d1, d2, d3] }
  | _ => none }
def fnExactGreatFlowRow : OpenClaim := { program := "ytjbmcdnnnkfhgaa", sum := "1193464103ac2f619b11a058dea0d06e48c3d83881cdf31665ca1acec496edf7", func := "loop.example/g01346/laws.FnExactGreatFlow", spec := "fnExactGreatFlow", apart := false }
def FnExactGreatFlowSaid : Prop := fnExactGreatFlowRow.holds Try.pinned (OpenSpec.ofChange fnExactGreatFlowSpec)

/-- ITS FALSE NEIGHBOUR: 'it returns false'. Refute it at one input. -/
def fnExactGreatFlowWrong : ChangeSpec := { name := "fnExactGreatFlow", fn := fun _ => fun
  | [d1, d2, d3] => { results := [.lit (.bool false)], args := [d1, d2, d3] }
  | _ => none }
def FnExactGreatFlowWrongFalsely : Prop := fnExactGreatFlowRow.holds Try.pinned (OpenSpec.ofChange fnExactGreatFlowWrong)

/-- 'laws.FnExactPushFlow': WHATEVER THE INPUT: true; the input reads as it did. -/
def fnExactPushFlowSpec : ChangeSpec := { name := "fnExactPushFlow", fn := fun _ => fun
  | [d1, d2, d3] => { results := [.lit (.bool true)], args := [d1, d2, d3] }
  | _ => none }
def fnExactPushFlowRow : OpenClaim := { program := "ytjbmcdnnnkfhgaa", sum := "1193464103ac2f619b11a058dea0d06e48c3d83881cdf31665ca1acec496edf7", func := "loop.example/g01346/laws.FnExactPushFlow", spec := "fnExactPushFlow", apart := false }
def FnExactPushFlowSaid : Prop := fnExactPushFlowRow.holds Try.pinned (OpenSpec.ofChange fnExactPushFlowSpec)

/-- ITS FALSE NEIGHBOUR: 'it returns false'. Refute it at one input. -/
def fnExactPushFlowWrong : ChangeSpec := { name := "fnExactPushFlow", fn := fun _ => fun
  | [d1, d2, d3] => { results := [.lit (.bool false)], args := [d1, d2, d3] }
  | _ => none }
def FnExactPushFlowWrongFalsely : Prop := fnExactPushFlowRow.holds Try.pinned (OpenSpec.ofChange fnExactPushFlowWrong)

/-- 'laws.FnExactLossRound': WHATEVER THE INPUT: true; the input reads as it did. -/
def fnExactLossRoundSpec : ChangeSpec := { name := "fnExactLossRound", fn := fun _ => fun
  | [d1, d2] => { results := [.lit (.bool true)], args := [d1, d2] }
  | _ => none }
def fnExactLossRoundRow : OpenClaim := { program := "ytjbmcdnnnkfhgaa", sum := "1193464103ac2f619b11a058dea0d06e48c3d83881cdf31665ca1acec496edf7", func := "loop.example/g01346/laws.FnExactLossRound", spec := "fnExactLossRound", apart := false }
def FnExactLossRoundSaid : Prop := fnExactLossRoundRow.holds Try.pinned (OpenSpec.ofChange fnExactLossRoundSpec)

/-- ITS FALSE NEIGHBOUR: 'it returns false'. Refute it at one input. -/
def fnExactLossRoundWrong : ChangeSpec := { name := "fnExactLossRound", fn := fun _ => fun
  | [d1, d2] => { results := [.lit (.bool false)], args := [d1, d2] }
  | _ => none }
def FnExactLossRoundWrongFalsely : Prop := fnExactLossRoundRow.holds Try.pinned (OpenSpec.ofChange fnExactLossRoundWrong)

/- THE SECOND FORM. 'bulk': how many values and letters a reading holds, each counted each time it is reached (what is shared counts as often as it is met; a slice's spare places count too). A statement '..UptoSaid' is the law's where the arguments, and the package variables that the reading takes, are together of bulk at most 1048576: NARROWER than '..Said'. Prove '..Said' where nothing that the law and all that it calls make is longer than what came in: it says more and counts as full. Else prove '..UptoSaid'. A law counts once. -/
mutual
def uptoBulk {H : Type} : DataW H → Nat
  | .lit (.string bytes) => bytes.length + 1
  | .lit _ => 1
  | .nil => 1
  | .ptr d => uptoBulk d + 1
  | .slice elems spare => uptoBulkAll elems + uptoBulkAll spare + 1
  | .agg parts => uptoBulkAll parts + 1
  | .iface _ d => uptoBulk d + 1
  | .map entries => uptoBulkEntries entries + 1
  | .held _ => 1
def uptoBulkAll {H : Type} : List (DataW H) → Nat
  | [] => 0
  | d :: r => uptoBulk d + uptoBulkAll r
def uptoBulkEntries {H : Type} : List (Lit × DataW H) → Nat
  | [] => 0
  | x :: r => uptoBulkEntry x + uptoBulkEntries r
def uptoBulkEntry {H : Type} : Lit × DataW H → Nat
  | (.string bytes, d) => bytes.length + uptoBulk d + 1
  | (_, d) => uptoBulk d + 1
 end
def uptoSmall : (H : Type) → List (DataW H) → Bool := fun _ ds => decide (uptoBulkAll ds ≤ 1048576)
def OpenSpec.upto (s : _root_.Go.ChangeSpec) : _root_.Go.OpenSpec := { _root_.Go.OpenSpec.ofChange s with cond := some uptoSmall }

/-- 'laws.FnExactMatchSides', WHERE WHAT IT READS IS OF BULK AT MOST 1048576: true; the input reads as it did. -/
def fnExactMatchSidesUptoRow : OpenClaim := { program := "ytjbmcdnnnkfhgaa", sum := "1193464103ac2f619b11a058dea0d06e48c3d83881cdf31665ca1acec496edf7", func := "loop.example/g01346/laws.FnExactMatchSides", spec := "fnExactMatchSides", recurses := true, apart := false, narrowed := true }
def FnExactMatchSidesUptoSaid : Prop := fnExactMatchSidesUptoRow.holds Try.pinned (OpenSpec.upto fnExactMatchSidesSpec)

/-- 'laws.FnExactCoverSides', WHERE WHAT IT READS IS OF BULK AT MOST 1048576: true; the input reads as it did. -/
def fnExactCoverSidesUptoRow : OpenClaim := { program := "ytjbmcdnnnkfhgaa", sum := "1193464103ac2f619b11a058dea0d06e48c3d83881cdf31665ca1acec496edf7", func := "loop.example/g01346/laws.FnExactCoverSides", spec := "fnExactCoverSides", recurses := true, apart := false, narrowed := true }
def FnExactCoverSidesUptoSaid : Prop := fnExactCoverSidesUptoRow.holds Try.pinned (OpenSpec.upto fnExactCoverSidesSpec)

/-- 'laws.FnExactBestPairs', WHERE WHAT IT READS IS OF BULK AT MOST 1048576: true; the input reads as it did. -/
def fnExactBestPairsUptoRow : OpenClaim := { program := "ytjbmcdnnnkfhgaa", sum := "1193464103ac2f619b11a058dea0d06e48c3d83881cdf31665ca1acec496edf7", func := "loop.example/g01346/laws.FnExactBestPairs", spec := "fnExactBestPairs", apart := false, narrowed := true }
def FnExactBestPairsUptoSaid : Prop := fnExactBestPairsUptoRow.holds Try.pinned (OpenSpec.upto fnExactBestPairsSpec)

/-- 'laws.FnExactWideWay', WHERE WHAT IT READS IS OF BULK AT MOST 1048576: true; the input reads as it did. -/
def fnExactWideWayUptoRow : OpenClaim := { program := "ytjbmcdnnnkfhgaa", sum := "1193464103ac2f619b11a058dea0d06e48c3d83881cdf31665ca1acec496edf7", func := "loop.example/g01346/laws.FnExactWideWay", spec := "fnExactWideWay", apart := false, narrowed := true }
def FnExactWideWayUptoSaid : Prop := fnExactWideWayUptoRow.holds Try.pinned (OpenSpec.upto fnExactWideWaySpec)

/-- 'laws.FnExactGreatFlow', WHERE WHAT IT READS IS OF BULK AT MOST 1048576: true; the input reads as it did. -/
def fnExactGreatFlowUptoRow : OpenClaim := { program := "ytjbmcdnnnkfhgaa", sum := "1193464103ac2f619b11a058dea0d06e48c3d83881cdf31665ca1acec496edf7", func := "loop.example/g01346/laws.FnExactGreatFlow", spec := "fnExactGreatFlow", apart := false, narrowed := true }
def FnExactGreatFlowUptoSaid : Prop := fnExactGreatFlowUptoRow.holds Try.pinned (OpenSpec.upto fnExactGreatFlowSpec)

/-- 'laws.FnExactPushFlow', WHERE WHAT IT READS IS OF BULK AT MOST 1048576: true; the input reads as it did. -/
def fnExactPushFlowUptoRow : OpenClaim := { program := "ytjbmcdnnnkfhgaa", sum := "1193464103ac2f619b11a058dea0d06e48c3d83881cdf31665ca1acec496edf7", func := "loop.example/g01346/laws.FnExactPushFlow", spec := "fnExactPushFlow", apart := false, narrowed := true }
def FnExactPushFlowUptoSaid : Prop := fnExactPushFlowUptoRow.holds Try.pinned (OpenSpec.upto fnExactPushFlowSpec)

/-- 'laws.FnExactLossRound', WHERE WHAT IT READS IS OF BULK AT MOST 1048576: true; the input reads as it did. -/
def fnExactLossRoundUptoRow : OpenClaim := { program := "ytjbmcdnnnkfhgaa", sum := "1193464103ac2f619b11a058dea0d06e48c3d83881cdf31665ca1acec496edf7", func := "loop.example/g01346/laws.FnExactLossRound", spec := "fnExactLossRound", apart := false, narrowed := true }
def FnExactLossRoundUptoSaid : Prop := fnExactLossRoundUptoRow.holds Try.pinned (OpenSpec.upto fnExactLossRoundSpec)

end Rows
end Go.Proofs.Ytjbmcdnnnkfhgaa
