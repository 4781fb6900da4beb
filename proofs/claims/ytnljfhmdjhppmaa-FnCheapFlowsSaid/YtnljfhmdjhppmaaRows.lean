/-
  No cell of these rows narrows 'for every input' (looked for: loops, veiled, ifaces, maps, wideKeys, modest, calm, conditions, laid).
  DERIVED. THE GIVEN ROWS OF THIS SEAT. 8 by the template 'for every input the law returns true; each argument reads behind the call as it read before'; 0 by the template 'total and deterministic' (their statements: YtnljfhmdjhppmaaTotals.lean).
  GIVEN WITH THE SEED: the statements are not yours to turn. If you find one false, say at which input.
  Laid BY PROGRAM, IN A SANDBOX (cutbox-rows.mjs): the forced cells as the released guide's own fill.sh prints them over the translation 56494dbfdd051b5f… (all of the seat's roots in one cut). By AI agents, Wed Nov 11 2026. No macro, syntax, notation, axiom, sorry.
-/
import Derived.Test.YtnljfhmdjhppmaaChecked
import GoSem.Claim
import GoSem.ClaimJoined
import GoSem.ClaimMapViews
import Derived.JoinedTies
import Derived.KernelRfl
namespace Go.Proofs.Ytnljfhmdjhppmaa
/- THE CELL 'sum', in the pinned program and in every row, IS THE sha256 OF THE DUMP (.gsa) THAT YtnljfhmdjhppmaaProg.lean LOADS. Nothing in Lean hashes anything: it is a label: what it is worth is what the hold of that sum in a sandbox is worth. -/
noncomputable def Try.pinned : Pinned := { name := "ytnljfhmdjhppmaa", sum := "56494dbfdd051b5f761ef31701f4b113ae765863dcb2c36c9f1857c15d8bca43", checked := Try.checked }
namespace Rows
def none {H : Type} : Left H := { results := [], args := [] }

/-- 'laws.FnCheapFlows': WHATEVER THE INPUT: true; the input reads as it did. -/
def fnCheapFlowsSpec : ChangeSpec := { name := "fnCheapFlows", fn := fun _ => fun
  | [d1, d2] => { results := [.lit (.bool true)], args := [d1, d2] }
  | _ => none }
def fnCheapFlowsRow : OpenClaim := { program := "ytnljfhmdjhppmaa", sum := "56494dbfdd051b5f761ef31701f4b113ae765863dcb2c36c9f1857c15d8bca43", func := "loop.example/g01346/laws.FnCheapFlows", spec := "fnCheapFlows", apart := false }
def FnCheapFlowsSaid : Prop := fnCheapFlowsRow.holds Try.pinned (OpenSpec.ofChange fnCheapFlowsSpec)

/-- ITS FALSE NEIGHBOUR: 'it returns false'. Refute it at one input. -/
def fnCheapFlowsWrong : ChangeSpec := { name := "fnCheapFlows", fn := fun _ => fun
  | [d1, d2] => { results := [.lit (.bool false)], args := [d1, d2] }
  | _ => none }
def FnCheapFlowsWrongFalsely : Prop := fnCheapFlowsRow.holds Try.pinned (OpenSpec.ofChange fnCheapFlowsWrong)

/-- 'laws.FnExactCheapFlow': WHATEVER THE INPUT: true; the input reads as it did. -/
def fnExactCheapFlowSpec : ChangeSpec := { name := "fnExactCheapFlow", fn := fun _ => fun
  | [d1, d2, d3, d4] => { results := [.lit (.bool true)], args := [d1, d2, d3, d4] }
  | _ => none }
def fnExactCheapFlowRow : OpenClaim := { program := "ytnljfhmdjhppmaa", sum := "56494dbfdd051b5f761ef31701f4b113ae765863dcb2c36c9f1857c15d8bca43", func := "loop.example/g01346/laws.FnExactCheapFlow", spec := "fnExactCheapFlow", apart := false }
def FnExactCheapFlowSaid : Prop := fnExactCheapFlowRow.holds Try.pinned (OpenSpec.ofChange fnExactCheapFlowSpec)

/-- ITS FALSE NEIGHBOUR: 'it returns false'. Refute it at one input. -/
def fnExactCheapFlowWrong : ChangeSpec := { name := "fnExactCheapFlow", fn := fun _ => fun
  | [d1, d2, d3, d4] => { results := [.lit (.bool false)], args := [d1, d2, d3, d4] }
  | _ => none }
def FnExactCheapFlowWrongFalsely : Prop := fnExactCheapFlowRow.holds Try.pinned (OpenSpec.ofChange fnExactCheapFlowWrong)

/-- 'laws.FnExactGreatFlow': WHATEVER THE INPUT: true; the input reads as it did. -/
def fnExactGreatFlowSpec : ChangeSpec := { name := "fnExactGreatFlow", fn := fun _ => fun
  | [d1, d2, d3] => { results := [.lit (.bool true)], args := [d1, d2, d3] }
  | _ => none }
def fnExactGreatFlowRow : OpenClaim := { program := "ytnljfhmdjhppmaa", sum := "56494dbfdd051b5f761ef31701f4b113ae765863dcb2c36c9f1857c15d8bca43", func := "loop.example/g01346/laws.FnExactGreatFlow", spec := "fnExactGreatFlow", apart := false }
def FnExactGreatFlowSaid : Prop := fnExactGreatFlowRow.holds Try.pinned (OpenSpec.ofChange fnExactGreatFlowSpec)

/-- ITS FALSE NEIGHBOUR: 'it returns false'. Refute it at one input. -/
def fnExactGreatFlowWrong : ChangeSpec := { name := "fnExactGreatFlow", fn := fun _ => fun
  | [d1, d2, d3] => { results := [.lit (.bool false)], args := [d1, d2, d3] }
  | _ => none }
def FnExactGreatFlowWrongFalsely : Prop := fnExactGreatFlowRow.holds Try.pinned (OpenSpec.ofChange fnExactGreatFlowWrong)

/-- 'laws.FnExactIsFlow': WHATEVER THE INPUT: true; the input reads as it did. -/
def fnExactIsFlowSpec : ChangeSpec := { name := "fnExactIsFlow", fn := fun _ => fun
  | [d1, d2, d3, d4] => { results := [.lit (.bool true)], args := [d1, d2, d3, d4] }
  | _ => none }
def fnExactIsFlowRow : OpenClaim := { program := "ytnljfhmdjhppmaa", sum := "56494dbfdd051b5f761ef31701f4b113ae765863dcb2c36c9f1857c15d8bca43", func := "loop.example/g01346/laws.FnExactIsFlow", spec := "fnExactIsFlow", apart := false }
def FnExactIsFlowSaid : Prop := fnExactIsFlowRow.holds Try.pinned (OpenSpec.ofChange fnExactIsFlowSpec)

/-- ITS FALSE NEIGHBOUR: 'it returns false'. Refute it at one input. -/
def fnExactIsFlowWrong : ChangeSpec := { name := "fnExactIsFlow", fn := fun _ => fun
  | [d1, d2, d3, d4] => { results := [.lit (.bool false)], args := [d1, d2, d3, d4] }
  | _ => none }
def FnExactIsFlowWrongFalsely : Prop := fnExactIsFlowRow.holds Try.pinned (OpenSpec.ofChange fnExactIsFlowWrong)

/-- 'laws.FnExactFlowAmount': WHATEVER THE INPUT: true; the input reads as it did. -/
def fnExactFlowAmountSpec : ChangeSpec := { name := "fnExactFlowAmount", fn := fun _ => fun
  | [d1, d2, d3] => { results := [.lit (.bool true)], args := [d1, d2, d3] }
  | _ => none }
def fnExactFlowAmountRow : OpenClaim := { program := "ytnljfhmdjhppmaa", sum := "56494dbfdd051b5f761ef31701f4b113ae765863dcb2c36c9f1857c15d8bca43", func := "loop.example/g01346/laws.FnExactFlowAmount", spec := "fnExactFlowAmount", apart := false }
def FnExactFlowAmountSaid : Prop := fnExactFlowAmountRow.holds Try.pinned (OpenSpec.ofChange fnExactFlowAmountSpec)

/-- ITS FALSE NEIGHBOUR: 'it returns false'. Refute it at one input. -/
def fnExactFlowAmountWrong : ChangeSpec := { name := "fnExactFlowAmount", fn := fun _ => fun
  | [d1, d2, d3] => { results := [.lit (.bool false)], args := [d1, d2, d3] }
  | _ => none }
def FnExactFlowAmountWrongFalsely : Prop := fnExactFlowAmountRow.holds Try.pinned (OpenSpec.ofChange fnExactFlowAmountWrong)

/-- 'laws.FnExactFlowCost': WHATEVER THE INPUT: true; the input reads as it did. -/
def fnExactFlowCostSpec : ChangeSpec := { name := "fnExactFlowCost", fn := fun _ => fun
  | [d1, d2] => { results := [.lit (.bool true)], args := [d1, d2] }
  | _ => none }
def fnExactFlowCostRow : OpenClaim := { program := "ytnljfhmdjhppmaa", sum := "56494dbfdd051b5f761ef31701f4b113ae765863dcb2c36c9f1857c15d8bca43", func := "loop.example/g01346/laws.FnExactFlowCost", spec := "fnExactFlowCost", apart := false }
def FnExactFlowCostSaid : Prop := fnExactFlowCostRow.holds Try.pinned (OpenSpec.ofChange fnExactFlowCostSpec)

/-- ITS FALSE NEIGHBOUR: 'it returns false'. Refute it at one input. -/
def fnExactFlowCostWrong : ChangeSpec := { name := "fnExactFlowCost", fn := fun _ => fun
  | [d1, d2] => { results := [.lit (.bool false)], args := [d1, d2] }
  | _ => none }
def FnExactFlowCostWrongFalsely : Prop := fnExactFlowCostRow.holds Try.pinned (OpenSpec.ofChange fnExactFlowCostWrong)

/-- 'laws.FnExactLossRound': WHATEVER THE INPUT: true; the input reads as it did. -/
def fnExactLossRoundSpec : ChangeSpec := { name := "fnExactLossRound", fn := fun _ => fun
  | [d1, d2] => { results := [.lit (.bool true)], args := [d1, d2] }
  | _ => none }
def fnExactLossRoundRow : OpenClaim := { program := "ytnljfhmdjhppmaa", sum := "56494dbfdd051b5f761ef31701f4b113ae765863dcb2c36c9f1857c15d8bca43", func := "loop.example/g01346/laws.FnExactLossRound", spec := "fnExactLossRound", apart := false }
def FnExactLossRoundSaid : Prop := fnExactLossRoundRow.holds Try.pinned (OpenSpec.ofChange fnExactLossRoundSpec)

/-- ITS FALSE NEIGHBOUR: 'it returns false'. Refute it at one input. -/
def fnExactLossRoundWrong : ChangeSpec := { name := "fnExactLossRound", fn := fun _ => fun
  | [d1, d2] => { results := [.lit (.bool false)], args := [d1, d2] }
  | _ => none }
def FnExactLossRoundWrongFalsely : Prop := fnExactLossRoundRow.holds Try.pinned (OpenSpec.ofChange fnExactLossRoundWrong)

/-- 'laws.FnExactWayOfFlow': WHATEVER THE INPUT: true; the input reads as it did. -/
def fnExactWayOfFlowSpec : ChangeSpec := { name := "fnExactWayOfFlow", fn := fun _ => fun
  | [d1, d2, d3, d4] => { results := [.lit (.bool true)], args := [d1, d2, d3, d4] }
  | _ => none }
def fnExactWayOfFlowRow : OpenClaim := { program := "ytnljfhmdjhppmaa", sum := "56494dbfdd051b5f761ef31701f4b113ae765863dcb2c36c9f1857c15d8bca43", func := "loop.example/g01346/laws.FnExactWayOfFlow", spec := "fnExactWayOfFlow", apart := false }
def FnExactWayOfFlowSaid : Prop := fnExactWayOfFlowRow.holds Try.pinned (OpenSpec.ofChange fnExactWayOfFlowSpec)

/-- ITS FALSE NEIGHBOUR: 'it returns false'. Refute it at one input. -/
def fnExactWayOfFlowWrong : ChangeSpec := { name := "fnExactWayOfFlow", fn := fun _ => fun
  | [d1, d2, d3, d4] => { results := [.lit (.bool false)], args := [d1, d2, d3, d4] }
  | _ => none }
def FnExactWayOfFlowWrongFalsely : Prop := fnExactWayOfFlowRow.holds Try.pinned (OpenSpec.ofChange fnExactWayOfFlowWrong)

/- THE SECOND FORM. 'bulk': how many values and letters a reading holds, each counted each time it is reached (what is shared counts as often as it is met; a slice's spare places count too). A statement '..UptoSaid' is the law's where the arguments, and the package variables that the reading takes, are together of bulk at most 1048576: NARROWER than '..Said'. Prove '..Said' where nothing that the law and all that it calls make is longer than what came in: it says more and counts as full. Else prove '..UptoSaid'. A law counts once. -/
mutual
def uptoBulk {H : Type} : DataW H → Nat
  | .lit (.string bytes) => bytes.length + 1
  | .lit _ => 1
  | .nil => 1
  | .ptr d => uptoBulk d + 1
  | .slice elems spare => uptoBulkAll elems + uptoBulkAll spare + 1
  | .agg parts => uptoBulkAll parts + 1
  | .iface _ d => uptoBulk d + 1
  | .map entries => uptoBulkEntries entries + 1
  | .held _ => 1
def uptoBulkAll {H : Type} : List (DataW H) → Nat
  | [] => 0
  | d :: r => uptoBulk d + uptoBulkAll r
def uptoBulkEntries {H : Type} : List (Lit × DataW H) → Nat
  | [] => 0
  | x :: r => uptoBulkEntry x + uptoBulkEntries r
def uptoBulkEntry {H : Type} : Lit × DataW H → Nat
  | (.string bytes, d) => bytes.length + uptoBulk d + 1
  | (_, d) => uptoBulk d + 1
 end
def uptoSmall : (H : Type) → List (DataW H) → Bool := fun _ ds => decide (uptoBulkAll ds ≤ 1048576)
def OpenSpec.upto (s : _root_.Go.ChangeSpec) : _root_.Go.OpenSpec := { _root_.Go.OpenSpec.ofChange s with cond := some uptoSmall }

/-- 'laws.FnCheapFlows', WHERE WHAT IT READS IS OF BULK AT MOST 1048576: true; the input reads as it did. -/
def fnCheapFlowsUptoRow : OpenClaim := { program := "ytnljfhmdjhppmaa", sum := "56494dbfdd051b5f761ef31701f4b113ae765863dcb2c36c9f1857c15d8bca43", func := "loop.example/g01346/laws.FnCheapFlows", spec := "fnCheapFlows", apart := false, narrowed := true }
def FnCheapFlowsUptoSaid : Prop := fnCheapFlowsUptoRow.holds Try.pinned (OpenSpec.upto fnCheapFlowsSpec)

/-- 'laws.FnExactCheapFlow', WHERE WHAT IT READS IS OF BULK AT MOST 1048576: true; the input reads as it did. -/
def fnExactCheapFlowUptoRow : OpenClaim := { program := "ytnljfhmdjhppmaa", sum := "56494dbfdd051b5f761ef31701f4b113ae765863dcb2c36c9f1857c15d8bca43", func := "loop.example/g01346/laws.FnExactCheapFlow", spec := "fnExactCheapFlow", apart := false, narrowed := true }
def FnExactCheapFlowUptoSaid : Prop := fnExactCheapFlowUptoRow.holds Try.pinned (OpenSpec.upto fnExactCheapFlowSpec)

/-- 'laws.FnExactGreatFlow', WHERE WHAT IT READS IS OF BULK AT MOST 1048576: true; the input reads as it did. -/
def fnExactGreatFlowUptoRow : OpenClaim := { program := "ytnljfhmdjhppmaa", sum := "56494dbfdd051b5f761ef31701f4b113ae765863dcb2c36c9f1857c15d8bca43", func := "loop.example/g01346/laws.FnExactGreatFlow", spec := "fnExactGreatFlow", apart := false, narrowed := true }
def FnExactGreatFlowUptoSaid : Prop := fnExactGreatFlowUptoRow.holds Try.pinned (OpenSpec.upto fnExactGreatFlowSpec)

/-- 'laws.FnExactIsFlow', WHERE WHAT IT READS IS OF BULK AT MOST 1048576: true; the input reads as it did. -/
def fnExactIsFlowUptoRow : OpenClaim := { program := "ytnljfhmdjhppmaa", sum := "56494dbfdd051b5f761ef31701f4b113ae765863dcb2c36c9f1857c15d8bca43", func := "loop.example/g01346/laws.FnExactIsFlow", spec := "fnExactIsFlow", apart := false, narrowed := true }
def FnExactIsFlowUptoSaid : Prop := fnExactIsFlowUptoRow.holds Try.pinned (OpenSpec.upto fnExactIsFlowSpec)

/-- 'laws.FnExactFlowAmount', WHERE WHAT IT READS IS OF BULK AT MOST 1048576: true; the input reads as it did. -/
def fnExactFlowAmountUptoRow : OpenClaim := { program := "ytnljfhmdjhppmaa", sum := "56494dbfdd051b5f761ef31701f4b113ae765863dcb2c36c9f1857c15d8bca43", func := "loop.example/g01346/laws.FnExactFlowAmount", spec := "fnExactFlowAmount", apart := false, narrowed := true }
def FnExactFlowAmountUptoSaid : Prop := fnExactFlowAmountUptoRow.holds Try.pinned (OpenSpec.upto fnExactFlowAmountSpec)

/-- 'laws.FnExactFlowCost', WHERE WHAT IT READS IS OF BULK AT MOST 1048576: true; the input reads as it did. -/
def fnExactFlowCostUptoRow : OpenClaim := { program := "ytnljfhmdjhppmaa", sum := "56494dbfdd051b5f761ef31701f4b113ae765863dcb2c36c9f1857c15d8bca43", func := "loop.example/g01346/laws.FnExactFlowCost", spec := "fnExactFlowCost", apart := false, narrowed := true }
def FnExactFlowCostUptoSaid : Prop := fnExactFlowCostUptoRow.holds Try.pinned (OpenSpec.upto fnExactFlowCostSpec)

/-- 'laws.FnExactLossRound', WHERE WHAT IT READS IS OF BULK AT MOST 1048576: true; the input reads as it did. -/
def fnExactLossRoundUptoRow : OpenClaim := { program := "ytnljfhmdjhppmaa", sum := "56494dbfdd051b5f761ef31701f4b113ae765863dcb2c36c9f1857c15d8bca43", func := "loop.example/g01346/laws.FnExactLossRound", spec := "fnExactLossRound", apart := false, narrowed := true }
def FnExactLossRoundUptoSaid : Prop := fnExactLossRoundUptoRow.holds Try.pinned (OpenSpec.upto fnExactLossRoundSpec)

/-- 'laws.FnExactWayOfFlow', WHERE WHAT IT READS IS OF BULK AT MOST 1048576: true; the input reads as it did. -/
def fnExactWayOfFlowUptoRow : OpenClaim := { program := "ytnljfhmdjhppmaa", sum := "56494dbfdd051b5f761ef31701f4b113ae765863dcb2c36c9f1857c15d8bca43", func := "loop.example/g01346/laws.FnExactWayOfFlow", spec := "fnExactWayOfFlow", apart := false, narrowed := true }
def FnExactWayOfFlowUptoSaid : Prop := fnExactWayOfFlowUptoRow.holds Try.pinned (OpenSpec.upto fnExactWayOfFlowSpec)

end Rows
end Go.Proofs.Ytnljfhmdjhppmaa
