/-
  No cell of these rows narrows 'for every input' (looked for: loops, veiled, ifaces, maps, wideKeys, modest, calm, conditions, laid).
  DERIVED. THE GIVEN ROWS OF THIS SEAT. 5 by the template 'for every input the law returns true; each argument reads behind the call as it read before'; 0 by the template 'total and deterministic' (their statements: YtmkgccbpppcmoaaTotals.lean).
  GIVEN WITH THE SEED: the statements are not yours to turn. If you find one false, say at which input.
  Laid BY PROGRAM, IN A SANDBOX (cutbox-rows.mjs): the forced cells as the released guide's own fill.sh prints them over the translation eacc90e692409cc7… (all of the seat's roots in one cut). By AI agents, Wed Nov 11 2026. No macro, syntax, notation, axiom, sorry.
-/
import Derived.Test.YtmkgccbpppcmoaaChecked
import GoSem.Claim
import GoSem.ClaimJoined
import GoSem.ClaimMapViews
import Derived.JoinedTies
import Derived.KernelRfl
namespace Go.Proofs.Ytmkgccbpppcmoaa
/- THE CELL 'sum', in the pinned program and in every row, IS THE sha256 OF THE DUMP (.gsa) THAT YtmkgccbpppcmoaaProg.lean LOADS. Nothing in Lean hashes anything: it is a label: what it is worth is what the hold of that sum in a sandbox is worth. -/
noncomputable def Try.pinned : Pinned := { name := "ytmkgccbpppcmoaa", sum := "eacc90e692409cc75a0412860cfac714b8a3439f7f9f609f16a08d97e7894898", checked := Try.checked }
namespace Rows
def none {H : Type} : Left H := { results := [], args := [] }

/-- 'laws.FnExactBestPairs': WHATEVER THE INPUT: true; the input reads as it did. -/
def fnExactBestPairsSpec : ChangeSpec := { name := "fnExactBestPairs", fn := fun _ => fun
  | [d1, d2] => { results := [.lit (.bool true)], args := [d1, d2] }
  | _ => none }
def fnExactBestPairsRow : OpenClaim := { program := "ytmkgccbpppcmoaa", sum := "eacc90e692409cc75a0412860cfac714b8a3439f7f9f609f16a08d97e7894898", func := "loop.example/g01346/laws.FnExactBestPairs", spec := "fnExactBestPairs", apart := false }
def FnExactBestPairsSaid : Prop := fnExactBestPairsRow.holds Try.pinned (OpenSpec.ofChange fnExactBestPairsSpec)

/-- ITS FALSE NEIGHBOUR: 'it returns false'. Refute it at one input. -/
def fnExactBestPairsWrong : ChangeSpec := { name := "fnExactBestPairs", fn := fun _ => fun
  | [d1, d2] => { results := [.lit (.bool false)], args := [d1, d2] }
  | _ => none }
def FnExactBestPairsWrongFalsely : Prop := fnExactBestPairsRow.holds Try.pinned (OpenSpec.ofChange fnExactBestPairsWrong)

/-- 'laws.FnExactWayOfFlow': WHATEVER THE INPUT: true; the input reads as it did. -/
def fnExactWayOfFlowSpec : ChangeSpec := { name := "fnExactWayOfFlow", fn := fun _ => fun
  | [d1, d2, d3, d4] => { results := [.lit (.bool true)], args := [d1, d2, d3, d4] }
  | _ => none }
def fnExactWayOfFlowRow : OpenClaim := { program := "ytmkgccbpppcmoaa", sum := "eacc90e692409cc75a0412860cfac714b8a3439f7f9f609f16a08d97e7894898", func := "loop.example/g01346/laws.FnExactWayOfFlow", spec := "fnExactWayOfFlow", apart := false }
def FnExactWayOfFlowSaid : Prop := fnExactWayOfFlowRow.holds Try.pinned (OpenSpec.ofChange fnExactWayOfFlowSpec)

/-- ITS FALSE NEIGHBOUR: 'it returns false'. Refute it at one input. -/
def fnExactWayOfFlowWrong : ChangeSpec := { name := "fnExactWayOfFlow", fn := fun _ => fun
  | [d1, d2, d3, d4] => { results := [.lit (.bool false)], args := [d1, d2, d3, d4] }
  | _ => none }
def FnExactWayOfFlowWrongFalsely : Prop := fnExactWayOfFlowRow.holds Try.pinned (OpenSpec.ofChange fnExactWayOfFlowWrong)

/-- 'laws.FnExactCheapFlow': WHATEVER THE INPUT: true; the input reads as it did. -/
def fnExactCheapFlowSpec : ChangeSpec := { name := "fnExactCheapFlow", fn := fun _ => fun
  | [d1, d2, d3, d4] => { results := [.lit (.bool true)], args := [d1, d2, d3, d4] }
  | _ => none }
def fnExactCheapFlowRow : OpenClaim := { program := "ytmkgccbpppcmoaa", sum := "eacc90e692409cc75a0412860cfac714b8a3439f7f9f609f16a08d97e7894898", func := "loop.example/g01346/laws.FnExactCheapFlow", spec := "fnExactCheapFlow", apart := false }
def FnExactCheapFlowSaid : Prop := fnExactCheapFlowRow.holds Try.pinned (OpenSpec.ofChange fnExactCheapFlowSpec)

/-- ITS FALSE NEIGHBOUR: 'it returns false'. Refute it at one input. -/
def fnExactCheapFlowWrong : ChangeSpec := { name := "fnExactCheapFlow", fn := fun _ => fun
  | [d1, d2, d3, d4] => { results := [.lit (.bool false)], args := [d1, d2, d3, d4] }
  | _ => none }
def FnExactCheapFlowWrongFalsely : Prop := fnExactCheapFlowRow.holds Try.pinned (OpenSpec.ofChange fnExactCheapFlowWrong)

/-- 'laws.FnExactCheapTree': WHATEVER THE INPUT: true; the input reads as it did. -/
def fnExactCheapTreeSpec : ChangeSpec := { name := "fnExactCheapTree", fn := fun _ => fun
  | [d] => { results := [.lit (.bool true)], args := [d] }
  | _ => none }
def fnExactCheapTreeRow : OpenClaim := { program := "ytmkgccbpppcmoaa", sum := "eacc90e692409cc75a0412860cfac714b8a3439f7f9f609f16a08d97e7894898", func := "loop.example/g01346/laws.FnExactCheapTree", spec := "fnExactCheapTree", unfollowed := true, recurses := true, apart := false }
def FnExactCheapTreeSaid : Prop := fnExactCheapTreeRow.holds Try.pinned (OpenSpec.ofChange fnExactCheapTreeSpec)

/-- ITS FALSE NEIGHBOUR: 'it returns false'. Refute it at one input. -/
def fnExactCheapTreeWrong : ChangeSpec := { name := "fnExactCheapTree", fn := fun _ => fun
  | [d] => { results := [.lit (.bool false)], args := [d] }
  | _ => none }
def FnExactCheapTreeWrongFalsely : Prop := fnExactCheapTreeRow.holds Try.pinned (OpenSpec.ofChange fnExactCheapTreeWrong)

/-- 'laws.FnExactRootTree': WHATEVER THE INPUT: true; the input reads as it did. -/
def fnExactRootTreeSpec : ChangeSpec := { name := "fnExactRootTree", fn := fun _ => fun
  | [d1, d2] => { results := [.lit (.bool true)], args := [d1, d2] }
  | _ => none }
def fnExactRootTreeRow : OpenClaim := { program := "ytmkgccbpppcmoaa", sum := "eacc90e692409cc75a0412860cfac714b8a3439f7f9f609f16a08d97e7894898", func := "loop.example/g01346/laws.FnExactRootTree", spec := "fnExactRootTree", recurses := true, apart := false }
def FnExactRootTreeSaid : Prop := fnExactRootTreeRow.holds Try.pinned (OpenSpec.ofChange fnExactRootTreeSpec)

/-- ITS FALSE NEIGHBOUR: 'it returns false'. Refute it at one input. -/
def fnExactRootTreeWrong : ChangeSpec := { name := "fnExactRootTree", fn := fun _ => fun
  | [d1, d2] => { results := [.lit (.bool false)], args := [d1, d2] }
  | _ => none }
def FnExactRootTreeWrongFalsely : Prop := fnExactRootTreeRow.holds Try.pinned (OpenSpec.ofChange fnExactRootTreeWrong)

/- THE SECOND FORM. 'bulk': how many values and letters a reading holds, each counted each time it is reached (what is shared counts as often as it is met; a slice's spare places count too). A statement '..UptoSaid' is the law's where the arguments, and the package variables that the reading takes, are together of bulk at most 1048576: NARROWER than '..Said'. Prove '..Said' where nothing that the law and all that it calls make is longer than what came in: it says more and counts as full. Else prove '..UptoSaid'. A law counts once. -/
mutual
def uptoBulk {H : Type} : DataW H → Nat
  | .lit (.string bytes) => bytes.length + 1
  | .lit _ => 1
  | .nil => 1
  | .ptr d => uptoBulk d + 1
  | .slice elems spare => uptoBulkAll elems + uptoBulkAll spare + 1
  | .agg parts => uptoBulkAll parts + 1
  | .iface _ d => uptoBulk d + 1
  | .map entries => uptoBulkEntries entries + 1
  | .held _ => 1
def uptoBulkAll {H : Type} : List (DataW H) → Nat
  | [] => 0
  | d :: r => uptoBulk d + uptoBulkAll r
def uptoBulkEntries {H : Type} : List (Lit × DataW H) → Nat
  | [] => 0
  | x :: r => uptoBulkEntry x + uptoBulkEntries r
def uptoBulkEntry {H : Type} : Lit × DataW H → Nat
  | (.string bytes, d) => bytes.length + uptoBulk d + 1
  | (_, d) => uptoBulk d + 1
 end
def uptoSmall : (H : Type) → List (DataW H) → Bool := fun _ ds => decide (uptoBulkAll ds ≤ 1048576)
def OpenSpec.upto (s : _root_.Go.ChangeSpec) : _root_.Go.OpenSpec := { _root_.Go.OpenSpec.ofChange s with cond := some uptoSmall }

/-- 'laws.FnExactBestPairs', WHERE WHAT IT READS IS OF BULK AT MOST 1048576: true; the input reads as it did. -/
def fnExactBestPairsUptoRow : OpenClaim := { program := "ytmkgccbpppcmoaa", sum := "eacc90e692409cc75a0412860cfac714b8a3439f7f9f609f16a08d97e7894898", func := "loop.example/g01346/laws.FnExactBestPairs", spec := "fnExactBestPairs", apart := false, narrowed := true }
def FnExactBestPairsUptoSaid : Prop := fnExactBestPairsUptoRow.holds Try.pinned (OpenSpec.upto fnExactBestPairsSpec)

/-- 'laws.FnExactWayOfFlow', WHERE WHAT IT READS IS OF BULK AT MOST 1048576: true; the input reads as it did. -/
def fnExactWayOfFlowUptoRow : OpenClaim := { program := "ytmkgccbpppcmoaa", sum := "eacc90e692409cc75a0412860cfac714b8a3439f7f9f609f16a08d97e7894898", func := "loop.example/g01346/laws.FnExactWayOfFlow", spec := "fnExactWayOfFlow", apart := false, narrowed := true }
def FnExactWayOfFlowUptoSaid : Prop := fnExactWayOfFlowUptoRow.holds Try.pinned (OpenSpec.upto fnExactWayOfFlowSpec)

/-- 'laws.FnExactCheapFlow', WHERE WHAT IT READS IS OF BULK AT MOST 1048576: true; the input reads as it did. -/
def fnExactCheapFlowUptoRow : OpenClaim := { program := "ytmkgccbpppcmoaa", sum := "eacc90e692409cc75a0412860cfac714b8a3439f7f9f609f16a08d97e7894898", func := "loop.example/g01346/laws.FnExactCheapFlow", spec := "fnExactCheapFlow", apart := false, narrowed := true }
def FnExactCheapFlowUptoSaid : Prop := fnExactCheapFlowUptoRow.holds Try.pinned (OpenSpec.upto fnExactCheapFlowSpec)

/-- 'laws.FnExactCheapTree', WHERE WHAT IT READS IS OF BULK AT MOST 1048576: true; the input reads as it did. -/
def fnExactCheapTreeUptoRow : OpenClaim := { program := "ytmkgccbpppcmoaa", sum := "eacc90e692409cc75a0412860cfac714b8a3439f7f9f609f16a08d97e7894898", func := "loop.example/g01346/laws.FnExactCheapTree", spec := "fnExactCheapTree", unfollowed := true, recurses := true, apart := false, narrowed := true }
def FnExactCheapTreeUptoSaid : Prop := fnExactCheapTreeUptoRow.holds Try.pinned (OpenSpec.upto fnExactCheapTreeSpec)

/-- 'laws.FnExactRootTree', WHERE WHAT IT READS IS OF BULK AT MOST 1048576: true; the input reads as it did. -/
def fnExactRootTreeUptoRow : OpenClaim := { program := "ytmkgccbpppcmoaa", sum := "eacc90e692409cc75a0412860cfac714b8a3439f7f9f609f16a08d97e7894898", func := "loop.example/g01346/laws.FnExactRootTree", spec := "fnExactRootTree", recurses := true, apart := false, narrowed := true }
def FnExactRootTreeUptoSaid : Prop := fnExactRootTreeUptoRow.holds Try.pinned (OpenSpec.upto fnExactRootTreeSpec)

end Rows
end Go.Proofs.Ytmkgccbpppcmoaa
