/-
  No cell of these rows narrows 'for every input' (looked for: loops, veiled, ifaces, maps, wideKeys, modest, calm, conditions, laid).
  DERIVED. THE GIVEN ROWS OF THIS SEAT. 4 by the template 'for every input the law returns true; each argument reads behind the call as it read before'; 0 by the template 'total and deterministic' (their statements: YthhmgamcpjnjgaaTotals.lean).
  GIVEN WITH THE SEED: the statements are not yours to turn. If you find one false, say at which input.
  Laid BY PROGRAM, IN A SANDBOX (cutbox-rows.mjs): the forced cells as the released guide's own fill.sh prints them over the translation c803d287220a6aa6… (all of the seat's roots in one cut). By AI agents, Wed Nov 11 2026. No macro, syntax, notation, axiom, sorry.
-/
import Derived.Test.YthhmgamcpjnjgaaChecked
import GoSem.Claim
import GoSem.ClaimJoined
import GoSem.ClaimMapViews
import Derived.JoinedTies
import Derived.KernelRfl
namespace Go.Proofs.Ythhmgamcpjnjgaa
/- THE CELL 'sum', in the pinned program and in every row, IS THE sha256 OF THE DUMP (.gsa) THAT YthhmgamcpjnjgaaProg.lean LOADS. Nothing in Lean hashes anything: it is a label: what it is worth is what the hold of that sum in a sandbox is worth. -/
noncomputable def Try.pinned : Pinned := { name := "ythhmgamcpjnjgaa", sum := "c803d287220a6aa6b33691c1b74c39abcb684603f1235587e6f8beb7e92d49ab", checked := Try.checked }
namespace Rows
def none {H : Type} : Left H := { results := [], args := [] }

/-- 'laws.FnExactFlowsShared': WHATEVER THE INPUT: true; the input reads as it did. -/
def fnExactFlowsSharedSpec : ChangeSpec := { name := "fnExactFlowsShared", fn := fun _ => fun
  | [d1, d2, d3, d4] => { results := [.lit (.bool true)], args := [d1, d2, d3, d4] }
  | _ => none }
def fnExactFlowsSharedRow : OpenClaim := { program := "ythhmgamcpjnjgaa", sum := "c803d287220a6aa6b33691c1b74c39abcb684603f1235587e6f8beb7e92d49ab", func := "loop.example/g01346/laws.FnExactFlowsShared", spec := "fnExactFlowsShared", apart := false }
def FnExactFlowsSharedSaid : Prop := fnExactFlowsSharedRow.holds Try.pinned (OpenSpec.ofChange fnExactFlowsSharedSpec)

/-- ITS FALSE NEIGHBOUR: 'it returns false'. Refute it at one input. -/
def fnExactFlowsSharedWrong : ChangeSpec := { name := "fnExactFlowsShared", fn := fun _ => fun
  | [d1, d2, d3, d4] => { results := [.lit (.bool false)], args := [d1, d2, d3, d4] }
  | _ => none }
def FnExactFlowsSharedWrongFalsely : Prop := fnExactFlowsSharedRow.holds Try.pinned (OpenSpec.ofChange fnExactFlowsSharedWrong)

/-- 'laws.FnExactCutTree': WHATEVER THE INPUT: true; the input reads as it did. -/
def fnExactCutTreeSpec : ChangeSpec := { name := "fnExactCutTree", fn := fun _ => fun
  | [d] => { results := [.lit (.bool true)], args := [d] }
  | _ => none }
def fnExactCutTreeRow : OpenClaim := { program := "ythhmgamcpjnjgaa", sum := "c803d287220a6aa6b33691c1b74c39abcb684603f1235587e6f8beb7e92d49ab", func := "loop.example/g01346/laws.FnExactCutTree", spec := "fnExactCutTree", apart := false }
def FnExactCutTreeSaid : Prop := fnExactCutTreeRow.holds Try.pinned (OpenSpec.ofChange fnExactCutTreeSpec)

/-- ITS FALSE NEIGHBOUR: 'it returns false'. Refute it at one input. -/
def fnExactCutTreeWrong : ChangeSpec := { name := "fnExactCutTree", fn := fun _ => fun
  | [d] => { results := [.lit (.bool false)], args := [d] }
  | _ => none }
def FnExactCutTreeWrongFalsely : Prop := fnExactCutTreeRow.holds Try.pinned (OpenSpec.ofChange fnExactCutTreeWrong)

/-- 'laws.FnExactWayOfFlow': WHATEVER THE INPUT: true; the input reads as it did. -/
def fnExactWayOfFlowSpec : ChangeSpec := { name := "fnExactWayOfFlow", fn := fun _ => fun
  | [d1, d2, d3, d4] => { results := [.lit (.bool true)], args := [d1, d2, d3, d4] }
  | _ => none }
def fnExactWayOfFlowRow : OpenClaim := { program := "ythhmgamcpjnjgaa", sum := "c803d287220a6aa6b33691c1b74c39abcb684603f1235587e6f8beb7e92d49ab", func := "loop.example/g01346/laws.FnExactWayOfFlow", spec := "fnExactWayOfFlow", apart := false }
def FnExactWayOfFlowSaid : Prop := fnExactWayOfFlowRow.holds Try.pinned (OpenSpec.ofChange fnExactWayOfFlowSpec)

/-- ITS FALSE NEIGHBOUR: 'it returns false'. Refute it at one input. -/
def fnExactWayOfFlowWrong : ChangeSpec := { name := "fnExactWayOfFlow", fn := fun _ => fun
  | [d1, d2, d3, d4] => { results := [.lit (.bool false)], args := [d1, d2, d3, d4] }
  | _ => none }
def FnExactWayOfFlowWrongFalsely : Prop := fnExactWayOfFlowRow.holds Try.pinned (OpenSpec.ofChange fnExactWayOfFlowWrong)

/-- 'laws.FnExactCheapFlow': WHATEVER THE INPUT: true; the input reads as it did. -/
def fnExactCheapFlowSpec : ChangeSpec := { name := "fnExactCheapFlow", fn := fun _ => fun
  | [d1, d2, d3, d4] => { results := [.lit (.bool true)], args := [d1, d2, d3, d4] }
  | _ => none }
def fnExactCheapFlowRow : OpenClaim := { program := "ythhmgamcpjnjgaa", sum := "c803d287220a6aa6b33691c1b74c39abcb684603f1235587e6f8beb7e92d49ab", func := "loop.example/g01346/laws.FnExactCheapFlow", spec := "fnExactCheapFlow", apart := false }
def FnExactCheapFlowSaid : Prop := fnExactCheapFlowRow.holds Try.pinned (OpenSpec.ofChange fnExactCheapFlowSpec)

/-- ITS FALSE NEIGHBOUR: 'it returns false'. Refute it at one input. -/
def fnExactCheapFlowWrong : ChangeSpec := { name := "fnExactCheapFlow", fn := fun _ => fun
  | [d1, d2, d3, d4] => { results := [.lit (.bool false)], args := [d1, d2, d3, d4] }
  | _ => none }
def FnExactCheapFlowWrongFalsely : Prop := fnExactCheapFlowRow.holds Try.pinned (OpenSpec.ofChange fnExactCheapFlowWrong)

/- THE SECOND FORM. 'bulk': how many values and letters a reading holds, each counted each time it is reached (what is shared counts as often as it is met; a slice's spare places count too). A statement '..UptoSaid' is the law's where the arguments, and the package variables that the reading takes, are together of bulk at most 1048576: NARROWER than '..Said'. Prove '..Said' where nothing that the law and all that it calls make is longer than what came in: it says more and counts as full. Else prove '..UptoSaid'. A law counts once. -/
mutual
def uptoBulk {H : Type} : DataW H → Nat
  | .lit (.string bytes) => bytes.length + 1
  | .lit _ => 1
  | .nil => 1
  | .ptr d => uptoBulk d + 1
  | .slice elems spare => uptoBulkAll elems + uptoBulkAll spare + 1
  | .agg parts => uptoBulkAll parts + 1
  | .iface _ d => uptoBulk d + 1
  | .map entries => uptoBulkEntries entries + 1
  | .held _ => 1
def uptoBulkAll {H : Type} : List (DataW H) → Nat
  | [] => 0
  | d :: r => uptoBulk d + uptoBulkAll r
def uptoBulkEntries {H : Type} : List (Lit × DataW H) → Nat
  | [] => 0
  | x :: r => uptoBulkEntry x + uptoBulkEntries r
def uptoBulkEntry {H : Type} : Lit × DataW H → Nat
  | (.string bytes, d) => bytes.length + uptoBulk d + 1
  | (_, d) => uptoBulk d + 1
 end
def uptoSmall : (H : Type) → List (DataW H) → Bool := fun _ ds => decide (uptoBulkAll ds ≤ 1048576)
def OpenSpec.upto (s : _root_.Go.ChangeSpec) : _root_.Go.OpenSpec := { _root_.Go.OpenSpec.ofChange s with cond := some uptoSmall }

/-- 'laws.FnExactFlowsShared', WHERE WHAT IT READS IS OF BULK AT MOST 1048576: true; the input reads as it did. -/
def fnExactFlowsSharedUptoRow : OpenClaim := { program := "ythhmgamcpjnjgaa", sum := "c803d287220a6aa6b33691c1b74c39abcb684603f1235587e6f8beb7e92d49ab", func := "loop.example/g01346/laws.FnExactFlowsShared", spec := "fnExactFlowsShared", apart := false, narrowed := true }
def FnExactFlowsSharedUptoSaid : Prop := fnExactFlowsSharedUptoRow.holds Try.pinned (OpenSpec.upto fnExactFlowsSharedSpec)

/-- 'laws.FnExactCutTree', WHERE WHAT IT READS IS OF BULK AT MOST 1048576: true; the input reads as it did. -/
def fnExactCutTreeUptoRow : OpenClaim := { program := "ythhmgamcpjnjgaa", sum := "c803d287220a6aa6b33691c1b74c39abcb684603f1235587e6f8beb7e92d49ab", func := "loop.example/g01346/laws.FnExactCutTree", spec := "fnExactCutTree", apart := false, narrowed := true }
def FnExactCutTreeUptoSaid : Prop := fnExactCutTreeUptoRow.holds Try.pinned (OpenSpec.upto fnExactCutTreeSpec)

/-- 'laws.FnExactWayOfFlow', WHERE WHAT IT READS IS OF BULK AT MOST 1048576: true; the input reads as it did. -/
def fnExactWayOfFlowUptoRow : OpenClaim := { program := "ythhmgamcpjnjgaa", sum := "c803d287220a6aa6b33691c1b74c39abcb684603f1235587e6f8beb7e92d49ab", func := "loop.example/g01346/laws.FnExactWayOfFlow", spec := "fnExactWayOfFlow", apart := false, narrowed := true }
def FnExactWayOfFlowUptoSaid : Prop := fnExactWayOfFlowUptoRow.holds Try.pinned (OpenSpec.upto fnExactWayOfFlowSpec)

/-- 'laws.FnExactCheapFlow', WHERE WHAT IT READS IS OF BULK AT MOST 1048576: true; the input reads as it did. -/
def fnExactCheapFlowUptoRow : OpenClaim := { program := "ythhmgamcpjnjgaa", sum := "c803d287220a6aa6b33691c1b74c39abcb684603f1235587e6f8beb7e92d49ab", func := "loop.example/g01346/laws.FnExactCheapFlow", spec := "fnExactCheapFlow", apart := false, narrowed := true }
def FnExactCheapFlowUptoSaid : Prop := fnExactCheapFlowUptoRow.holds Try.pinned (OpenSpec.upto fnExactCheapFlowSpec)

end Rows
end Go.Proofs.Ythhmgamcpjnjgaa
