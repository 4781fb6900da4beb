/-
  No cell of these rows narrows 'for every input' (looked for: loops, veiled, ifaces, maps, wideKeys, modest, calm, conditions, laid).
  DERIVED. THE GIVEN ROWS OF THIS SEAT. 6 by the template 'for every input the law returns true; each argument reads behind the call as it read before'; 0 by the template 'total and deterministic' (their statements: YtefplmkffbcgfaaTotals.lean).
  GIVEN WITH THE SEED: the statements are not yours to turn. If you find one false, say at which input.
  Laid BY PROGRAM, IN A SANDBOX (cutbox-rows.mjs): the forced cells as the released guide's own fill.sh prints them over the translation 05a6e14e1246e299… (all of the seat's roots in one cut). By AI agents, Wed Nov 11 2026. No macro, syntax, notation, axiom, sorry.
-/
import Derived.Test.YtefplmkffbcgfaaChecked
import GoSem.Claim
import GoSem.ClaimJoined
import GoSem.ClaimMapViews
import Derived.JoinedTies
import Derived.KernelRfl
namespace Go.Proofs.Ytefplmkffbcgfaa
/- THE CELL 'sum', in the pinned program and in every row, IS THE sha256 OF THE DUMP (.gsa) THAT YtefplmkffbcgfaaProg.lean LOADS. Nothing in Lean hashes anything: it is a label: what it is worth is what the hold of that sum in a sandbox is worth. -/
noncomputable def Try.pinned : Pinned := { name := "ytefplmkffbcgfaa", sum := "05a6e14e1246e29909bd1f793f6826171214f3e695f8f76d5aa42569668ad7af", checked := Try.checked }
namespace Rows
def none {H : Type} : Left H := { results := [], args := [] }

/-- 'laws.FnExactPlainNet': WHATEVER THE INPUT: true; the input reads as it did. -/
def fnExactPlainNetSpec : ChangeSpec := { name := "fnExactPlainNet", fn := fun _ => fun
  | [d1, d2] => { results := [.lit (.bool true)], args := [d1, d2] }
  | _ => none }
def fnExactPlainNetRow : OpenClaim := { program := "ytefplmkffbcgfaa", sum := "05a6e14e1246e29909bd1f793f6826171214f3e695f8f76d5aa42569668ad7af", func := "loop.example/g01346/laws.FnExactPlainNet", spec := "fnExactPlainNet", apart := false }
def FnExactPlainNetSaid : Prop := fnExactPlainNetRow.holds Try.pinned (OpenSpec.ofChange fnExactPlainNetSpec)

/-- ITS FALSE NEIGHBOUR: 'it returns false'. Refute it at one input. -/
def fnExactPlainNetWrong : ChangeSpec := { name := "fnExactPlainNet", fn := fun _ => fun
  | [d1, d2] => { results := [.lit (.bool false)], args := [d1, d2] }
  | _ => none }
def FnExactPlainNetWrongFalsely : Prop := fnExactPlainNetRow.holds Try.pinned (OpenSpec.ofChange fnExactPlainNetWrong)

/-- 'laws.FnExactRootTree': WHATEVER THE INPUT: true; the input reads as it did. -/
def fnExactRootTreeSpec : ChangeSpec := { name := "fnExactRootTree", fn := fun _ => fun
  | [d1, d2] => { results := [.lit (.bool true)], args := [d1, d2] }
  | _ => none }
def fnExactRootTreeRow : OpenClaim := { program := "ytefplmkffbcgfaa", sum := "05a6e14e1246e29909bd1f793f6826171214f3e695f8f76d5aa42569668ad7af", func := "loop.example/g01346/laws.FnExactRootTree", spec := "fnExactRootTree", recurses := true, apart := false }
def FnExactRootTreeSaid : Prop := fnExactRootTreeRow.holds Try.pinned (OpenSpec.ofChange fnExactRootTreeSpec)

/-- ITS FALSE NEIGHBOUR: 'it returns false'. Refute it at one input. -/
def fnExactRootTreeWrong : ChangeSpec := { name := "fnExactRootTree", fn := fun _ => fun
  | [d1, d2] => { results := [.lit (.bool false)], args := [d1, d2] }
  | _ => none }
def FnExactRootTreeWrongFalsely : Prop := fnExactRootTreeRow.holds Try.pinned (OpenSpec.ofChange fnExactRootTreeWrong)

/-- 'laws.FnExactCheapTree': WHATEVER THE INPUT: true; the input reads as it did. -/
def fnExactCheapTreeSpec : ChangeSpec := { name := "fnExactCheapTree", fn := fun _ => fun
  | [d] => { results := [.lit (.bool true)], args := [d] }
  | _ => none }
def fnExactCheapTreeRow : OpenClaim := { program := "ytefplmkffbcgfaa", sum := "05a6e14e1246e29909bd1f793f6826171214f3e695f8f76d5aa42569668ad7af", func := "loop.example/g01346/laws.FnExactCheapTree", spec := "fnExactCheapTree", unfollowed := true, recurses := true, apart := false }
def FnExactCheapTreeSaid : Prop := fnExactCheapTreeRow.holds Try.pinned (OpenSpec.ofChange fnExactCheapTreeSpec)

/-- ITS FALSE NEIGHBOUR: 'it returns false'. Refute it at one input. -/
def fnExactCheapTreeWrong : ChangeSpec := { name := "fnExactCheapTree", fn := fun _ => fun
  | [d] => { results := [.lit (.bool false)], args := [d] }
  | _ => none }
def FnExactCheapTreeWrongFalsely : Prop := fnExactCheapTreeRow.holds Try.pinned (OpenSpec.ofChange fnExactCheapTreeWrong)

/-- 'laws.FnFlows': WHATEVER THE INPUT: true; the input reads as it did. -/
def fnFlowsSpec : ChangeSpec := { name := "fnFlows", fn := fun _ => fun
  | [d1, d2] => { results := [.lit (.bool true)], args := [d1, d2] }
  | _ => none }
def fnFlowsRow : OpenClaim := { program := "ytefplmkffbcgfaa", sum := "05a6e14e1246e29909bd1f793f6826171214f3e695f8f76d5aa42569668ad7af", func := "loop.example/g01346/laws.FnFlows", spec := "fnFlows", apart := false }
def FnFlowsSaid : Prop := fnFlowsRow.holds Try.pinned (OpenSpec.ofChange fnFlowsSpec)

/-- ITS FALSE NEIGHBOUR: 'it returns false'. Refute it at one input. -/
def fnFlowsWrong : ChangeSpec := { name := "fnFlows", fn := fun _ => fun
  | [d1, d2] => { results := [.lit (.bool false)], args := [d1, d2] }
  | _ => none }
def FnFlowsWrongFalsely : Prop := fnFlowsRow.holds Try.pinned (OpenSpec.ofChange fnFlowsWrong)

/-- 'laws.FnExactFirstBins': WHATEVER THE INPUT: true; the input reads as it did. -/
def fnExactFirstBinsSpec : ChangeSpec := { name := "fnExactFirstBins", fn := fun _ => fun
  | [d1, d2] => { results := [.lit (.bool true)], args := [d1, d2] }
  | _ => none }
def fnExactFirstBinsRow : OpenClaim := { program := "ytefplmkffbcgfaa", sum := "05a6e14e1246e29909bd1f793f6826171214f3e695f8f76d5aa42569668ad7af", func := "loop.example/g01346/laws.FnExactFirstBins", spec := "fnExactFirstBins", unfollowed := true, recurses := true, apart := false }
def FnExactFirstBinsSaid : Prop := fnExactFirstBinsRow.holds Try.pinned (OpenSpec.ofChange fnExactFirstBinsSpec)

/-- ITS FALSE NEIGHBOUR: 'it returns false'. Refute it at one input. -/
def fnExactFirstBinsWrong : ChangeSpec := { name := "fnExactFirstBins", fn := fun _ => fun
  | [d1, d2] => { results := [.lit (.bool false)], args := [d1, d2] }
  | _ => none }
def FnExactFirstBinsWrongFalsely : Prop := fnExactFirstBinsRow.holds Try.pinned (OpenSpec.ofChange fnExactFirstBinsWrong)

/-- 'laws.FnExactPackBound': WHATEVER THE INPUT: true; the input reads as it did. -/
def fnExactPackBoundSpec : ChangeSpec := { name := "fnExactPackBound", fn := fun _ => fun
  | [d1, d2, d3] => { results := [.lit (.bool true)], args := [d1, d2, d3] }
  | _ => none }
def fnExactPackBoundRow : OpenClaim := { program := "ytefplmkffbcgfaa", sum := "05a6e14e1246e29909bd1f793f6826171214f3e695f8f76d5aa42569668ad7af", func := "loop.example/g01346/laws.FnExactPackBound", spec := "fnExactPackBound", unfollowed := true, recurses := true, apart := false }
def FnExactPackBoundSaid : Prop := fnExactPackBoundRow.holds Try.pinned (OpenSpec.ofChange fnExactPackBoundSpec)

/-- ITS FALSE NEIGHBOUR: 'it returns false'. Refute it at one input. -/
def fnExactPackBoundWrong : ChangeSpec := { name := "fnExactPackBound", fn := fun _ => fun
  | [d1, d2, d3] => { results := [.lit (.bool false)], args := [d1, d2, d3] }
  | _ => none }
def FnExactPackBoundWrongFalsely : Prop := fnExactPackBoundRow.holds Try.pinned (OpenSpec.ofChange fnExactPackBoundWrong)

/- THE SECOND FORM. 'bulk': how many values and letters a reading holds, each counted each time it is reached (what is shared counts as often as it is met; a slice's spare places count too). A statement '..UptoSaid' is the law's where the arguments, and the package variables that the reading takes, are together of bulk at most 1048576: NARROWER than '..Said'. Prove '..Said' where nothing that the law and all that it calls make is longer than what came in: it says more and counts as full. Else prove '..UptoSaid'. A law counts once. -/
mutual
def uptoBulk {H : Type} : DataW H → Nat
  | .lit (.string bytes) => bytes.length + 1
  | .lit _ => 1
  | .nil => 1
  | .ptr d => uptoBulk d + 1
  | .slice elems spare => uptoBulkAll elems + uptoBulkAll spare + 1
  | .agg parts => uptoBulkAll parts + 1
  | .iface _ d => uptoBulk d + 1
  | .map entries => uptoBulkEntries entries + 1
  | .held _ => 1
def uptoBulkAll {H : Type} : List (DataW H) → Nat
  | [] => 0
  | d :: r => uptoBulk d + uptoBulkAll r
def uptoBulkEntries {H : Type} : List (Lit × DataW H) → Nat
  | [] => 0
  | x :: r => uptoBulkEntry x + uptoBulkEntries r
def uptoBulkEntry {H : Type} : Lit × DataW H → Nat
  | (.string bytes, d) => bytes.length + uptoBulk d + 1
  | (_, d) => uptoBulk d + 1
 end
def uptoSmall : (H : Type) → List (DataW H) → Bool := fun _ ds => decide (uptoBulkAll ds ≤ 1048576)
def OpenSpec.upto (s : _root_.Go.ChangeSpec) : _root_.Go.OpenSpec := { _root_.Go.OpenSpec.ofChange s with cond := some uptoSmall }

/-- 'laws.FnExactPlainNet', WHERE WHAT IT READS IS OF BULK AT MOST 1048576: true; the input reads as it did. -/
def fnExactPlainNetUptoRow : OpenClaim := { program := "ytefplmkffbcgfaa", sum := "05a6e14e1246e29909bd1f793f6826171214f3e695f8f76d5aa42569668ad7af", func := "loop.example/g01346/laws.FnExactPlainNet", spec := "fnExactPlainNet", apart := false, narrowed := true }
def FnExactPlainNetUptoSaid : Prop := fnExactPlainNetUptoRow.holds Try.pinned (OpenSpec.upto fnExactPlainNetSpec)

/-- 'laws.FnExactRootTree', WHERE WHAT IT READS IS OF BULK AT MOST 1048576: true; the input reads as it did. -/
def fnExactRootTreeUptoRow : OpenClaim := { program := "ytefplmkffbcgfaa", sum := "05a6e14e1246e29909bd1f793f6826171214f3e695f8f76d5aa42569668ad7af", func := "loop.example/g01346/laws.FnExactRootTree", spec := "fnExactRootTree", recurses := true, apart := false, narrowed := true }
def FnExactRootTreeUptoSaid : Prop := fnExactRootTreeUptoRow.holds Try.pinned (OpenSpec.upto fnExactRootTreeSpec)

/-- 'laws.FnExactCheapTree', WHERE WHAT IT READS IS OF BULK AT MOST 1048576: true; the input reads as it did. -/
def fnExactCheapTreeUptoRow : OpenClaim := { program := "ytefplmkffbcgfaa", sum := "05a6e14e1246e29909bd1f793f6826171214f3e695f8f76d5aa42569668ad7af", func := "loop.example/g01346/laws.FnExactCheapTree", spec := "fnExactCheapTree", unfollowed := true, recurses := true, apart := false, narrowed := true }
def FnExactCheapTreeUptoSaid : Prop := fnExactCheapTreeUptoRow.holds Try.pinned (OpenSpec.upto fnExactCheapTreeSpec)

/-- 'laws.FnFlows', WHERE WHAT IT READS IS OF BULK AT MOST 1048576: true; the input reads as it did. -/
def fnFlowsUptoRow : OpenClaim := { program := "ytefplmkffbcgfaa", sum := "05a6e14e1246e29909bd1f793f6826171214f3e695f8f76d5aa42569668ad7af", func := "loop.example/g01346/laws.FnFlows", spec := "fnFlows", apart := false, narrowed := true }
def FnFlowsUptoSaid : Prop := fnFlowsUptoRow.holds Try.pinned (OpenSpec.upto fnFlowsSpec)

/-- 'laws.FnExactFirstBins', WHERE WHAT IT READS IS OF BULK AT MOST 1048576: true; the input reads as it did. -/
def fnExactFirstBinsUptoRow : OpenClaim := { program := "ytefplmkffbcgfaa", sum := "05a6e14e1246e29909bd1f793f6826171214f3e695f8f76d5aa42569668ad7af", func := "loop.example/g01346/laws.FnExactFirstBins", spec := "fnExactFirstBins", unfollowed := true, recurses := true, apart := false, narrowed := true }
def FnExactFirstBinsUptoSaid : Prop := fnExactFirstBinsUptoRow.holds Try.pinned (OpenSpec.upto fnExactFirstBinsSpec)

/-- 'laws.FnExactPackBound', WHERE WHAT IT READS IS OF BULK AT MOST 1048576: true; the input reads as it did. -/
def fnExactPackBoundUptoRow : OpenClaim := { program := "ytefplmkffbcgfaa", sum := "05a6e14e1246e29909bd1f793f6826171214f3e695f8f76d5aa42569668ad7af", func := "loop.example/g01346/laws.FnExactPackBound", spec := "fnExactPackBound", unfollowed := true, recurses := true, apart := false, narrowed := true }
def FnExactPackBoundUptoSaid : Prop := fnExactPackBoundUptoRow.holds Try.pinned (OpenSpec.upto fnExactPackBoundSpec)

end Rows
end Go.Proofs.Ytefplmkffbcgfaa
