/-
  No cell of these rows narrows 'for every input' (looked for: loops, veiled, ifaces, maps, wideKeys, modest, calm, conditions, laid).
  DERIVED. THE GIVEN ROWS OF THIS SEAT. 8 by the template 'for every input the law returns true; each argument reads behind the call as it read before'; 0 by the template 'total and deterministic' (their statements: YteciampnbghonaaTotals.lean).
  GIVEN WITH THE SEED: the statements are not yours to turn. If you find one false, say at which input.
  Laid BY PROGRAM, IN A SANDBOX (cutbox-rows.mjs): the forced cells as the released guide's own fill.sh prints them over the translation f6db8767aa19a1b0… (all of the seat's roots in one cut). By AI agents, Wed Nov 11 2026. No macro, syntax, notation, axiom, sorry.
-/
import Derived.Test.YteciampnbghonaaChecked
import GoSem.Claim
import GoSem.ClaimJoined
import GoSem.ClaimMapViews
import Derived.JoinedTies
import Derived.KernelRfl
namespace Go.Proofs.Yteciampnbghonaa
/- THE CELL 'sum', in the pinned program and in every row, IS THE sha256 OF THE DUMP (.gsa) THAT YteciampnbghonaaProg.lean LOADS. Nothing in Lean hashes anything: it is a label: what it is worth is what the hold of that sum in a sandbox is worth. -/
noncomputable def Try.pinned : Pinned := { name := "yteciampnbghonaa", sum := "f6db8767aa19a1b098ab1406a7e44265f06ee41ffe3d40700796fa26590c06e1", checked := Try.checked }
namespace Rows
def none {H : Type} : Left H := { results := [], args := [] }

/-- 'laws.FnFlows': WHATEVER THE INPUT: true; the input reads as it did. -/
def fnFlowsSpec : ChangeSpec := { name := "fnFlows", fn := fun _ => fun
  | [d1, d2] => { results := [.lit (.bool true)], args := [d1, d2] }
  | _ => none }
def fnFlowsRow : OpenClaim := { program := "yteciampnbghonaa", sum := "f6db8767aa19a1b098ab1406a7e44265f06ee41ffe3d40700796fa26590c06e1", func := "loop.example/g01346/laws.FnFlows", spec := "fnFlows", apart := false }
def FnFlowsSaid : Prop := fnFlowsRow.holds Try.pinned (OpenSpec.ofChange fnFlowsSpec)

/-- ITS FALSE NEIGHBOUR: 'it returns false'. Refute it at one input. -/
def fnFlowsWrong : ChangeSpec := { name := "fnFlows", fn := fun _ => fun
  | [d1, d2] => { results := [.lit (.bool false)], args := [d1, d2] }
  | _ => none }
def FnFlowsWrongFalsely : Prop := fnFlowsRow.holds Try.pinned (OpenSpec.ofChange fnFlowsWrong)

/-- 'laws.FnExactGreatFlow': WHATEVER THE INPUT: true; the input reads as it did. -/
def fnExactGreatFlowSpec : ChangeSpec := { name := "fnExactGreatFlow", fn := fun _ => fun
  | [d1, d2, d3] => { results := [.lit (.bool true)], args := [d1, d2, d3] }
  | _ => none }
def fnExactGreatFlowRow : OpenClaim := { program := "yteciampnbghonaa", sum := "f6db8767aa19a1b098ab1406a7e44265f06ee41ffe3d40700796fa26590c06e1", func := "loop.example/g01346/laws.FnExactGreatFlow", spec := "fnExactGreatFlow", apart := false }
def FnExactGreatFlowSaid : Prop := fnExactGreatFlowRow.holds Try.pinned (OpenSpec.ofChange fnExactGreatFlowSpec)

/-- ITS FALSE NEIGHBOUR: 'it returns false'. Refute it at one input. -/
def fnExactGreatFlowWrong : ChangeSpec := { name := "fnExactGreatFlow", fn := fun _ => fun
  | [d1, d2, d3] => { results := [.lit (.bool false)], args := [d1, d2, d3] }
  | _ => none }
def FnExactGreatFlowWrongFalsely : Prop := fnExactGreatFlowRow.holds Try.pinned (OpenSpec.ofChange fnExactGreatFlowWrong)

/-- 'laws.FnExactPushFlow': WHATEVER THE INPUT: true; the input reads as it did. -/
def fnExactPushFlowSpec : ChangeSpec := { name := "fnExactPushFlow", fn := fun _ => fun
  | [d1, d2, d3] => { results := [.lit (.bool true)], args := [d1, d2, d3] }
  | _ => none }
def fnExactPushFlowRow : OpenClaim := { program := "yteciampnbghonaa", sum := "f6db8767aa19a1b098ab1406a7e44265f06ee41ffe3d40700796fa26590c06e1", func := "loop.example/g01346/laws.FnExactPushFlow", spec := "fnExactPushFlow", apart := false }
def FnExactPushFlowSaid : Prop := fnExactPushFlowRow.holds Try.pinned (OpenSpec.ofChange fnExactPushFlowSpec)

/-- ITS FALSE NEIGHBOUR: 'it returns false'. Refute it at one input. -/
def fnExactPushFlowWrong : ChangeSpec := { name := "fnExactPushFlow", fn := fun _ => fun
  | [d1, d2, d3] => { results := [.lit (.bool false)], args := [d1, d2, d3] }
  | _ => none }
def FnExactPushFlowWrongFalsely : Prop := fnExactPushFlowRow.holds Try.pinned (OpenSpec.ofChange fnExactPushFlowWrong)

/-- 'laws.FnExactCutOf': WHATEVER THE INPUT: true; the input reads as it did. -/
def fnExactCutOfSpec : ChangeSpec := { name := "fnExactCutOf", fn := fun _ => fun
  | [d1, d2, d3] => { results := [.lit (.bool true)], args := [d1, d2, d3] }
  | _ => none }
def fnExactCutOfRow : OpenClaim := { program := "yteciampnbghonaa", sum := "f6db8767aa19a1b098ab1406a7e44265f06ee41ffe3d40700796fa26590c06e1", func := "loop.example/g01346/laws.FnExactCutOf", spec := "fnExactCutOf", apart := false }
def FnExactCutOfSaid : Prop := fnExactCutOfRow.holds Try.pinned (OpenSpec.ofChange fnExactCutOfSpec)

/-- ITS FALSE NEIGHBOUR: 'it returns false'. Refute it at one input. -/
def fnExactCutOfWrong : ChangeSpec := { name := "fnExactCutOf", fn := fun _ => fun
  | [d1, d2, d3] => { results := [.lit (.bool false)], args := [d1, d2, d3] }
  | _ => none }
def FnExactCutOfWrongFalsely : Prop := fnExactCutOfRow.holds Try.pinned (OpenSpec.ofChange fnExactCutOfWrong)

/-- 'laws.FnExactCutRoom': WHATEVER THE INPUT: true; the input reads as it did. -/
def fnExactCutRoomSpec : ChangeSpec := { name := "fnExactCutRoom", fn := fun _ => fun
  | [d1, d2] => { results := [.lit (.bool true)], args := [d1, d2] }
  | _ => none }
def fnExactCutRoomRow : OpenClaim := { program := "yteciampnbghonaa", sum := "f6db8767aa19a1b098ab1406a7e44265f06ee41ffe3d40700796fa26590c06e1", func := "loop.example/g01346/laws.FnExactCutRoom", spec := "fnExactCutRoom", apart := false }
def FnExactCutRoomSaid : Prop := fnExactCutRoomRow.holds Try.pinned (OpenSpec.ofChange fnExactCutRoomSpec)

/-- ITS FALSE NEIGHBOUR: 'it returns false'. Refute it at one input. -/
def fnExactCutRoomWrong : ChangeSpec := { name := "fnExactCutRoom", fn := fun _ => fun
  | [d1, d2] => { results := [.lit (.bool false)], args := [d1, d2] }
  | _ => none }
def FnExactCutRoomWrongFalsely : Prop := fnExactCutRoomRow.holds Try.pinned (OpenSpec.ofChange fnExactCutRoomWrong)

/-- 'laws.FnExactFlowsShared': WHATEVER THE INPUT: true; the input reads as it did. -/
def fnExactFlowsSharedSpec : ChangeSpec := { name := "fnExactFlowsShared", fn := fun _ => fun
  | [d1, d2, d3, d4] => { results := [.lit (.bool true)], args := [d1, d2, d3, d4] }
  | _ => none }
def fnExactFlowsSharedRow : OpenClaim := { program := "yteciampnbghonaa", sum := "f6db8767aa19a1b098ab1406a7e44265f06ee41ffe3d40700796fa26590c06e1", func := "loop.example/g01346/laws.FnExactFlowsShared", spec := "fnExactFlowsShared", apart := false }
def FnExactFlowsSharedSaid : Prop := fnExactFlowsSharedRow.holds Try.pinned (OpenSpec.ofChange fnExactFlowsSharedSpec)

/-- ITS FALSE NEIGHBOUR: 'it returns false'. Refute it at one input. -/
def fnExactFlowsSharedWrong : ChangeSpec := { name := "fnExactFlowsShared", fn := fun _ => fun
  | [d1, d2, d3, d4] => { results := [.lit (.bool false)], args := [d1, d2, d3, d4] }
  | _ => none }
def FnExactFlowsSharedWrongFalsely : Prop := fnExactFlowsSharedRow.holds Try.pinned (OpenSpec.ofChange fnExactFlowsSharedWrong)

/-- 'laws.FnExactFlowAmount': WHATEVER THE INPUT: true; the input reads as it did. -/
def fnExactFlowAmountSpec : ChangeSpec := { name := "fnExactFlowAmount", fn := fun _ => fun
  | [d1, d2, d3] => { results := [.lit (.bool true)], args := [d1, d2, d3] }
  | _ => none }
def fnExactFlowAmountRow : OpenClaim := { program := "yteciampnbghonaa", sum := "f6db8767aa19a1b098ab1406a7e44265f06ee41ffe3d40700796fa26590c06e1", func := "loop.example/g01346/laws.FnExactFlowAmount", spec := "fnExactFlowAmount", apart := false }
def FnExactFlowAmountSaid : Prop := fnExactFlowAmountRow.holds Try.pinned (OpenSpec.ofChange fnExactFlowAmountSpec)

/-- ITS FALSE NEIGHBOUR: 'it returns false'. Refute it at one input. -/
def fnExactFlowAmountWrong : ChangeSpec := { name := "fnExactFlowAmount", fn := fun _ => fun
  | [d1, d2, d3] => { results := [.lit (.bool false)], args := [d1, d2, d3] }
  | _ => none }
def FnExactFlowAmountWrongFalsely : Prop := fnExactFlowAmountRow.holds Try.pinned (OpenSpec.ofChange fnExactFlowAmountWrong)

/-- 'laws.FnExactIsFlow': WHATEVER THE INPUT: true; the input reads as it did. -/
def fnExactIsFlowSpec : ChangeSpec := { name := "fnExactIsFlow", fn := fun _ => fun
  | [d1, d2, d3, d4] => { results := [.lit (.bool true)], args := [d1, d2, d3, d4] }
  | _ => none }
def fnExactIsFlowRow : OpenClaim := { program := "yteciampnbghonaa", sum := "f6db8767aa19a1b098ab1406a7e44265f06ee41ffe3d40700796fa26590c06e1", func := "loop.example/g01346/laws.FnExactIsFlow", spec := "fnExactIsFlow", apart := false }
def FnExactIsFlowSaid : Prop := fnExactIsFlowRow.holds Try.pinned (OpenSpec.ofChange fnExactIsFlowSpec)

/-- ITS FALSE NEIGHBOUR: 'it returns false'. Refute it at one input. -/
def fnExactIsFlowWrong : ChangeSpec := { name := "fnExactIsFlow", fn := fun _ => fun
  | [d1, d2, d3, d4] => { results := [.lit (.bool false)], args := [d1, d2, d3, d4] }
  | _ => none }
def FnExactIsFlowWrongFalsely : Prop := fnExactIsFlowRow.holds Try.pinned (OpenSpec.ofChange fnExactIsFlowWrong)

/- THE SECOND FORM. 'bulk': how many values and letters a reading holds, each counted each time it is reached (what is shared counts as often as it is met; a slice's spare places count too). A statement '..UptoSaid' is the law's where the arguments, and the package variables that the reading takes, are together of bulk at most 1048576: NARROWER than '..Said'. Prove '..Said' where nothing that the law and all that it calls make is longer than what came in: it says more and counts as full. Else prove '..UptoSaid'. A law counts once. -/
mutual
def uptoBulk {H : Type} : DataW H → Nat
  | .lit (.string bytes) => bytes.length + 1
  | .lit _ => 1
  | .nil => 1
  | .ptr d => uptoBulk d + 1
  | .slice elems spare => uptoBulkAll elems + uptoBulkAll spare + 1
  | .agg parts => uptoBulkAll parts + 1
  | .iface _ d => uptoBulk d + 1
  | .map entries => uptoBulkEntries entries + 1
  | .held _ => 1
def uptoBulkAll {H : Type} : List (DataW H) → Nat
  | [] => 0
  | d :: r => uptoBulk d + uptoBulkAll r
def uptoBulkEntries {H : Type} : List (Lit × DataW H) → Nat
  | [] => 0
  | x :: r => uptoBulkEntry x + uptoBulkEntries r
def uptoBulkEntry {H : Type} : Lit × DataW H → Nat
  | (.string bytes, d) => bytes.length + uptoBulk d + 1
  | (_, d) => uptoBulk d + 1
 end
def uptoSmall : (H : Type) → List (DataW H) → Bool := fun _ ds => decide (uptoBulkAll ds ≤ 1048576)
def OpenSpec.upto (s : _root_.Go.ChangeSpec) : _root_.Go.OpenSpec := { _root_.Go.OpenSpec.ofChange s with cond := some uptoSmall }

/-- 'laws.FnFlows', WHERE WHAT IT READS IS OF BULK AT MOST 1048576: true; the input reads as it did. -/
def fnFlowsUptoRow : OpenClaim := { program := "yteciampnbghonaa", sum := "f6db8767aa19a1b098ab1406a7e44265f06ee41ffe3d40700796fa26590c06e1", func := "loop.example/g01346/laws.FnFlows", spec := "fnFlows", apart := false, narrowed := true }
def FnFlowsUptoSaid : Prop := fnFlowsUptoRow.holds Try.pinned (OpenSpec.upto fnFlowsSpec)

/-- 'laws.FnExactGreatFlow', WHERE WHAT IT READS IS OF BULK AT MOST 1048576: true; the input reads as it did. -/
def fnExactGreatFlowUptoRow : OpenClaim := { program := "yteciampnbghonaa", sum := "f6db8767aa19a1b098ab1406a7e44265f06ee41ffe3d40700796fa26590c06e1", func := "loop.example/g01346/laws.FnExactGreatFlow", spec := "fnExactGreatFlow", apart := false, narrowed := true }
def FnExactGreatFlowUptoSaid : Prop := fnExactGreatFlowUptoRow.holds Try.pinned (OpenSpec.upto fnExactGreatFlowSpec)

/-- 'laws.FnExactPushFlow', WHERE WHAT IT READS IS OF BULK AT MOST 1048576: true; the input reads as it did. -/
def fnExactPushFlowUptoRow : OpenClaim := { program := "yteciampnbghonaa", sum := "f6db8767aa19a1b098ab1406a7e44265f06ee41ffe3d40700796fa26590c06e1", func := "loop.example/g01346/laws.FnExactPushFlow", spec := "fnExactPushFlow", apart := false, narrowed := true }
def FnExactPushFlowUptoSaid : Prop := fnExactPushFlowUptoRow.holds Try.pinned (OpenSpec.upto fnExactPushFlowSpec)

/-- 'laws.FnExactCutOf', WHERE WHAT IT READS IS OF BULK AT MOST 1048576: true; the input reads as it did. -/
def fnExactCutOfUptoRow : OpenClaim := { program := "yteciampnbghonaa", sum := "f6db8767aa19a1b098ab1406a7e44265f06ee41ffe3d40700796fa26590c06e1", func := "loop.example/g01346/laws.FnExactCutOf", spec := "fnExactCutOf", apart := false, narrowed := true }
def FnExactCutOfUptoSaid : Prop := fnExactCutOfUptoRow.holds Try.pinned (OpenSpec.upto fnExactCutOfSpec)

/-- 'laws.FnExactCutRoom', WHERE WHAT IT READS IS OF BULK AT MOST 1048576: true; the input reads as it did. -/
def fnExactCutRoomUptoRow : OpenClaim := { program := "yteciampnbghonaa", sum := "f6db8767aa19a1b098ab1406a7e44265f06ee41ffe3d40700796fa26590c06e1", func := "loop.example/g01346/laws.FnExactCutRoom", spec := "fnExactCutRoom", apart := false, narrowed := true }
def FnExactCutRoomUptoSaid : Prop := fnExactCutRoomUptoRow.holds Try.pinned (OpenSpec.upto fnExactCutRoomSpec)

/-- 'laws.FnExactFlowsShared', WHERE WHAT IT READS IS OF BULK AT MOST 1048576: true; the input reads as it did. -/
def fnExactFlowsSharedUptoRow : OpenClaim := { program := "yteciampnbghonaa", sum := "f6db8767aa19a1b098ab1406a7e44265f06ee41ffe3d40700796fa26590c06e1", func := "loop.example/g01346/laws.FnExactFlowsShared", spec := "fnExactFlowsShared", apart := false, narrowed := true }
def FnExactFlowsSharedUptoSaid : Prop := fnExactFlowsSharedUptoRow.holds Try.pinned (OpenSpec.upto fnExactFlowsSharedSpec)

/-- 'laws.FnExactFlowAmount', WHERE WHAT IT READS IS OF BULK AT MOST 1048576: true; the input reads as it did. -/
def fnExactFlowAmountUptoRow : OpenClaim := { program := "yteciampnbghonaa", sum := "f6db8767aa19a1b098ab1406a7e44265f06ee41ffe3d40700796fa26590c06e1", func := "loop.example/g01346/laws.FnExactFlowAmount", spec := "fnExactFlowAmount", apart := false, narrowed := true }
def FnExactFlowAmountUptoSaid : Prop := fnExactFlowAmountUptoRow.holds Try.pinned (OpenSpec.upto fnExactFlowAmountSpec)

/-- 'laws.FnExactIsFlow', WHERE WHAT IT READS IS OF BULK AT MOST 1048576: true; the input reads as it did. -/
def fnExactIsFlowUptoRow : OpenClaim := { program := "yteciampnbghonaa", sum := "f6db8767aa19a1b098ab1406a7e44265f06ee41ffe3d40700796fa26590c06e1", func := "loop.example/g01346/laws.FnExactIsFlow", spec := "fnExactIsFlow", apart := false, narrowed := true }
def FnExactIsFlowUptoSaid : Prop := fnExactIsFlowUptoRow.holds Try.pinned (OpenSpec.upto fnExactIsFlowSpec)

end Rows
end Go.Proofs.Yteciampnbghonaa
