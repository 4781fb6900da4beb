/-
  No cell of these rows narrows 'for every input' (looked for: loops, veiled, ifaces, maps, wideKeys, modest, calm, conditions, laid).
  DERIVED. THE GIVEN ROWS OF THIS SEAT. 6 by the template 'for every input the law returns true; each argument reads behind the call as it read before'; 0 by the template 'total and deterministic' (their statements: YtpaahjeohigngaaTotals.lean).
  GIVEN WITH THE SEED: the statements are not yours to turn. If you find one false, say at which input.
  Laid BY PROGRAM, IN A SANDBOX (cutbox-rows.mjs): the forced cells as the released guide's own fill.sh prints them over the translation 9a99ab841b6012c2… (all of the seat's roots in one cut). By AI agents, Wed Nov 11 2026. No macro, syntax, notation, axiom, sorry.
-/
import Derived.Test.YtpaahjeohigngaaChecked
import GoSem.Claim
import GoSem.ClaimJoined
import GoSem.ClaimMapViews
import Derived.JoinedTies
import Derived.KernelRfl
namespace Go.Proofs.Ytpaahjeohigngaa
/- THE CELL 'sum', in the pinned program and in every row, IS THE sha256 OF THE DUMP (.gsa) THAT YtpaahjeohigngaaProg.lean LOADS. Nothing in Lean hashes anything: it is a label: what it is worth is what the hold of that sum in a sandbox is worth. -/
noncomputable def Try.pinned : Pinned := { name := "ytpaahjeohigngaa", sum := "9a99ab841b6012c2c7252381befe9ed98aaf34301aab717a05b35b2a5bfa33b3", checked := Try.checked }
namespace Rows
def none {H : Type} : Left H := { results := [], args := [] }

/-- 'laws.FnLongWays': WHATEVER THE INPUT: true; the input reads as it did. -/
def fnLongWaysSpec : ChangeSpec := { name := "fnLongWays", fn := fun _ => fun
  | [d1, d2] => { results := [.lit (.bool true)], args := [d1, d2] }
  | _ => none }
def fnLongWaysRow : OpenClaim := { program := "ytpaahjeohigngaa", sum := "9a99ab841b6012c2c7252381befe9ed98aaf34301aab717a05b35b2a5bfa33b3", func := "loop.example/g01346/laws.FnLongWays", spec := "fnLongWays", apart := false }
def FnLongWaysSaid : Prop := fnLongWaysRow.holds Try.pinned (OpenSpec.ofChange fnLongWaysSpec)

/-- ITS FALSE NEIGHBOUR: 'it returns false'. Refute it at one input. -/
def fnLongWaysWrong : ChangeSpec := { name := "fnLongWays", fn := fun _ => fun
  | [d1, d2] => { results := [.lit (.bool false)], args := [d1, d2] }
  | _ => none }
def FnLongWaysWrongFalsely : Prop := fnLongWaysRow.holds Try.pinned (OpenSpec.ofChange fnLongWaysWrong)

/-- 'laws.FnExactLeastLongs': WHATEVER THE INPUT: true; the input reads as it did. -/
def fnExactLeastLongsSpec : ChangeSpec := { name := "fnExactLeastLongs", fn := fun _ => fun
  | [d1, d2] => { results := [.lit (.bool true)], args := [d1, d2] }
  | _ => none }
def fnExactLeastLongsRow : OpenClaim := { program := "ytpaahjeohigngaa", sum := "9a99ab841b6012c2c7252381befe9ed98aaf34301aab717a05b35b2a5bfa33b3", func := "loop.example/g01346/laws.FnExactLeastLongs", spec := "fnExactLeastLongs", apart := false }
def FnExactLeastLongsSaid : Prop := fnExactLeastLongsRow.holds Try.pinned (OpenSpec.ofChange fnExactLeastLongsSpec)

/-- ITS FALSE NEIGHBOUR: 'it returns false'. Refute it at one input. -/
def fnExactLeastLongsWrong : ChangeSpec := { name := "fnExactLeastLongs", fn := fun _ => fun
  | [d1, d2] => { results := [.lit (.bool false)], args := [d1, d2] }
  | _ => none }
def FnExactLeastLongsWrongFalsely : Prop := fnExactLeastLongsRow.holds Try.pinned (OpenSpec.ofChange fnExactLeastLongsWrong)

/-- 'laws.FnExactWideWay': WHATEVER THE INPUT: true; the input reads as it did. -/
def fnExactWideWaySpec : ChangeSpec := { name := "fnExactWideWay", fn := fun _ => fun
  | [d1, d2, d3] => { results := [.lit (.bool true)], args := [d1, d2, d3] }
  | _ => none }
def fnExactWideWayRow : OpenClaim := { program := "ytpaahjeohigngaa", sum := "9a99ab841b6012c2c7252381befe9ed98aaf34301aab717a05b35b2a5bfa33b3", func := "loop.example/g01346/laws.FnExactWideWay", spec := "fnExactWideWay", apart := false }
def FnExactWideWaySaid : Prop := fnExactWideWayRow.holds Try.pinned (OpenSpec.ofChange fnExactWideWaySpec)

/-- ITS FALSE NEIGHBOUR: 'it returns false'. Refute it at one input. -/
def fnExactWideWayWrong : ChangeSpec := { name := "fnExactWideWay", fn := fun _ => fun
  | [d1, d2, d3] => { results := [.lit (.bool false)], args := [d1, d2, d3] }
  | _ => none }
def FnExactWideWayWrongFalsely : Prop := fnExactWideWayRow.holds Try.pinned (OpenSpec.ofChange fnExactWideWayWrong)

/-- 'laws.FnExactCutTree': WHATEVER THE INPUT: true; the input reads as it did. -/
def fnExactCutTreeSpec : ChangeSpec := { name := "fnExactCutTree", fn := fun _ => fun
  | [d] => { results := [.lit (.bool true)], args := [d] }
  | _ => none }
def fnExactCutTreeRow : OpenClaim := { program := "ytpaahjeohigngaa", sum := "9a99ab841b6012c2c7252381befe9ed98aaf34301aab717a05b35b2a5bfa33b3", func := "loop.example/g01346/laws.FnExactCutTree", spec := "fnExactCutTree", apart := false }
def FnExactCutTreeSaid : Prop := fnExactCutTreeRow.holds Try.pinned (OpenSpec.ofChange fnExactCutTreeSpec)

/-- ITS FALSE NEIGHBOUR: 'it returns false'. Refute it at one input. -/
def fnExactCutTreeWrong : ChangeSpec := { name := "fnExactCutTree", fn := fun _ => fun
  | [d] => { results := [.lit (.bool false)], args := [d] }
  | _ => none }
def FnExactCutTreeWrongFalsely : Prop := fnExactCutTreeRow.holds Try.pinned (OpenSpec.ofChange fnExactCutTreeWrong)

/-- 'laws.FnExactPushFlow': WHATEVER THE INPUT: true; the input reads as it did. -/
def fnExactPushFlowSpec : ChangeSpec := { name := "fnExactPushFlow", fn := fun _ => fun
  | [d1, d2, d3] => { results := [.lit (.bool true)], args := [d1, d2, d3] }
  | _ => none }
def fnExactPushFlowRow : OpenClaim := { program := "ytpaahjeohigngaa", sum := "9a99ab841b6012c2c7252381befe9ed98aaf34301aab717a05b35b2a5bfa33b3", func := "loop.example/g01346/laws.FnExactPushFlow", spec := "fnExactPushFlow", apart := false }
def FnExactPushFlowSaid : Prop := fnExactPushFlowRow.holds Try.pinned (OpenSpec.ofChange fnExactPushFlowSpec)

/-- ITS FALSE NEIGHBOUR: 'it returns false'. Refute it at one input. -/
def fnExactPushFlowWrong : ChangeSpec := { name := "fnExactPushFlow", fn := fun _ => fun
  | [d1, d2, d3] => { results := [.lit (.bool false)], args := [d1, d2, d3] }
  | _ => none }
def FnExactPushFlowWrongFalsely : Prop := fnExactPushFlowRow.holds Try.pinned (OpenSpec.ofChange fnExactPushFlowWrong)

/-- 'laws.FnExactGreatFlow': WHATEVER THE INPUT: true; the input reads as it did. -/
def fnExactGreatFlowSpec : ChangeSpec := { name := "fnExactGreatFlow", fn := fun _ => fun
  | [d1, d2, d3] => { results := [.lit (.bool true)], args := [d1, d2, d3] }
  | _ => none }
def fnExactGreatFlowRow : OpenClaim := { program := "ytpaahjeohigngaa", sum := "9a99ab841b6012c2c7252381befe9ed98aaf34301aab717a05b35b2a5bfa33b3", func := "loop.example/g01346/laws.FnExactGreatFlow", spec := "fnExactGreatFlow", apart := false }
def FnExactGreatFlowSaid : Prop := fnExactGreatFlowRow.holds Try.pinned (OpenSpec.ofChange fnExactGreatFlowSpec)

/-- ITS FALSE NEIGHBOUR: 'it returns false'. Refute it at one input. -/
def fnExactGreatFlowWrong : ChangeSpec := { name := "fnExactGreatFlow", fn := fun _ => fun
  | [d1, d2, d3] => { results := [.lit (.bool false)], args := [d1, d2, d3] }
  | _ => none }
def FnExactGreatFlowWrongFalsely : Prop := fnExactGreatFlowRow.holds Try.pinned (OpenSpec.ofChange fnExactGreatFlowWrong)

/- THE SECOND FORM. 'bulk': how many values and letters a reading holds, each counted each time it is reached (what is shared counts as often as it is met; a slice's spare places count too). A statement '..UptoSaid' is the law's where the arguments, and the package variables that the reading takes, are together of bulk at most 1048576: NARROWER than '..Said'. Prove '..Said' where nothing that the law and all that it calls make is longer than what came in: it says more and counts as full. Else prove '..UptoSaid'. A law counts once. -/
mutual
def uptoBulk {H : Type} : DataW H → Nat
  | .lit (.string bytes) => bytes.length + 1
  | .lit _ => 1
  | .nil => 1
  | .ptr d => uptoBulk d + 1
  | .slice elems spare => uptoBulkAll elems + uptoBulkAll spare + 1
  | .agg parts => uptoBulkAll parts + 1
  | .iface _ d => uptoBulk d + 1
  | .map entries => uptoBulkEntries entries + 1
  | .held _ => 1
def uptoBulkAll {H : Type} : List (DataW H) → Nat
  | [] => 0
  | d :: r => uptoBulk d + uptoBulkAll r
def uptoBulkEntries {H : Type} : List (Lit × DataW H) → Nat
  | [] => 0
  | x :: r => uptoBulkEntry x + uptoBulkEntries r
def uptoBulkEntry {H : Type} : Lit × DataW H → Nat
  | (.string bytes, d) => bytes.length + uptoBulk d + 1
  | (_, d) => uptoBulk d + 1
 end
def uptoSmall : (H : Type) → List (DataW H) → Bool := fun _ ds => decide (uptoBulkAll ds ≤ 1048576)
def OpenSpec.upto (s : _root_.Go.ChangeSpec) : _root_.Go.OpenSpec := { _root_.Go.OpenSpec.ofChange s with cond := some uptoSmall }

/-- 'laws.FnLongWays', WHERE WHAT IT READS IS OF BULK AT MOST 1048576: true; the input reads as it did. -/
def fnLongWaysUptoRow : OpenClaim := { program := "ytpaahjeohigngaa", sum := "9a99ab841b6012c2c7252381befe9ed98aaf34301aab717a05b35b2a5bfa33b3", func := "loop.example/g01346/laws.FnLongWays", spec := "fnLongWays", apart := false, narrowed := true }
def FnLongWaysUptoSaid : Prop := fnLongWaysUptoRow.holds Try.pinned (OpenSpec.upto fnLongWaysSpec)

/-- 'laws.FnExactLeastLongs', WHERE WHAT IT READS IS OF BULK AT MOST 1048576: true; the input reads as it did. -/
def fnExactLeastLongsUptoRow : OpenClaim := { program := "ytpaahjeohigngaa", sum := "9a99ab841b6012c2c7252381befe9ed98aaf34301aab717a05b35b2a5bfa33b3", func := "loop.example/g01346/laws.FnExactLeastLongs", spec := "fnExactLeastLongs", apart := false, narrowed := true }
def FnExactLeastLongsUptoSaid : Prop := fnExactLeastLongsUptoRow.holds Try.pinned (OpenSpec.upto fnExactLeastLongsSpec)

/-- 'laws.FnExactWideWay', WHERE WHAT IT READS IS OF BULK AT MOST 1048576: true; the input reads as it did. -/
def fnExactWideWayUptoRow : OpenClaim := { program := "ytpaahjeohigngaa", sum := "9a99ab841b6012c2c7252381befe9ed98aaf34301aab717a05b35b2a5bfa33b3", func := "loop.example/g01346/laws.FnExactWideWay", spec := "fnExactWideWay", apart := false, narrowed := true }
def FnExactWideWayUptoSaid : Prop := fnExactWideWayUptoRow.holds Try.pinned (OpenSpec.upto fnExactWideWaySpec)

/-- 'laws.FnExactCutTree', WHERE WHAT IT READS IS OF BULK AT MOST 1048576: true; the input reads as it did. -/
def fnExactCutTreeUptoRow : OpenClaim := { program := "ytpaahjeohigngaa", sum := "9a99ab841b6012c2c7252381befe9ed98aaf34301aab717a05b35b2a5bfa33b3", func := "loop.example/g01346/laws.FnExactCutTree", spec := "fnExactCutTree", apart := false, narrowed := true }
def FnExactCutTreeUptoSaid : Prop := fnExactCutTreeUptoRow.holds Try.pinned (OpenSpec.upto fnExactCutTreeSpec)

/-- 'laws.FnExactPushFlow', WHERE WHAT IT READS IS OF BULK AT MOST 1048576: true; the input reads as it did. -/
def fnExactPushFlowUptoRow : OpenClaim := { program := "ytpaahjeohigngaa", sum := "9a99ab841b6012c2c7252381befe9ed98aaf34301aab717a05b35b2a5bfa33b3", func := "loop.example/g01346/laws.FnExactPushFlow", spec := "fnExactPushFlow", apart := false, narrowed := true }
def FnExactPushFlowUptoSaid : Prop := fnExactPushFlowUptoRow.holds Try.pinned (OpenSpec.upto fnExactPushFlowSpec)

/-- 'laws.FnExactGreatFlow', WHERE WHAT IT READS IS OF BULK AT MOST 1048576: true; the input reads as it did. -/
def fnExactGreatFlowUptoRow : OpenClaim := { program := "ytpaahjeohigngaa", sum := "9a99ab841b6012c2c7252381befe9ed98aaf34301aab717a05b35b2a5bfa33b3", func := "loop.example/g01346/laws.FnExactGreatFlow", spec := "fnExactGreatFlow", apart := false, narrowed := true }
def FnExactGreatFlowUptoSaid : Prop := fnExactGreatFlowUptoRow.holds Try.pinned (OpenSpec.upto fnExactGreatFlowSpec)

end Rows
end Go.Proofs.Ytpaahjeohigngaa
