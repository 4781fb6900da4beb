/-
  No cell of these rows narrows 'for every input' (looked for: loops, veiled, ifaces, maps, wideKeys, modest, calm, conditions, laid).
  DERIVED. THE GIVEN ROWS OF THIS SEAT. 5 by the template 'for every input the law returns true; each argument reads behind the call as it read before'; 0 by the template 'total and deterministic' (their statements: YthhkgeeomhhegaaTotals.lean).
  GIVEN WITH THE SEED: the statements are not yours to turn. If you find one false, say at which input.
  Laid BY PROGRAM, IN A SANDBOX (cutbox-rows.mjs): the forced cells as the released guide's own fill.sh prints them over the translation 71d5d3e90983b1fa… (all of the seat's roots in one cut). By AI agents, Wed Nov 11 2026. No macro, syntax, notation, axiom, sorry.
-/
import Derived.Test.YthhkgeeomhhegaaChecked
import GoSem.Claim
import GoSem.ClaimJoined
import GoSem.ClaimMapViews
import Derived.JoinedTies
import Derived.KernelRfl
namespace Go.Proofs.Ythhkgeeomhhegaa
/- THE CELL 'sum', in the pinned program and in every row, IS THE sha256 OF THE DUMP (.gsa) THAT YthhkgeeomhhegaaProg.lean LOADS. Nothing in Lean hashes anything: it is a label: what it is worth is what the hold of that sum in a sandbox is worth. -/
noncomputable def Try.pinned : Pinned := { name := "ythhkgeeomhhegaa", sum := "71d5d3e90983b1fa36a1b2b342d545f5bc0cf403ded6f88c2241f598c3be2dde", checked := Try.checked }
namespace Rows
def none {H : Type} : Left H := { results := [], args := [] }

/-- 'laws.FnExactCityTree': WHATEVER THE INPUT: true; the input reads as it did. -/
def fnExactCityTreeSpec : ChangeSpec := { name := "fnExactCityTree", fn := fun _ => fun
  | [d] => { results := [.lit (.bool true)], args := [d] }
  | _ => none }
def fnExactCityTreeRow : OpenClaim := { program := "ythhkgeeomhhegaa", sum := "71d5d3e90983b1fa36a1b2b342d545f5bc0cf403ded6f88c2241f598c3be2dde", func := "loop.example/g01346/laws.FnExactCityTree", spec := "fnExactCityTree", unfollowed := true, recurses := true, apart := false }
def FnExactCityTreeSaid : Prop := fnExactCityTreeRow.holds Try.pinned (OpenSpec.ofChange fnExactCityTreeSpec)

/-- ITS FALSE NEIGHBOUR: 'it returns false'. Refute it at one input. -/
def fnExactCityTreeWrong : ChangeSpec := { name := "fnExactCityTree", fn := fun _ => fun
  | [d] => { results := [.lit (.bool false)], args := [d] }
  | _ => none }
def FnExactCityTreeWrongFalsely : Prop := fnExactCityTreeRow.holds Try.pinned (OpenSpec.ofChange fnExactCityTreeWrong)

/-- 'laws.FnExactLeastBins': WHATEVER THE INPUT: true; the input reads as it did. -/
def fnExactLeastBinsSpec : ChangeSpec := { name := "fnExactLeastBins", fn := fun _ => fun
  | [d1, d2] => { results := [.lit (.bool true)], args := [d1, d2] }
  | _ => none }
def fnExactLeastBinsRow : OpenClaim := { program := "ythhkgeeomhhegaa", sum := "71d5d3e90983b1fa36a1b2b342d545f5bc0cf403ded6f88c2241f598c3be2dde", func := "loop.example/g01346/laws.FnExactLeastBins", spec := "fnExactLeastBins", recurses := true, apart := false }
def FnExactLeastBinsSaid : Prop := fnExactLeastBinsRow.holds Try.pinned (OpenSpec.ofChange fnExactLeastBinsSpec)

/-- ITS FALSE NEIGHBOUR: 'it returns false'. Refute it at one input. -/
def fnExactLeastBinsWrong : ChangeSpec := { name := "fnExactLeastBins", fn := fun _ => fun
  | [d1, d2] => { results := [.lit (.bool false)], args := [d1, d2] }
  | _ => none }
def FnExactLeastBinsWrongFalsely : Prop := fnExactLeastBinsRow.holds Try.pinned (OpenSpec.ofChange fnExactLeastBinsWrong)

/-- 'laws.FnExactPackBound': WHATEVER THE INPUT: true; the input reads as it did. -/
def fnExactPackBoundSpec : ChangeSpec := { name := "fnExactPackBound", fn := fun _ => fun
  | [d1, d2, d3] => { results := [.lit (.bool true)], args := [d1, d2, d3] }
  | _ => none }
def fnExactPackBoundRow : OpenClaim := { program := "ythhkgeeomhhegaa", sum := "71d5d3e90983b1fa36a1b2b342d545f5bc0cf403ded6f88c2241f598c3be2dde", func := "loop.example/g01346/laws.FnExactPackBound", spec := "fnExactPackBound", unfollowed := true, recurses := true, apart := false }
def FnExactPackBoundSaid : Prop := fnExactPackBoundRow.holds Try.pinned (OpenSpec.ofChange fnExactPackBoundSpec)

/-- ITS FALSE NEIGHBOUR: 'it returns false'. Refute it at one input. -/
def fnExactPackBoundWrong : ChangeSpec := { name := "fnExactPackBound", fn := fun _ => fun
  | [d1, d2, d3] => { results := [.lit (.bool false)], args := [d1, d2, d3] }
  | _ => none }
def FnExactPackBoundWrongFalsely : Prop := fnExactPackBoundRow.holds Try.pinned (OpenSpec.ofChange fnExactPackBoundWrong)

/-- 'laws.FnExactFirstBins': WHATEVER THE INPUT: true; the input reads as it did. -/
def fnExactFirstBinsSpec : ChangeSpec := { name := "fnExactFirstBins", fn := fun _ => fun
  | [d1, d2] => { results := [.lit (.bool true)], args := [d1, d2] }
  | _ => none }
def fnExactFirstBinsRow : OpenClaim := { program := "ythhkgeeomhhegaa", sum := "71d5d3e90983b1fa36a1b2b342d545f5bc0cf403ded6f88c2241f598c3be2dde", func := "loop.example/g01346/laws.FnExactFirstBins", spec := "fnExactFirstBins", unfollowed := true, recurses := true, apart := false }
def FnExactFirstBinsSaid : Prop := fnExactFirstBinsRow.holds Try.pinned (OpenSpec.ofChange fnExactFirstBinsSpec)

/-- ITS FALSE NEIGHBOUR: 'it returns false'. Refute it at one input. -/
def fnExactFirstBinsWrong : ChangeSpec := { name := "fnExactFirstBins", fn := fun _ => fun
  | [d1, d2] => { results := [.lit (.bool false)], args := [d1, d2] }
  | _ => none }
def FnExactFirstBinsWrongFalsely : Prop := fnExactFirstBinsRow.holds Try.pinned (OpenSpec.ofChange fnExactFirstBinsWrong)

/-- 'laws.FnCovers': WHATEVER THE INPUT: true; the input reads as it did. -/
def fnCoversSpec : ChangeSpec := { name := "fnCovers", fn := fun _ => fun
  | [d1, d2] => { results := [.lit (.bool true)], args := [d1, d2] }
  | _ => none }
def fnCoversRow : OpenClaim := { program := "ythhkgeeomhhegaa", sum := "71d5d3e90983b1fa36a1b2b342d545f5bc0cf403ded6f88c2241f598c3be2dde", func := "loop.example/g01346/laws.FnCovers", spec := "fnCovers", apart := false }
def FnCoversSaid : Prop := fnCoversRow.holds Try.pinned (OpenSpec.ofChange fnCoversSpec)

/-- ITS FALSE NEIGHBOUR: 'it returns false'. Refute it at one input. -/
def fnCoversWrong : ChangeSpec := { name := "fnCovers", fn := fun _ => fun
  | [d1, d2] => { results := [.lit (.bool false)], args := [d1, d2] }
  | _ => none }
def FnCoversWrongFalsely : Prop := fnCoversRow.holds Try.pinned (OpenSpec.ofChange fnCoversWrong)

/- THE SECOND FORM. 'bulk': how many values and letters a reading holds, each counted each time it is reached (what is shared counts as often as it is met; a slice's spare places count too). A statement '..UptoSaid' is the law's where the arguments, and the package variables that the reading takes, are together of bulk at most 1048576: NARROWER than '..Said'. Prove '..Said' where nothing that the law and all that it calls make is longer than what came in: it says more and counts as full. Else prove '..UptoSaid'. A law counts once. -/
mutual
def uptoBulk {H : Type} : DataW H → Nat
  | .lit (.string bytes) => bytes.length + 1
  | .lit _ => 1
  | .nil => 1
  | .ptr d => uptoBulk d + 1
  | .slice elems spare => uptoBulkAll elems + uptoBulkAll spare + 1
  | .agg parts => uptoBulkAll parts + 1
  | .iface _ d => uptoBulk d + 1
  | .map entries => uptoBulkEntries entries + 1
  | .held _ => 1
def uptoBulkAll {H : Type} : List (DataW H) → Nat
  | [] => 0
  | d :: r => uptoBulk d + uptoBulkAll r
def uptoBulkEntries {H : Type} : List (Lit × DataW H) → Nat
  | [] => 0
  | x :: r => uptoBulkEntry x + uptoBulkEntries r
def uptoBulkEntry {H : Type} : Lit × DataW H → Nat
  | (.string bytes, d) => bytes.length + uptoBulk d + 1
  | (_, d) => uptoBulk d + 1
 end
def uptoSmall : (H : Type) → List (DataW H) → Bool := fun _ ds => decide (uptoBulkAll ds ≤ 1048576)
def OpenSpec.upto (s : _root_.Go.ChangeSpec) : _root_.Go.OpenSpec := { _root_.Go.OpenSpec.ofChange s with cond := some uptoSmall }

/-- 'laws.FnExactCityTree', WHERE WHAT IT READS IS OF BULK AT MOST 1048576: true; the input reads as it did. -/
def fnExactCityTreeUptoRow : OpenClaim := { program := "ythhkgeeomhhegaa", sum := "71d5d3e90983b1fa36a1b2b342d545f5bc0cf403ded6f88c2241f598c3be2dde", func := "loop.example/g01346/laws.FnExactCityTree", spec := "fnExactCityTree", unfollowed := true, recurses := true, apart := false, narrowed := true }
def FnExactCityTreeUptoSaid : Prop := fnExactCityTreeUptoRow.holds Try.pinned (OpenSpec.upto fnExactCityTreeSpec)

/-- 'laws.FnExactLeastBins', WHERE WHAT IT READS IS OF BULK AT MOST 1048576: true; the input reads as it did. -/
def fnExactLeastBinsUptoRow : OpenClaim := { program := "ythhkgeeomhhegaa", sum := "71d5d3e90983b1fa36a1b2b342d545f5bc0cf403ded6f88c2241f598c3be2dde", func := "loop.example/g01346/laws.FnExactLeastBins", spec := "fnExactLeastBins", recurses := true, apart := false, narrowed := true }
def FnExactLeastBinsUptoSaid : Prop := fnExactLeastBinsUptoRow.holds Try.pinned (OpenSpec.upto fnExactLeastBinsSpec)

/-- 'laws.FnExactPackBound', WHERE WHAT IT READS IS OF BULK AT MOST 1048576: true; the input reads as it did. -/
def fnExactPackBoundUptoRow : OpenClaim := { program := "ythhkgeeomhhegaa", sum := "71d5d3e90983b1fa36a1b2b342d545f5bc0cf403ded6f88c2241f598c3be2dde", func := "loop.example/g01346/laws.FnExactPackBound", spec := "fnExactPackBound", unfollowed := true, recurses := true, apart := false, narrowed := true }
def FnExactPackBoundUptoSaid : Prop := fnExactPackBoundUptoRow.holds Try.pinned (OpenSpec.upto fnExactPackBoundSpec)

/-- 'laws.FnExactFirstBins', WHERE WHAT IT READS IS OF BULK AT MOST 1048576: true; the input reads as it did. -/
def fnExactFirstBinsUptoRow : OpenClaim := { program := "ythhkgeeomhhegaa", sum := "71d5d3e90983b1fa36a1b2b342d545f5bc0cf403ded6f88c2241f598c3be2dde", func := "loop.example/g01346/laws.FnExactFirstBins", spec := "fnExactFirstBins", unfollowed := true, recurses := true, apart := false, narrowed := true }
def FnExactFirstBinsUptoSaid : Prop := fnExactFirstBinsUptoRow.holds Try.pinned (OpenSpec.upto fnExactFirstBinsSpec)

/-- 'laws.FnCovers', WHERE WHAT IT READS IS OF BULK AT MOST 1048576: true; the input reads as it did. -/
def fnCoversUptoRow : OpenClaim := { program := "ythhkgeeomhhegaa", sum := "71d5d3e90983b1fa36a1b2b342d545f5bc0cf403ded6f88c2241f598c3be2dde", func := "loop.example/g01346/laws.FnCovers", spec := "fnCovers", apart := false, narrowed := true }
def FnCoversUptoSaid : Prop := fnCoversUptoRow.holds Try.pinned (OpenSpec.upto fnCoversSpec)

end Rows
end Go.Proofs.Ythhkgeeomhhegaa
