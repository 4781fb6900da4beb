/-
  No cell of these rows narrows 'for every input' (looked for: loops, veiled, ifaces, maps, wideKeys, modest, calm, conditions, laid).
  DERIVED. THE GIVEN ROWS OF THIS SEAT. 7 by the template 'for every input the law returns true; each argument reads behind the call as it read before'; 0 by the template 'total and deterministic' (their statements: YtpmhddcbbajpkaaTotals.lean).
  GIVEN WITH THE SEED: the statements are not yours to turn. If you find one false, say at which input.
  Laid BY PROGRAM, IN A SANDBOX (cutbox-rows.mjs): the forced cells as the released guide's own fill.sh prints them over the translation ef02986cb0da35fa… (all of the seat's roots in one cut). By AI agents, Wed Nov 11 2026. No macro, syntax, notation, axiom, sorry.
-/
import Derived.Test.YtpmhddcbbajpkaaChecked
import GoSem.Claim
import GoSem.ClaimJoined
import GoSem.ClaimMapViews
import Derived.JoinedTies
import Derived.KernelRfl
namespace Go.Proofs.Ytpmhddcbbajpkaa
/- THE CELL 'sum', in the pinned program and in every row, IS THE sha256 OF THE DUMP (.gsa) THAT YtpmhddcbbajpkaaProg.lean LOADS. Nothing in Lean hashes anything: it is a label: what it is worth is what the hold of that sum in a sandbox is worth. -/
noncomputable def Try.pinned : Pinned := { name := "ytpmhddcbbajpkaa", sum := "ef02986cb0da35fac945e430a4e4444648dd18459ced0a40b5fa44c9d7962a5b", checked := Try.checked }
namespace Rows
def none {H : Type} : Left H := { results := [], args := [] }

/-- 'laws.FnExactAreSizes': WHATEVER THE INPUT: true; the input reads as it did. -/
def fnExactAreSizesSpec : ChangeSpec := { name := "fnExactAreSizes", fn := fun _ => fun
  | [d] => { results := [.lit (.bool true)], args := [d] }
  | _ => none }
def fnExactAreSizesRow : OpenClaim := { program := "ytpmhddcbbajpkaa", sum := "ef02986cb0da35fac945e430a4e4444648dd18459ced0a40b5fa44c9d7962a5b", func := "loop.example/g01346/laws.FnExactAreSizes", spec := "fnExactAreSizes", apart := false }
def FnExactAreSizesSaid : Prop := fnExactAreSizesRow.holds Try.pinned (OpenSpec.ofChange fnExactAreSizesSpec)

/-- ITS FALSE NEIGHBOUR: 'it returns false'. Refute it at one input. -/
def fnExactAreSizesWrong : ChangeSpec := { name := "fnExactAreSizes", fn := fun _ => fun
  | [d] => { results := [.lit (.bool false)], args := [d] }
  | _ => none }
def FnExactAreSizesWrongFalsely : Prop := fnExactAreSizesRow.holds Try.pinned (OpenSpec.ofChange fnExactAreSizesWrong)

/-- 'laws.FnExactAreSets': WHATEVER THE INPUT: true; the input reads as it did. -/
def fnExactAreSetsSpec : ChangeSpec := { name := "fnExactAreSets", fn := fun _ => fun
  | [d1, d2] => { results := [.lit (.bool true)], args := [d1, d2] }
  | _ => none }
def fnExactAreSetsRow : OpenClaim := { program := "ytpmhddcbbajpkaa", sum := "ef02986cb0da35fac945e430a4e4444648dd18459ced0a40b5fa44c9d7962a5b", func := "loop.example/g01346/laws.FnExactAreSets", spec := "fnExactAreSets", apart := false }
def FnExactAreSetsSaid : Prop := fnExactAreSetsRow.holds Try.pinned (OpenSpec.ofChange fnExactAreSetsSpec)

/-- ITS FALSE NEIGHBOUR: 'it returns false'. Refute it at one input. -/
def fnExactAreSetsWrong : ChangeSpec := { name := "fnExactAreSets", fn := fun _ => fun
  | [d1, d2] => { results := [.lit (.bool false)], args := [d1, d2] }
  | _ => none }
def FnExactAreSetsWrongFalsely : Prop := fnExactAreSetsRow.holds Try.pinned (OpenSpec.ofChange fnExactAreSetsWrong)

/-- 'laws.FnExactWaysToFill': WHATEVER THE INPUT: true; the input reads as it did. -/
def fnExactWaysToFillSpec : ChangeSpec := { name := "fnExactWaysToFill", fn := fun _ => fun
  | [d1, d2] => { results := [.lit (.bool true)], args := [d1, d2] }
  | _ => none }
def fnExactWaysToFillRow : OpenClaim := { program := "ytpmhddcbbajpkaa", sum := "ef02986cb0da35fac945e430a4e4444648dd18459ced0a40b5fa44c9d7962a5b", func := "loop.example/g01346/laws.FnExactWaysToFill", spec := "fnExactWaysToFill", apart := false }
def FnExactWaysToFillSaid : Prop := fnExactWaysToFillRow.holds Try.pinned (OpenSpec.ofChange fnExactWaysToFillSpec)

/-- ITS FALSE NEIGHBOUR: 'it returns false'. Refute it at one input. -/
def fnExactWaysToFillWrong : ChangeSpec := { name := "fnExactWaysToFill", fn := fun _ => fun
  | [d1, d2] => { results := [.lit (.bool false)], args := [d1, d2] }
  | _ => none }
def FnExactWaysToFillWrongFalsely : Prop := fnExactWaysToFillRow.holds Try.pinned (OpenSpec.ofChange fnExactWaysToFillWrong)

/-- 'laws.FnExactAreCities': WHATEVER THE INPUT: true; the input reads as it did. -/
def fnExactAreCitiesSpec : ChangeSpec := { name := "fnExactAreCities", fn := fun _ => fun
  | [d] => { results := [.lit (.bool true)], args := [d] }
  | _ => none }
def fnExactAreCitiesRow : OpenClaim := { program := "ytpmhddcbbajpkaa", sum := "ef02986cb0da35fac945e430a4e4444648dd18459ced0a40b5fa44c9d7962a5b", func := "loop.example/g01346/laws.FnExactAreCities", spec := "fnExactAreCities", apart := false }
def FnExactAreCitiesSaid : Prop := fnExactAreCitiesRow.holds Try.pinned (OpenSpec.ofChange fnExactAreCitiesSpec)

/-- ITS FALSE NEIGHBOUR: 'it returns false'. Refute it at one input. -/
def fnExactAreCitiesWrong : ChangeSpec := { name := "fnExactAreCities", fn := fun _ => fun
  | [d] => { results := [.lit (.bool false)], args := [d] }
  | _ => none }
def FnExactAreCitiesWrongFalsely : Prop := fnExactAreCitiesRow.holds Try.pinned (OpenSpec.ofChange fnExactAreCitiesWrong)

/-- 'laws.FnExactSameNet': WHATEVER THE INPUT: true; the input reads as it did. -/
def fnExactSameNetSpec : ChangeSpec := { name := "fnExactSameNet", fn := fun _ => fun
  | [d1, d2] => { results := [.lit (.bool true)], args := [d1, d2] }
  | _ => none }
def fnExactSameNetRow : OpenClaim := { program := "ytpmhddcbbajpkaa", sum := "ef02986cb0da35fac945e430a4e4444648dd18459ced0a40b5fa44c9d7962a5b", func := "loop.example/g01346/laws.FnExactSameNet", spec := "fnExactSameNet", apart := false }
def FnExactSameNetSaid : Prop := fnExactSameNetRow.holds Try.pinned (OpenSpec.ofChange fnExactSameNetSpec)

/-- ITS FALSE NEIGHBOUR: 'it returns false'. Refute it at one input. -/
def fnExactSameNetWrong : ChangeSpec := { name := "fnExactSameNet", fn := fun _ => fun
  | [d1, d2] => { results := [.lit (.bool false)], args := [d1, d2] }
  | _ => none }
def FnExactSameNetWrongFalsely : Prop := fnExactSameNetRow.holds Try.pinned (OpenSpec.ofChange fnExactSameNetWrong)

/-- 'laws.FnExactValidNet': WHATEVER THE INPUT: true; the input reads as it did. -/
def fnExactValidNetSpec : ChangeSpec := { name := "fnExactValidNet", fn := fun _ => fun
  | [d] => { results := [.lit (.bool true)], args := [d] }
  | _ => none }
def fnExactValidNetRow : OpenClaim := { program := "ytpmhddcbbajpkaa", sum := "ef02986cb0da35fac945e430a4e4444648dd18459ced0a40b5fa44c9d7962a5b", func := "loop.example/g01346/laws.FnExactValidNet", spec := "fnExactValidNet", apart := false }
def FnExactValidNetSaid : Prop := fnExactValidNetRow.holds Try.pinned (OpenSpec.ofChange fnExactValidNetSpec)

/-- ITS FALSE NEIGHBOUR: 'it returns false'. Refute it at one input. -/
def fnExactValidNetWrong : ChangeSpec := { name := "fnExactValidNet", fn := fun _ => fun
  | [d] => { results := [.lit (.bool false)], args := [d] }
  | _ => none }
def FnExactValidNetWrongFalsely : Prop := fnExactValidNetRow.holds Try.pinned (OpenSpec.ofChange fnExactValidNetWrong)

/-- 'laws.FnExactExactCovers': WHATEVER THE INPUT: true; the input reads as it did. -/
def fnExactExactCoversSpec : ChangeSpec := { name := "fnExactExactCovers", fn := fun _ => fun
  | [d1, d2] => { results := [.lit (.bool true)], args := [d1, d2] }
  | _ => none }
def fnExactExactCoversRow : OpenClaim := { program := "ytpmhddcbbajpkaa", sum := "ef02986cb0da35fac945e430a4e4444648dd18459ced0a40b5fa44c9d7962a5b", func := "loop.example/g01346/laws.FnExactExactCovers", spec := "fnExactExactCovers", recurses := true, apart := false }
def FnExactExactCoversSaid : Prop := fnExactExactCoversRow.holds Try.pinned (OpenSpec.ofChange fnExactExactCoversSpec)

/-- ITS FALSE NEIGHBOUR: 'it returns false'. Refute it at one input. -/
def fnExactExactCoversWrong : ChangeSpec := { name := "fnExactExactCovers", fn := fun _ => fun
  | [d1, d2] => { results := [.lit (.bool false)], args := [d1, d2] }
  | _ => none }
def FnExactExactCoversWrongFalsely : Prop := fnExactExactCoversRow.holds Try.pinned (OpenSpec.ofChange fnExactExactCoversWrong)

/- THE SECOND FORM. 'bulk': how many values and letters a reading holds, each counted each time it is reached (what is shared counts as often as it is met; a slice's spare places count too). A statement '..UptoSaid' is the law's where the arguments, and the package variables that the reading takes, are together of bulk at most 1048576: NARROWER than '..Said'. Prove '..Said' where nothing that the law and all that it calls make is longer than what came in: it says more and counts as full. Else prove '..UptoSaid'. A law counts once. -/
mutual
def uptoBulk {H : Type} : DataW H → Nat
  | .lit (.string bytes) => bytes.length + 1
  | .lit _ => 1
  | .nil => 1
  | .ptr d => uptoBulk d + 1
  | .slice elems spare => uptoBulkAll elems + uptoBulkAll spare + 1
  | .agg parts => uptoBulkAll parts + 1
  | .iface _ d => uptoBulk d + 1
  | .map entries => uptoBulkEntries entries + 1
  | .held _ => 1
def uptoBulkAll {H : Type} : List (DataW H) → Nat
  | [] => 0
  | d :: r => uptoBulk d + uptoBulkAll r
def uptoBulkEntries {H : Type} : List (Lit × DataW H) → Nat
  | [] => 0
  | x :: r => uptoBulkEntry x + uptoBulkEntries r
def uptoBulkEntry {H : Type} : Lit × DataW H → Nat
  | (.string bytes, d) => bytes.length + uptoBulk d + 1
  | (_, d) => uptoBulk d + 1
 end
def uptoSmall : (H : Type) → List (DataW H) → Bool := fun _ ds => decide (uptoBulkAll ds ≤ 1048576)
def OpenSpec.upto (s : _root_.Go.ChangeSpec) : _root_.Go.OpenSpec := { _root_.Go.OpenSpec.ofChange s with cond := some uptoSmall }

/-- 'laws.FnExactAreSizes', WHERE WHAT IT READS IS OF BULK AT MOST 1048576: true; the input reads as it did. -/
def fnExactAreSizesUptoRow : OpenClaim := { program := "ytpmhddcbbajpkaa", sum := "ef02986cb0da35fac945e430a4e4444648dd18459ced0a40b5fa44c9d7962a5b", func := "loop.example/g01346/laws.FnExactAreSizes", spec := "fnExactAreSizes", apart := false, narrowed := true }
def FnExactAreSizesUptoSaid : Prop := fnExactAreSizesUptoRow.holds Try.pinned (OpenSpec.upto fnExactAreSizesSpec)

/-- 'laws.FnExactAreSets', WHERE WHAT IT READS IS OF BULK AT MOST 1048576: true; the input reads as it did. -/
def fnExactAreSetsUptoRow : OpenClaim := { program := "ytpmhddcbbajpkaa", sum := "ef02986cb0da35fac945e430a4e4444648dd18459ced0a40b5fa44c9d7962a5b", func := "loop.example/g01346/laws.FnExactAreSets", spec := "fnExactAreSets", apart := false, narrowed := true }
def FnExactAreSetsUptoSaid : Prop := fnExactAreSetsUptoRow.holds Try.pinned (OpenSpec.upto fnExactAreSetsSpec)

/-- 'laws.FnExactWaysToFill', WHERE WHAT IT READS IS OF BULK AT MOST 1048576: true; the input reads as it did. -/
def fnExactWaysToFillUptoRow : OpenClaim := { program := "ytpmhddcbbajpkaa", sum := "ef02986cb0da35fac945e430a4e4444648dd18459ced0a40b5fa44c9d7962a5b", func := "loop.example/g01346/laws.FnExactWaysToFill", spec := "fnExactWaysToFill", apart := false, narrowed := true }
def FnExactWaysToFillUptoSaid : Prop := fnExactWaysToFillUptoRow.holds Try.pinned (OpenSpec.upto fnExactWaysToFillSpec)

/-- 'laws.FnExactAreCities', WHERE WHAT IT READS IS OF BULK AT MOST 1048576: true; the input reads as it did. -/
def fnExactAreCitiesUptoRow : OpenClaim := { program := "ytpmhddcbbajpkaa", sum := "ef02986cb0da35fac945e430a4e4444648dd18459ced0a40b5fa44c9d7962a5b", func := "loop.example/g01346/laws.FnExactAreCities", spec := "fnExactAreCities", apart := false, narrowed := true }
def FnExactAreCitiesUptoSaid : Prop := fnExactAreCitiesUptoRow.holds Try.pinned (OpenSpec.upto fnExactAreCitiesSpec)

/-- 'laws.FnExactSameNet', WHERE WHAT IT READS IS OF BULK AT MOST 1048576: true; the input reads as it did. -/
def fnExactSameNetUptoRow : OpenClaim := { program := "ytpmhddcbbajpkaa", sum := "ef02986cb0da35fac945e430a4e4444648dd18459ced0a40b5fa44c9d7962a5b", func := "loop.example/g01346/laws.FnExactSameNet", spec := "fnExactSameNet", apart := false, narrowed := true }
def FnExactSameNetUptoSaid : Prop := fnExactSameNetUptoRow.holds Try.pinned (OpenSpec.upto fnExactSameNetSpec)

/-- 'laws.FnExactValidNet', WHERE WHAT IT READS IS OF BULK AT MOST 1048576: true; the input reads as it did. -/
def fnExactValidNetUptoRow : OpenClaim := { program := "ytpmhddcbbajpkaa", sum := "ef02986cb0da35fac945e430a4e4444648dd18459ced0a40b5fa44c9d7962a5b", func := "loop.example/g01346/laws.FnExactValidNet", spec := "fnExactValidNet", apart := false, narrowed := true }
def FnExactValidNetUptoSaid : Prop := fnExactValidNetUptoRow.holds Try.pinned (OpenSpec.upto fnExactValidNetSpec)

/-- 'laws.FnExactExactCovers', WHERE WHAT IT READS IS OF BULK AT MOST 1048576: true; the input reads as it did. -/
def fnExactExactCoversUptoRow : OpenClaim := { program := "ytpmhddcbbajpkaa", sum := "ef02986cb0da35fac945e430a4e4444648dd18459ced0a40b5fa44c9d7962a5b", func := "loop.example/g01346/laws.FnExactExactCovers", spec := "fnExactExactCovers", recurses := true, apart := false, narrowed := true }
def FnExactExactCoversUptoSaid : Prop := fnExactExactCoversUptoRow.holds Try.pinned (OpenSpec.upto fnExactExactCoversSpec)

end Rows
end Go.Proofs.Ytpmhddcbbajpkaa
