/-
  No cell of these rows narrows 'for every input' (looked for: loops, veiled, ifaces, maps, wideKeys, modest, calm, conditions, laid).
  DERIVED. THE GIVEN ROWS OF THIS SEAT. 5 by the template 'for every input the law returns true; each argument reads behind the call as it read before'; 0 by the template 'total and deterministic' (their statements: YtbdcnbnaammagaaTotals.lean).
  GIVEN WITH THE SEED: the statements are not yours to turn. If you find one false, say at which input.
  Laid BY PROGRAM, IN A SANDBOX (cutbox-rows.mjs): the forced cells as the released guide's own fill.sh prints them over the translation 76357ac47f447ea0… (all of the seat's roots in one cut). By AI agents, Wed Nov 11 2026. No macro, syntax, notation, axiom, sorry.
-/
import Derived.Test.YtbdcnbnaammagaaChecked
import GoSem.Claim
import GoSem.ClaimJoined
import GoSem.ClaimMapViews
import Derived.JoinedTies
import Derived.KernelRfl
namespace Go.Proofs.Ytbdcnbnaammagaa
/- THE CELL 'sum', in the pinned program and in every row, IS THE sha256 OF THE DUMP (.gsa) THAT YtbdcnbnaammagaaProg.lean LOADS. Nothing in Lean hashes anything: it is a label: what it is worth is what the hold of that sum in a sandbox is worth. -/
noncomputable def Try.pinned : Pinned := { name := "ytbdcnbnaammagaa", sum := "76357ac47f447ea0149dfa56d8e121a2fb044abb1a0ecde2da7249c03cc3e987", checked := Try.checked }
namespace Rows
def none {H : Type} : Left H := { results := [], args := [] }

/-- 'laws.FnCovers': WHATEVER THE INPUT: true; the input reads as it did. -/
def fnCoversSpec : ChangeSpec := { name := "fnCovers", fn := fun _ => fun
  | [d1, d2] => { results := [.lit (.bool true)], args := [d1, d2] }
  | _ => none }
def fnCoversRow : OpenClaim := { program := "ytbdcnbnaammagaa", sum := "76357ac47f447ea0149dfa56d8e121a2fb044abb1a0ecde2da7249c03cc3e987", func := "loop.example/g01346/laws.FnCovers", spec := "fnCovers", apart := false }
def FnCoversSaid : Prop := fnCoversRow.holds Try.pinned (OpenSpec.ofChange fnCoversSpec)

/-- ITS FALSE NEIGHBOUR: 'it returns false'. Refute it at one input. -/
def fnCoversWrong : ChangeSpec := { name := "fnCovers", fn := fun _ => fun
  | [d1, d2] => { results := [.lit (.bool false)], args := [d1, d2] }
  | _ => none }
def FnCoversWrongFalsely : Prop := fnCoversRow.holds Try.pinned (OpenSpec.ofChange fnCoversWrong)

/-- 'laws.FnExactAreSets': WHATEVER THE INPUT: true; the input reads as it did. -/
def fnExactAreSetsSpec : ChangeSpec := { name := "fnExactAreSets", fn := fun _ => fun
  | [d1, d2] => { results := [.lit (.bool true)], args := [d1, d2] }
  | _ => none }
def fnExactAreSetsRow : OpenClaim := { program := "ytbdcnbnaammagaa", sum := "76357ac47f447ea0149dfa56d8e121a2fb044abb1a0ecde2da7249c03cc3e987", func := "loop.example/g01346/laws.FnExactAreSets", spec := "fnExactAreSets", apart := false }
def FnExactAreSetsSaid : Prop := fnExactAreSetsRow.holds Try.pinned (OpenSpec.ofChange fnExactAreSetsSpec)

/-- ITS FALSE NEIGHBOUR: 'it returns false'. Refute it at one input. -/
def fnExactAreSetsWrong : ChangeSpec := { name := "fnExactAreSets", fn := fun _ => fun
  | [d1, d2] => { results := [.lit (.bool false)], args := [d1, d2] }
  | _ => none }
def FnExactAreSetsWrongFalsely : Prop := fnExactAreSetsRow.holds Try.pinned (OpenSpec.ofChange fnExactAreSetsWrong)

/-- 'laws.FnExactExactCovers': WHATEVER THE INPUT: true; the input reads as it did. -/
def fnExactExactCoversSpec : ChangeSpec := { name := "fnExactExactCovers", fn := fun _ => fun
  | [d1, d2] => { results := [.lit (.bool true)], args := [d1, d2] }
  | _ => none }
def fnExactExactCoversRow : OpenClaim := { program := "ytbdcnbnaammagaa", sum := "76357ac47f447ea0149dfa56d8e121a2fb044abb1a0ecde2da7249c03cc3e987", func := "loop.example/g01346/laws.FnExactExactCovers", spec := "fnExactExactCovers", recurses := true, apart := false }
def FnExactExactCoversSaid : Prop := fnExactExactCoversRow.holds Try.pinned (OpenSpec.ofChange fnExactExactCoversSpec)

/-- ITS FALSE NEIGHBOUR: 'it returns false'. Refute it at one input. -/
def fnExactExactCoversWrong : ChangeSpec := { name := "fnExactExactCovers", fn := fun _ => fun
  | [d1, d2] => { results := [.lit (.bool false)], args := [d1, d2] }
  | _ => none }
def FnExactExactCoversWrongFalsely : Prop := fnExactExactCoversRow.holds Try.pinned (OpenSpec.ofChange fnExactExactCoversWrong)

/-- 'laws.FnExactLeastCover': WHATEVER THE INPUT: true; the input reads as it did. -/
def fnExactLeastCoverSpec : ChangeSpec := { name := "fnExactLeastCover", fn := fun _ => fun
  | [d1, d2] => { results := [.lit (.bool true)], args := [d1, d2] }
  | _ => none }
def fnExactLeastCoverRow : OpenClaim := { program := "ytbdcnbnaammagaa", sum := "76357ac47f447ea0149dfa56d8e121a2fb044abb1a0ecde2da7249c03cc3e987", func := "loop.example/g01346/laws.FnExactLeastCover", spec := "fnExactLeastCover", apart := false }
def FnExactLeastCoverSaid : Prop := fnExactLeastCoverRow.holds Try.pinned (OpenSpec.ofChange fnExactLeastCoverSpec)

/-- ITS FALSE NEIGHBOUR: 'it returns false'. Refute it at one input. -/
def fnExactLeastCoverWrong : ChangeSpec := { name := "fnExactLeastCover", fn := fun _ => fun
  | [d1, d2] => { results := [.lit (.bool false)], args := [d1, d2] }
  | _ => none }
def FnExactLeastCoverWrongFalsely : Prop := fnExactLeastCoverRow.holds Try.pinned (OpenSpec.ofChange fnExactLeastCoverWrong)

/-- 'laws.FnExactGreedyCover': WHATEVER THE INPUT: true; the input reads as it did. -/
def fnExactGreedyCoverSpec : ChangeSpec := { name := "fnExactGreedyCover", fn := fun _ => fun
  | [d1, d2] => { results := [.lit (.bool true)], args := [d1, d2] }
  | _ => none }
def fnExactGreedyCoverRow : OpenClaim := { program := "ytbdcnbnaammagaa", sum := "76357ac47f447ea0149dfa56d8e121a2fb044abb1a0ecde2da7249c03cc3e987", func := "loop.example/g01346/laws.FnExactGreedyCover", spec := "fnExactGreedyCover", apart := false }
def FnExactGreedyCoverSaid : Prop := fnExactGreedyCoverRow.holds Try.pinned (OpenSpec.ofChange fnExactGreedyCoverSpec)

/-- ITS FALSE NEIGHBOUR: 'it returns false'. Refute it at one input. -/
def fnExactGreedyCoverWrong : ChangeSpec := { name := "fnExactGreedyCover", fn := fun _ => fun
  | [d1, d2] => { results := [.lit (.bool false)], args := [d1, d2] }
  | _ => none }
def FnExactGreedyCoverWrongFalsely : Prop := fnExactGreedyCoverRow.holds Try.pinned (OpenSpec.ofChange fnExactGreedyCoverWrong)

/- THE SECOND FORM. 'bulk': how many values and letters a reading holds, each counted each time it is reached (what is shared counts as often as it is met; a slice's spare places count too). A statement '..UptoSaid' is the law's where the arguments, and the package variables that the reading takes, are together of bulk at most 1048576: NARROWER than '..Said'. Prove '..Said' where nothing that the law and all that it calls make is longer than what came in: it says more and counts as full. Else prove '..UptoSaid'. A law counts once. -/
mutual
def uptoBulk {H : Type} : DataW H → Nat
  | .lit (.string bytes) => bytes.length + 1
  | .lit _ => 1
  | .nil => 1
  | .ptr d => uptoBulk d + 1
  | .slice elems spare => uptoBulkAll elems + uptoBulkAll spare + 1
  | .agg parts => uptoBulkAll parts + 1
  | .iface _ d => uptoBulk d + 1
  | .map entries => uptoBulkEntries entries + 1
  | .held _ => 1
def uptoBulkAll {H : Type} : List (DataW H) → Nat
  | [] => 0
  | d :: r => uptoBulk d + uptoBulkAll r
def uptoBulkEntries {H : Type} : List (Lit × DataW H) → Nat
  | [] => 0
  | x :: r => uptoBulkEntry x + uptoBulkEntries r
def uptoBulkEntry {H : Type} : Lit × DataW H → Nat
  | (.string bytes, d) => bytes.length + uptoBulk d + 1
  | (_, d) => uptoBulk d + 1
 end
def uptoSmall : (H : Type) → List (DataW H) → Bool := fun _ ds => decide (uptoBulkAll ds ≤ 1048576)
def OpenSpec.upto (s : _root_.Go.ChangeSpec) : _root_.Go.OpenSpec := { _root_.Go.OpenSpec.ofChange s with cond := some uptoSmall }

/-- 'laws.FnCovers', WHERE WHAT IT READS IS OF BULK AT MOST 1048576: true; the input reads as it did. -/
def fnCoversUptoRow : OpenClaim := { program := "ytbdcnbnaammagaa", sum := "76357ac47f447ea0149dfa56d8e121a2fb044abb1a0ecde2da7249c03cc3e987", func := "loop.example/g01346/laws.FnCovers", spec := "fnCovers", apart := false, narrowed := true }
def FnCoversUptoSaid : Prop := fnCoversUptoRow.holds Try.pinned (OpenSpec.upto fnCoversSpec)

/-- 'laws.FnExactAreSets', WHERE WHAT IT READS IS OF BULK AT MOST 1048576: true; the input reads as it did. -/
def fnExactAreSetsUptoRow : OpenClaim := { program := "ytbdcnbnaammagaa", sum := "76357ac47f447ea0149dfa56d8e121a2fb044abb1a0ecde2da7249c03cc3e987", func := "loop.example/g01346/laws.FnExactAreSets", spec := "fnExactAreSets", apart := false, narrowed := true }
def FnExactAreSetsUptoSaid : Prop := fnExactAreSetsUptoRow.holds Try.pinned (OpenSpec.upto fnExactAreSetsSpec)

/-- 'laws.FnExactExactCovers', WHERE WHAT IT READS IS OF BULK AT MOST 1048576: true; the input reads as it did. -/
def fnExactExactCoversUptoRow : OpenClaim := { program := "ytbdcnbnaammagaa", sum := "76357ac47f447ea0149dfa56d8e121a2fb044abb1a0ecde2da7249c03cc3e987", func := "loop.example/g01346/laws.FnExactExactCovers", spec := "fnExactExactCovers", recurses := true, apart := false, narrowed := true }
def FnExactExactCoversUptoSaid : Prop := fnExactExactCoversUptoRow.holds Try.pinned (OpenSpec.upto fnExactExactCoversSpec)

/-- 'laws.FnExactLeastCover', WHERE WHAT IT READS IS OF BULK AT MOST 1048576: true; the input reads as it did. -/
def fnExactLeastCoverUptoRow : OpenClaim := { program := "ytbdcnbnaammagaa", sum := "76357ac47f447ea0149dfa56d8e121a2fb044abb1a0ecde2da7249c03cc3e987", func := "loop.example/g01346/laws.FnExactLeastCover", spec := "fnExactLeastCover", apart := false, narrowed := true }
def FnExactLeastCoverUptoSaid : Prop := fnExactLeastCoverUptoRow.holds Try.pinned (OpenSpec.upto fnExactLeastCoverSpec)

/-- 'laws.FnExactGreedyCover', WHERE WHAT IT READS IS OF BULK AT MOST 1048576: true; the input reads as it did. -/
def fnExactGreedyCoverUptoRow : OpenClaim := { program := "ytbdcnbnaammagaa", sum := "76357ac47f447ea0149dfa56d8e121a2fb044abb1a0ecde2da7249c03cc3e987", func := "loop.example/g01346/laws.FnExactGreedyCover", spec := "fnExactGreedyCover", apart := false, narrowed := true }
def FnExactGreedyCoverUptoSaid : Prop := fnExactGreedyCoverUptoRow.holds Try.pinned (OpenSpec.upto fnExactGreedyCoverSpec)

end Rows
end Go.Proofs.Ytbdcnbnaammagaa
