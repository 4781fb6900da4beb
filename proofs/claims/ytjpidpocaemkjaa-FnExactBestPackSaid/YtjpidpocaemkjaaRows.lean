/-
  No cell of these rows narrows 'for every input' (looked for: loops, veiled, ifaces, maps, wideKeys, modest, calm, conditions, laid).
  DERIVED. THE GIVEN ROWS OF THIS SEAT. 6 by the template 'for every input the law returns true; each argument reads behind the call as it read before'; 0 by the template 'total and deterministic' (their statements: YtjpidpocaemkjaaTotals.lean).
  GIVEN WITH THE SEED: the statements are not yours to turn. If you find one false, say at which input.
  Laid BY PROGRAM, IN A SANDBOX (cutbox-rows.mjs): the forced cells as the released guide's own fill.sh prints them over the translation b8e2b34c3e036068… (all of the seat's roots in one cut). By AI agents, Wed Nov 11 2026. No macro, syntax, notation, axiom, sorry.
-/
import Derived.Test.YtjpidpocaemkjaaChecked
import GoSem.Claim
import GoSem.ClaimJoined
import GoSem.ClaimMapViews
import Derived.JoinedTies
import Derived.KernelRfl
namespace Go.Proofs.Ytjpidpocaemkjaa
/- THE CELL 'sum', in the pinned program and in every row, IS THE sha256 OF THE DUMP (.gsa) THAT YtjpidpocaemkjaaProg.lean LOADS. Nothing in Lean hashes anything: it is a label: what it is worth is what the hold of that sum in a sandbox is worth. -/
noncomputable def Try.pinned : Pinned := { name := "ytjpidpocaemkjaa", sum := "b8e2b34c3e0360685ed76a152430799db5890706e93afd1c8665955a349d4b0e", checked := Try.checked }
namespace Rows
def none {H : Type} : Left H := { results := [], args := [] }

/-- 'laws.FnExactBestGains': WHATEVER THE INPUT: true; the input reads as it did. -/
def fnExactBestGainsSpec : ChangeSpec := { name := "fnExactBestGains", fn := fun _ => fun
  | [d1, d2, d3] => { results := [.lit (.bool true)], args := [d1, d2, d3] }
  | _ => none }
def fnExactBestGainsRow : OpenClaim := { program := "ytjpidpocaemkjaa", sum := "b8e2b34c3e0360685ed76a152430799db5890706e93afd1c8665955a349d4b0e", func := "loop.example/g01346/laws.FnExactBestGains", spec := "fnExactBestGains", apart := false }
def FnExactBestGainsSaid : Prop := fnExactBestGainsRow.holds Try.pinned (OpenSpec.ofChange fnExactBestGainsSpec)

/-- ITS FALSE NEIGHBOUR: 'it returns false'. Refute it at one input. -/
def fnExactBestGainsWrong : ChangeSpec := { name := "fnExactBestGains", fn := fun _ => fun
  | [d1, d2, d3] => { results := [.lit (.bool false)], args := [d1, d2, d3] }
  | _ => none }
def FnExactBestGainsWrongFalsely : Prop := fnExactBestGainsRow.holds Try.pinned (OpenSpec.ofChange fnExactBestGainsWrong)

/-- 'laws.FnExactLeastBins': WHATEVER THE INPUT: true; the input reads as it did. -/
def fnExactLeastBinsSpec : ChangeSpec := { name := "fnExactLeastBins", fn := fun _ => fun
  | [d1, d2] => { results := [.lit (.bool true)], args := [d1, d2] }
  | _ => none }
def fnExactLeastBinsRow : OpenClaim := { program := "ytjpidpocaemkjaa", sum := "b8e2b34c3e0360685ed76a152430799db5890706e93afd1c8665955a349d4b0e", func := "loop.example/g01346/laws.FnExactLeastBins", spec := "fnExactLeastBins", recurses := true, apart := false }
def FnExactLeastBinsSaid : Prop := fnExactLeastBinsRow.holds Try.pinned (OpenSpec.ofChange fnExactLeastBinsSpec)

/-- ITS FALSE NEIGHBOUR: 'it returns false'. Refute it at one input. -/
def fnExactLeastBinsWrong : ChangeSpec := { name := "fnExactLeastBins", fn := fun _ => fun
  | [d1, d2] => { results := [.lit (.bool false)], args := [d1, d2] }
  | _ => none }
def FnExactLeastBinsWrongFalsely : Prop := fnExactLeastBinsRow.holds Try.pinned (OpenSpec.ofChange fnExactLeastBinsWrong)

/-- 'laws.FnExactLeastCover': WHATEVER THE INPUT: true; the input reads as it did. -/
def fnExactLeastCoverSpec : ChangeSpec := { name := "fnExactLeastCover", fn := fun _ => fun
  | [d1, d2] => { results := [.lit (.bool true)], args := [d1, d2] }
  | _ => none }
def fnExactLeastCoverRow : OpenClaim := { program := "ytjpidpocaemkjaa", sum := "b8e2b34c3e0360685ed76a152430799db5890706e93afd1c8665955a349d4b0e", func := "loop.example/g01346/laws.FnExactLeastCover", spec := "fnExactLeastCover", apart := false }
def FnExactLeastCoverSaid : Prop := fnExactLeastCoverRow.holds Try.pinned (OpenSpec.ofChange fnExactLeastCoverSpec)

/-- ITS FALSE NEIGHBOUR: 'it returns false'. Refute it at one input. -/
def fnExactLeastCoverWrong : ChangeSpec := { name := "fnExactLeastCover", fn := fun _ => fun
  | [d1, d2] => { results := [.lit (.bool false)], args := [d1, d2] }
  | _ => none }
def FnExactLeastCoverWrongFalsely : Prop := fnExactLeastCoverRow.holds Try.pinned (OpenSpec.ofChange fnExactLeastCoverWrong)

/-- 'laws.FnExactBestHalves': WHATEVER THE INPUT: true; the input reads as it did. -/
def fnExactBestHalvesSpec : ChangeSpec := { name := "fnExactBestHalves", fn := fun _ => fun
  | [d] => { results := [.lit (.bool true)], args := [d] }
  | _ => none }
def fnExactBestHalvesRow : OpenClaim := { program := "ytjpidpocaemkjaa", sum := "b8e2b34c3e0360685ed76a152430799db5890706e93afd1c8665955a349d4b0e", func := "loop.example/g01346/laws.FnExactBestHalves", spec := "fnExactBestHalves", apart := false }
def FnExactBestHalvesSaid : Prop := fnExactBestHalvesRow.holds Try.pinned (OpenSpec.ofChange fnExactBestHalvesSpec)

/-- ITS FALSE NEIGHBOUR: 'it returns false'. Refute it at one input. -/
def fnExactBestHalvesWrong : ChangeSpec := { name := "fnExactBestHalves", fn := fun _ => fun
  | [d] => { results := [.lit (.bool false)], args := [d] }
  | _ => none }
def FnExactBestHalvesWrongFalsely : Prop := fnExactBestHalvesRow.holds Try.pinned (OpenSpec.ofChange fnExactBestHalvesWrong)

/-- 'laws.FnExactGreedyCover': WHATEVER THE INPUT: true; the input reads as it did. -/
def fnExactGreedyCoverSpec : ChangeSpec := { name := "fnExactGreedyCover", fn := fun _ => fun
  | [d1, d2] => { results := [.lit (.bool true)], args := [d1, d2] }
  | _ => none }
def fnExactGreedyCoverRow : OpenClaim := { program := "ytjpidpocaemkjaa", sum := "b8e2b34c3e0360685ed76a152430799db5890706e93afd1c8665955a349d4b0e", func := "loop.example/g01346/laws.FnExactGreedyCover", spec := "fnExactGreedyCover", apart := false }
def FnExactGreedyCoverSaid : Prop := fnExactGreedyCoverRow.holds Try.pinned (OpenSpec.ofChange fnExactGreedyCoverSpec)

/-- ITS FALSE NEIGHBOUR: 'it returns false'. Refute it at one input. -/
def fnExactGreedyCoverWrong : ChangeSpec := { name := "fnExactGreedyCover", fn := fun _ => fun
  | [d1, d2] => { results := [.lit (.bool false)], args := [d1, d2] }
  | _ => none }
def FnExactGreedyCoverWrongFalsely : Prop := fnExactGreedyCoverRow.holds Try.pinned (OpenSpec.ofChange fnExactGreedyCoverWrong)

/-- 'laws.FnExactBestPack': WHATEVER THE INPUT: true; the input reads as it did. -/
def fnExactBestPackSpec : ChangeSpec := { name := "fnExactBestPack", fn := fun _ => fun
  | [d1, d2, d3] => { results := [.lit (.bool true)], args := [d1, d2, d3] }
  | _ => none }
def fnExactBestPackRow : OpenClaim := { program := "ytjpidpocaemkjaa", sum := "b8e2b34c3e0360685ed76a152430799db5890706e93afd1c8665955a349d4b0e", func := "loop.example/g01346/laws.FnExactBestPack", spec := "fnExactBestPack", apart := false }
def FnExactBestPackSaid : Prop := fnExactBestPackRow.holds Try.pinned (OpenSpec.ofChange fnExactBestPackSpec)

/-- ITS FALSE NEIGHBOUR: 'it returns false'. Refute it at one input. -/
def fnExactBestPackWrong : ChangeSpec := { name := "fnExactBestPack", fn := fun _ => fun
  | [d1, d2, d3] => { results := [.lit (.bool false)], args := [d1, d2, d3] }
  | _ => none }
def FnExactBestPackWrongFalsely : Prop := fnExactBestPackRow.holds Try.pinned (OpenSpec.ofChange fnExactBestPackWrong)

/- THE SECOND FORM. 'bulk': how many values and letters a reading holds, each counted each time it is reached (what is shared counts as often as it is met; a slice's spare places count too). A statement '..UptoSaid' is the law's where the arguments, and the package variables that the reading takes, are together of bulk at most 1048576: NARROWER than '..Said'. Prove '..Said' where nothing that the law and all that it calls make is longer than what came in: it says more and counts as full. Else prove '..UptoSaid'. A law counts once. -/
mutual
def uptoBulk {H : Type} : DataW H → Nat
  | .lit (.string bytes) => bytes.length + 1
  | .lit _ => 1
  | .nil => 1
  | .ptr d => uptoBulk d + 1
  | .slice elems spare => uptoBulkAll elems + uptoBulkAll spare + 1
  | .agg parts => uptoBulkAll parts + 1
  | .iface _ d => uptoBulk d + 1
  | .map entries => uptoBulkEntries entries + 1
  | .held _ => 1
def uptoBulkAll {H : Type} : List (DataW H) → Nat
  | [] => 0
  | d :: r => uptoBulk d + uptoBulkAll r
def uptoBulkEntries {H : Type} : List (Lit × DataW H) → Nat
  | [] => 0
  | x :: r => uptoBulkEntry x + uptoBulkEntries r
def uptoBulkEntry {H : Type} : Lit × DataW H → Nat
  | (.string bytes, d) => bytes.length + uptoBulk d + 1
  | (_, d) => uptoBulk d + 1
 end
def uptoSmall : (H : Type) → List (DataW H) → Bool := fun _ ds => decide (uptoBulkAll ds ≤ 1048576)
def OpenSpec.upto (s : _root_.Go.ChangeSpec) : _root_.Go.OpenSpec := { _root_.Go.OpenSpec.ofChange s with cond := some uptoSmall }

/-- 'laws.FnExactBestGains', WHERE WHAT IT READS IS OF BULK AT MOST 1048576: true; the input reads as it did. -/
def fnExactBestGainsUptoRow : OpenClaim := { program := "ytjpidpocaemkjaa", sum := "b8e2b34c3e0360685ed76a152430799db5890706e93afd1c8665955a349d4b0e", func := "loop.example/g01346/laws.FnExactBestGains", spec := "fnExactBestGains", apart := false, narrowed := true }
def FnExactBestGainsUptoSaid : Prop := fnExactBestGainsUptoRow.holds Try.pinned (OpenSpec.upto fnExactBestGainsSpec)

/-- 'laws.FnExactLeastBins', WHERE WHAT IT READS IS OF BULK AT MOST 1048576: true; the input reads as it did. -/
def fnExactLeastBinsUptoRow : OpenClaim := { program := "ytjpidpocaemkjaa", sum := "b8e2b34c3e0360685ed76a152430799db5890706e93afd1c8665955a349d4b0e", func := "loop.example/g01346/laws.FnExactLeastBins", spec := "fnExactLeastBins", recurses := true, apart := false, narrowed := true }
def FnExactLeastBinsUptoSaid : Prop := fnExactLeastBinsUptoRow.holds Try.pinned (OpenSpec.upto fnExactLeastBinsSpec)

/-- 'laws.FnExactLeastCover', WHERE WHAT IT READS IS OF BULK AT MOST 1048576: true; the input reads as it did. -/
def fnExactLeastCoverUptoRow : OpenClaim := { program := "ytjpidpocaemkjaa", sum := "b8e2b34c3e0360685ed76a152430799db5890706e93afd1c8665955a349d4b0e", func := "loop.example/g01346/laws.FnExactLeastCover", spec := "fnExactLeastCover", apart := false, narrowed := true }
def FnExactLeastCoverUptoSaid : Prop := fnExactLeastCoverUptoRow.holds Try.pinned (OpenSpec.upto fnExactLeastCoverSpec)

/-- 'laws.FnExactBestHalves', WHERE WHAT IT READS IS OF BULK AT MOST 1048576: true; the input reads as it did. -/
def fnExactBestHalvesUptoRow : OpenClaim := { program := "ytjpidpocaemkjaa", sum := "b8e2b34c3e0360685ed76a152430799db5890706e93afd1c8665955a349d4b0e", func := "loop.example/g01346/laws.FnExactBestHalves", spec := "fnExactBestHalves", apart := false, narrowed := true }
def FnExactBestHalvesUptoSaid : Prop := fnExactBestHalvesUptoRow.holds Try.pinned (OpenSpec.upto fnExactBestHalvesSpec)

/-- 'laws.FnExactGreedyCover', WHERE WHAT IT READS IS OF BULK AT MOST 1048576: true; the input reads as it did. -/
def fnExactGreedyCoverUptoRow : OpenClaim := { program := "ytjpidpocaemkjaa", sum := "b8e2b34c3e0360685ed76a152430799db5890706e93afd1c8665955a349d4b0e", func := "loop.example/g01346/laws.FnExactGreedyCover", spec := "fnExactGreedyCover", apart := false, narrowed := true }
def FnExactGreedyCoverUptoSaid : Prop := fnExactGreedyCoverUptoRow.holds Try.pinned (OpenSpec.upto fnExactGreedyCoverSpec)

/-- 'laws.FnExactBestPack', WHERE WHAT IT READS IS OF BULK AT MOST 1048576: true; the input reads as it did. -/
def fnExactBestPackUptoRow : OpenClaim := { program := "ytjpidpocaemkjaa", sum := "b8e2b34c3e0360685ed76a152430799db5890706e93afd1c8665955a349d4b0e", func := "loop.example/g01346/laws.FnExactBestPack", spec := "fnExactBestPack", apart := false, narrowed := true }
def FnExactBestPackUptoSaid : Prop := fnExactBestPackUptoRow.holds Try.pinned (OpenSpec.upto fnExactBestPackSpec)

end Rows
end Go.Proofs.Ytjpidpocaemkjaa
