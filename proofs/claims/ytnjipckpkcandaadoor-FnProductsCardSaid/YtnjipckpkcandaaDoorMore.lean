/- More words for memory. -/
import Derived.Test.YtnjipckpkcandaaDoorMark
namespace Go.Proofs.YtnjipckpkcandaaDoor
open Go.RowKit

/-- the cells of a slice that is read and known to lie at an address -/
theorem ints_cell {w : World} {ad : Addr} {n : Nat} {zs : List Int} (h : IntsAt w (some ad) n zs) {k : Nat} (hk : k < n) : w.cell? (ad.add k) = some (.int .i64 (zs.getD k 0)) := by
  obtain ⟨ad', e, _, hc⟩ := h.at_ hk
  injection e with e
  subst e
  exact hc
end Go.Proofs.YtnjipckpkcandaaDoor
