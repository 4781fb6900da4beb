/- Which nodes are reached: the walk of the reference. -/
import Derived.Test.YtfoelpmglmaamaaReach
namespace Go.Proofs.Ytfoelpmglmaamaa
open Go.RowKit

/-- the cells of the j-th left over arc of a slice -/
theorem left_cells {T base g m q : Nat} {w : World} {ls : List LinkR} (h : OwnC T base 6 w (some ⟨g, 0, none⟩) m q (flatV LinkR.cellsS ls)) {j : Nat} (hj : j < m) :
    w.cell? ⟨g, j * 6, none⟩ = some (.int .i64 (ls.getD j default).fr) ∧ w.cell? ⟨g, j * 6 + 1, none⟩ = some (.int .i64 (ls.getD j default).to_) ∧ w.cell? ⟨g, j * 6 + 2, none⟩ = some (.int .i64 (ls.getD j default).room) ∧
    w.cell? ⟨g, j * 6 + 3, none⟩ = some (.int .i64 (ls.getD j default).cost) ∧ w.cell? ⟨g, j * 6 + 4, none⟩ = some (.int .i64 (ls.getD j default).arc) ∧ w.cell? ⟨g, j * 6 + 5, none⟩ = some (.bool (ls.getD j default).back) := by
  have hl : ls.length = m := by
    have := OwnC.len h
    rw [flatV_len LinkR.cellsS 6 (fun _ => rfl)] at this
    omega
  have key : ∀ i, i < 6 → w.cell? ⟨g, j * 6 + i, none⟩ = (ls.getD j default).cellsS[i]? := fun i hi => by
    rw [OwnC.cell h (by omega), flatV_get LinkR.cellsS 6 (fun _ => rfl) default ls j i (by omega) hi]
  exact ⟨key 0 (by omega), key 1 (by omega), key 2 (by omega), key 3 (by omega), key 4 (by omega), key 5 (by omega)⟩
theorem rep_snoc (k : Nat) (x : Int) : List.replicate k x ++ [x] = List.replicate (k + 1) x := by
  rw [List.replicate_succ']

end Go.Proofs.Ytfoelpmglmaamaa
