/- Flags of the numbers of a list. -/
import Derived.Test.YtfoelpmglmaamaaAppend
namespace Go.Proofs.Ytfoelpmglmaamaa
open Go.RowKit

/-- the flags behind the first j nodes of a list -/
def flagsT (N : Nat) (cut : List Int) (j : Nat) : List Bool := (List.range N).map fun (v : Nat) => hasB (cut.take j) (v : Int)
theorem flagsT_len (N : Nat) (cut : List Int) (j : Nat) : (flagsT N cut j).length = N := by simp [flagsT]
theorem flagsT_zero (N : Nat) (cut : List Int) : flagsT N cut 0 = List.replicate N false := by
  unfold flagsT
  apply List.ext_getElem
  · simp
  · intro i h1 h2; simp [hasB]
theorem flagsT_at {N : Nat} {cut : List Int} {j v : Nat} (hv : v < N) : (flagsT N cut j).getD v false = hasB (cut.take j) (v : Int) := by
  simp [flagsT, List.getD, List.getElem?_map, hv]
theorem flagsT_set {N : Nat} {cut : List Int} {j v : Nat} (hj : j < cut.length) (hv : cut.getD j 0 = (v : Int)) (_hN : v < N) : (flagsT N cut j).set v true = flagsT N cut (j + 1) := by
  apply List.ext_getElem
  · simp [flagsT]
  · intro i h1 h2
    have hi : i < N := by simpa [flagsT] using h2
    have e : cut.take (j + 1) = cut.take j ++ [cut.getD j 0] := by
      rw [List.take_succ_eq_append_getElem hj]; simp [List.getD, List.getElem?_eq_getElem hj]
    rw [List.getElem_set]
    simp only [flagsT, List.getElem_map, List.getElem_range, e, hv]
    by_cases h : v = i
    · subst h; rw [if_pos rfl, eq_comm, hasB_iff]; simp
    · rw [if_neg h, Bool.eq_iff_iff, hasB_iff, hasB_iff, List.mem_append, List.mem_singleton]
      constructor
      · exact .inl
      · rintro (h3 | h3)
        · exact h3
        · omega
theorem flags_cell {bs : List Bool} {N v : Nat} (h : bs.length = N) (hv : v < N) : (bs.map Value.bool)[v]? = some (.bool (bs.getD v false)) := by
  simp [List.getElem?_map, List.getD, List.getElem?_eq_getElem (show v < bs.length by omega)]
theorem flagsT_skip {N : Nat} {cut : List Int} {j : Nat} (hj : j < cut.length) (h : cut.getD j 0 < 0) : flagsT N cut (j + 1) = flagsT N cut j := by
  apply List.ext_getElem
  · simp [flagsT]
  · intro i h1 h2
    have e : cut.take (j + 1) = cut.take j ++ [cut.getD j 0] := by
      rw [List.take_succ_eq_append_getElem hj]; simp [List.getD, List.getElem?_eq_getElem hj]
    simp only [flagsT, List.getElem_map, List.getElem_range, e]
    rw [Bool.eq_iff_iff, hasB_iff, hasB_iff, List.mem_append, List.mem_singleton]
    constructor
    · rintro (h3 | h3)
      · exact h3
      · omega
    · exact .inl
end Go.Proofs.Ytfoelpmglmaamaa
