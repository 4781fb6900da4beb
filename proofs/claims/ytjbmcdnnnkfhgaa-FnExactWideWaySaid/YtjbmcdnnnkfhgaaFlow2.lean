/- What flows cost and what goes out of nodes. -/
import Derived.Test.YtjbmcdnnnkfhgaaFlow
namespace Go.Proofs.Ytjbmcdnnnkfhgaa
open Go.RowKit

def costTo (xs : List ArcR) (fl : List Int) (k : Nat) : Int := (List.range k).foldl (fun s i => s + fl.getD i 0 * (xs.getD i default).cost) 0
theorem costTo_succ (xs : List ArcR) (fl : List Int) (k : Nat) : costTo xs fl (k + 1) = costTo xs fl k + fl.getD k 0 * (xs.getD k default).cost := by
  unfold costTo
  rw [List.range_succ, List.foldl_append]; rfl
theorem mul_bd {y q : Int} (h0 : 0 ≤ y) (h1 : y ≤ 1000000) (h2 : -1000 ≤ q) (h3 : q ≤ 1000) : -1000000000 ≤ y * q ∧ y * q ≤ 1000000000 := by
  have a : y * q ≤ 1000000 * 1000 := by
    by_cases hq : 0 ≤ q
    · exact Int.mul_le_mul h1 h3 hq (by omega)
    · have : y * q ≤ 0 := Int.mul_nonpos_of_nonneg_of_nonpos h0 (by omega)
      omega
  have b : y * (-q) ≤ 1000000 * 1000 := by
    by_cases hq : 0 ≤ -q
    · exact Int.mul_le_mul h1 (by omega) hq (by omega)
    · have : y * (-q) ≤ 0 := Int.mul_nonpos_of_nonneg_of_nonpos h0 (by omega)
      omega
  rw [Int.mul_neg] at b
  omega
def outTo (xs : List ArcR) (fl : List Int) (node : Int) (k : Nat) : Int := (List.range k).foldl (fun s i => s + (if (xs.getD i default).fr = node then fl.getD i 0 else 0) - (if (xs.getD i default).to_ = node then fl.getD i 0 else 0)) 0
theorem outTo_succ (xs : List ArcR) (fl : List Int) (node : Int) (k : Nat) : outTo xs fl node (k + 1) = outTo xs fl node k + (if (xs.getD k default).fr = node then fl.getD k 0 else 0) - (if (xs.getD k default).to_ = node then fl.getD k 0 else 0) := by
  unfold outTo
  rw [List.range_succ, List.foldl_append]; rfl
theorem outTo_bd {xs : List ArcR} {fl : List Int} {n : Nat} (node : Int) (hf : ∀ k, k < n → 0 ≤ fl.getD k 0 ∧ fl.getD k 0 ≤ 1000000) : ∀ k, k ≤ n → -1000000 * (k : Int) ≤ outTo xs fl node k ∧ outTo xs fl node k ≤ 1000000 * (k : Int)
  | 0, _ => by simp [outTo]
  | k + 1, h => by
    have := outTo_bd (xs := xs) node hf k (by omega)
    have := hf k (by omega)
    rw [outTo_succ]
    split <;> split <;> omega




end Go.Proofs.Ytjbmcdnnnkfhgaa
