/- CutOf: the contracts. -/
import Derived.Test.YtnljfhmdjhppmaaReachS
import Derived.Test.YtnljfhmdjhppmaaFlow3
namespace Go.Proofs.Ytnljfhmdjhppmaa
open Go.RowKit

theorem ret_LBc {A : Option Addr} {n c : Nat} {a b : Bool} (h : a = b) : Ending.returned (.tuple #[.slice A n c, .bool a]) = .returned (.tuple #[.slice A n c, .bool b]) := by rw [h]
/-- the first k nodes that are reached -/
def cutLTo (by_ : List Int) (k : Nat) : List Int := ((List.range k).filter fun v => by_.getD v 0 != -2).map fun (v : Nat) => (v : Int)
theorem cutLTo_succ (by_ : List Int) (k : Nat) : cutLTo by_ (k + 1) = if (by_.getD k 0 != -2) = true then cutLTo by_ k ++ [(k : Int)] else cutLTo by_ k := by
  unfold cutLTo
  rw [List.range_succ, List.filter_append, List.map_append]
  simp only [List.filter_cons, List.filter_nil]
  cases h : (by_.getD k 0 != -2)
  · rw [if_neg (by decide), if_neg (by decide)]; simp
  · rw [if_pos rfl, if_pos rfl]; rfl
theorem cutLTo_len (by_ : List Int) (k : Nat) : (cutLTo by_ k).length ≤ k := by
  unfold cutLTo
  rw [List.length_map]
  exact Nat.le_trans (List.length_filter_le _ _) (by simp)

def cutLV (nodes : Int) (xs : List ArcR) (fl : List Int) (f : Int) : List Int := if flowAB nodes xs fl f = true then cutLTo (reachL (linksTo xs fl xs.length) nodes.toNat f.toNat) nodes.toNat else []
theorem cutLV_no {nodes : Int} {xs : List ArcR} {fl : List Int} {f : Int} (h : flowAB nodes xs fl f = false) : cutLV nodes xs fl f = [] := by unfold cutLV; rw [if_neg (by rw [h]; decide)]
theorem cutLV_yes {nodes : Int} {xs : List ArcR} {fl : List Int} {f : Int} (h : flowAB nodes xs fl f = true) : cutLV nodes xs fl f = cutLTo (reachL (linksTo xs fl xs.length) nodes.toNat f.toNat) nodes.toNat := by unfold cutLV; rw [if_pos h]
theorem cutLV_len (nodes : Int) (xs : List ArcR) (fl : List Int) (f : Int) : (cutLV nodes xs fl f).length ≤ 1048576 := by
  cases h : flowAB nodes xs fl f
  · rw [cutLV_no h]; simp
  · rw [cutLV_yes h]
    have := cutLTo_len (reachL (linksTo xs fl xs.length) nodes.toNat f.toNat) nodes.toNat
    unfold flowAB at h
    rw [Bool.and_eq_true] at h
    obtain ⟨h1, _⟩ := h
    obtain ⟨_, b, _⟩ := valid_bd (flow_bd h1).1
    omega
theorem flow_all_bd {nodes : Int} {xs : List ArcR} {fl : List Int} {n : Nat} (hl : xs.length = n) (h : flowB nodes xs fl = true) : n ≤ 48 ∧ fl.length = n ∧ ∀ k, k < n → (0 ≤ fl.getD k 0 ∧ fl.getD k 0 ≤ 1000000) ∧ (0 ≤ (xs.getD k default).room ∧ (xs.getD k default).room ≤ 1000000) ∧ (-1000 ≤ (xs.getD k default).cost ∧ (xs.getD k default).cost ≤ 1000) := by
  subst hl
  obtain ⟨h1, h2, h3⟩ := flow_bd h
  obtain ⟨_, _, h4, h5⟩ := valid_bd h1
  exact ⟨h4, h2, fun k hk => ⟨⟨(h3 k hk).1, (h3 k hk).2.2⟩, (h5 k hk).2.2.2.1, (h5 k hk).2.2.2.2⟩⟩



end Go.Proofs.Ytnljfhmdjhppmaa
