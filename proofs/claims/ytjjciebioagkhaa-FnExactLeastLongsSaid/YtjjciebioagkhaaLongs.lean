/- LeastLongs of the program: the walk. -/
import Derived.Test.YtjjciebioagkhaaLeast
import Derived.Test.YtjjciebioagkhaaLongsPlain2
import Derived.Test.YtjjciebioagkhaaCutOf
namespace Go.Proofs.Ytjjciebioagkhaa
open Go.RowKit

def costsTo (xs : List ArcR) (k : Nat) : Bool := (List.range k).all fun i => decide (0 ≤ (xs.getD i default).cost)
theorem costsTo_succ (xs : List ArcR) (k : Nat) : costsTo xs (k + 1) = (costsTo xs k && decide (0 ≤ (xs.getD k default).cost)) := by
  unfold costsTo
  rw [List.range_succ, List.all_append]; simp
theorem costsTo_stop {xs : List ArcR} {k : Nat} (h : ¬ 0 ≤ (xs.getD k default).cost) : ∀ d, costsTo xs (k + 1 + d) = false
  | 0 => by rw [Nat.add_zero, costsTo_succ, decide_eq_false h, Bool.and_false]
  | d + 1 => by rw [← Nat.add_assoc, costsTo_succ, costsTo_stop h d, Bool.false_and]
theorem costsTo_at {xs : List ArcR} {n : Nat} (h : costsTo xs n = true) {k : Nat} (hk : k < n) : 0 ≤ (xs.getD k default).cost := by
  unfold costsTo at h
  rw [List.all_eq_true] at h
  exact of_decide_eq_true (h k (List.mem_range.2 hk))
def longsB (nodes : Int) (xs : List ArcR) (f : Int) : Bool := (validB nodes xs && inB f 0 (nodes - 1)) && costsTo xs xs.length
def longsV (nodes : Int) (xs : List ArcR) (f : Int) : List Int := if longsB nodes xs f = true then roundsL xs nodes.toNat f.toNat (nodes.toNat - 1) else []
theorem longsV_no {nodes : Int} {xs : List ArcR} {f : Int} (h : longsB nodes xs f = false) : longsV nodes xs f = [] := by unfold longsV; rw [if_neg (by rw [h]; decide)]
theorem longsV_yes {nodes : Int} {xs : List ArcR} {f : Int} (h : longsB nodes xs f = true) : longsV nodes xs f = roundsL xs nodes.toNat f.toNat (nodes.toNat - 1) := by unfold longsV; rw [if_pos h]
theorem relaxTo_len (xs : List ArcR) (D : List Int) : ∀ k, (relaxTo xs D k).length = D.length
  | 0 => rfl
  | k + 1 => by
    rw [relaxTo]
    split
    · rw [List.length_set, relaxTo_len xs D k]
    · exact relaxTo_len xs D k
theorem roundsL_len (xs : List ArcR) (N f : Nat) : ∀ r, (roundsL xs N f r).length = N
  | 0 => by simp [roundsL]
  | r + 1 => by rw [roundsL, relaxTo_len, roundsL_len xs N f r]
theorem longsV_len (nodes : Int) (xs : List ArcR) (f : Int) : (longsV nodes xs f).length ≤ 1048576 := by
  cases h : longsB nodes xs f
  · rw [longsV_no h]; simp
  · rw [longsV_yes h, roundsL_len]
    unfold longsB at h
    rw [Bool.and_eq_true, Bool.and_eq_true] at h
    have := (valid_bd h.1.1).2.1
    omega
theorem longs_hyps {xs : List ArcR} {N n : Nat} (hn : xs.length = n) (hv : validB N xs = true) (hc : costsTo xs n = true) : (∀ i, i < xs.length → 0 ≤ (xs.getD i default).cost) ∧ (∀ i, i < xs.length → (0 ≤ (xs.getD i default).fr ∧ (xs.getD i default).fr < N) ∧ (0 ≤ (xs.getD i default).to_ ∧ (xs.getD i default).to_ < N)) ∧ LinksOk (longLs xs) N ∧ LinksC (longLs xs) := by
  subst hn
  obtain ⟨_, _, _, hb⟩ := valid_bd hv
  refine ⟨fun i hi => costsTo_at hc hi, fun i hi => ⟨(hb i hi).1, (hb i hi).2.1⟩, fun k hk => ?_, fun k hk => ?_⟩
  · have hk' : k < xs.length := by simpa [longLs] using hk
    rw [longLs_get hk']
    exact ⟨(hb k hk').1, (hb k hk').2.1⟩
  · have hk' : k < xs.length := by simpa [longLs] using hk
    rw [longLs_get hk']
    exact (hb k hk').2.2.2.2
theorem longLs_take {xs : List ArcR} {k n : Nat} (hn : xs.length = n) (hk : k < n) : (longLs xs).take (k + 1) = (longLs xs).take k ++ [longLk (xs.getD k default)] := by
  have hl : k < (longLs xs).length := by simp [longLs]; omega
  rw [List.take_succ_eq_append_getElem hl]
  congr 1
  simp [longLs, List.getD, List.getElem?_eq_getElem (show k < xs.length by omega)]
theorem unTo_zero (s : LeastS) : unTo s 0 = s.d := by
  unfold unTo
  apply List.ext_getElem (by simp)
  intro j h1 h2
  simp [List.getD, List.getElem?_eq_getElem h2]
theorem unTo_get {s : LeastS} {j v : Nat} (hv : v < s.d.length) : (unTo s j).getD v 0 = if v < j ∧ s.k.getD v false = false then -1 else s.d.getD v 0 := by
  unfold unTo
  simp only [List.getD, List.getElem?_map, List.getElem?_range hv, Option.map_some, Option.getD_some]
theorem ext_getD {a b : List Int} {n : Nat} (ha : a.length = n) (hb : b.length = n) (h : ∀ j, j < n → a.getD j 0 = b.getD j 0) : a = b := eq_of_getD ha hb h
theorem unTo_set {s : LeastS} {j : Nat} (hj : j < s.d.length) (hk : s.k.getD j false = false) : (unTo s j).set j (-1) = unTo s (j + 1) := by
  have hl : (unTo s j).length = s.d.length := by simp [unTo]
  refine ext_getD (n := s.d.length) (by simp [unTo]) (by simp [unTo]) fun v hv => ?_
  rw [getD_setL _ _ v _ (by rw [hl]; exact hj), unTo_get hv, unTo_get hv]
  by_cases e : j = v
  · subst e
    rw [if_pos rfl, if_pos ⟨by omega, hk⟩]
  · rw [if_neg e]
    by_cases h2 : v < j
    · by_cases h3 : s.k.getD v false = false
      · rw [if_pos ⟨h2, h3⟩, if_pos ⟨by omega, h3⟩]
      · rw [if_neg (fun h => h3 h.2), if_neg (fun h => h3 h.2)]
    · rw [if_neg (fun h => h2 h.1), if_neg (fun h => h2 (by omega))]
theorem unTo_keep {s : LeastS} {j : Nat} (hk : s.k.getD j false = true) : unTo s (j + 1) = unTo s j := by
  refine ext_getD (n := s.d.length) (by simp [unTo]) (by simp [unTo]) fun v hv => ?_
  rw [unTo_get hv, unTo_get hv]
  by_cases e : v = j
  · subst e
    rw [if_neg (fun h => by rw [hk] at h; exact absurd h.2 (by decide)), if_neg (fun h => by omega)]
  · by_cases h2 : v < j
    · by_cases h3 : s.k.getD v false = false
      · rw [if_pos ⟨by omega, h3⟩, if_pos ⟨h2, h3⟩]
      · rw [if_neg (fun h => h3 h.2), if_neg (fun h => h3 h.2)]
    · rw [if_neg (fun h => by omega), if_neg (fun h => h2 h.1)]
theorem unTo_all {N : Nat} {xs : List ArcR} {f : Nat} {s : LeastS} {D : List Int} (h : RelD N s D) (hs : Sound xs N f D) : unTo s N = D := by
  refine ext_getD (n := N) (by simp [unTo, h.dl]) h.Dl fun v hv => ?_
  rw [unTo_get (by rw [h.dl]; exact hv)]
  have hk := h.k v hv
  by_cases e : 0 ≤ D.getD v 0
  · rw [decide_eq_true e] at hk
    rw [if_neg (fun h2 => by rw [hk] at h2; exact absurd h2.2 (by decide))]
    exact h.d v hv e
  · rw [decide_eq_false e] at hk
    rw [if_pos ⟨hv, hk⟩]
    rcases hs.2 v hv with h1 | ⟨h1, _⟩
    · exact h1.symm
    · exact absurd h1 e
end Go.Proofs.Ytjjciebioagkhaa
