/- FnFlows, in plain numbers. -/
import Derived.Test.YteciampnbghonaaGreatP
import Derived.Test.YteciampnbghonaaShared
namespace Go.Proofs.Yteciampnbghonaa
open Go.RowKit

theorem ends_yes {N t : Nat} {xs : List ArcR} (hv : validB N xs = true) (ht1 : 1 ≤ t) (ht : t < N) : endsB N xs 0 (t : Int) = true := by
  simp only [endsB, Bool.and_eq_true, decide_eq_true_eq]
  exact ⟨hv, inB_iff.2 ⟨by omega, by omega⟩, inB_iff.2 ⟨by omega, by omega⟩, by omega⟩
theorem great_at {N t : Nat} {xs : List ArcR} (hv : validB N xs = true) (ht1 : 1 ≤ t) (ht : t < N) : greatP N xs 0 (t : Int) = greatL xs N 0 t := by
  rw [greatP_yes (ends_yes hv ht1 ht), Int.toNat_natCast, Int.toNat_natCast]; rfl
theorem flowIn_flowB {N : Nat} {xs : List ArcR} {fl : List Int} (hv : validB N xs = true) (h : FlowIn xs fl xs.length) : flowB N xs fl = true := by
  rw [flowB_yes hv h.1]
  unfold flowOkTo
  rw [List.all_eq_true]
  intro i hi
  rw [List.mem_range] at hi
  have := h.2 i hi
  exact inB_iff.2 this
theorem flowIn_at {N : Nat} {xs : List ArcR} {fl : List Int} (hv : validB N xs = true) (hN : 1 ≤ N) (h : FlowIn xs fl xs.length) : flowAB N xs fl 0 = true := by
  rw [flowAB, flowIn_flowB hv h, Bool.true_and]
  exact inB_iff.2 ⟨by omega, by omega⟩
theorem flow_is {N t : Nat} {xs : List ArcR} {fl : List Int} {a : Int} (hv : validB N xs = true) (ht1 : 1 ≤ t) (ht : t < N) (h : FlowOk xs N 0 t xs.length fl a) : isFlowB N xs fl 0 (t : Int) = true := by
  rw [isFlowB_yes (flowIn_flowB hv h.inn) (inB_iff.2 ⟨by omega, by omega⟩) (inB_iff.2 ⟨by omega, by omega⟩) (by omega), Int.toNat_natCast]
  unfold balTo
  rw [List.all_eq_true]
  intro v hv2
  rw [List.mem_range] at hv2
  simp only [Bool.or_eq_true, decide_eq_true_eq]
  by_cases h0 : v = 0
  · exact .inl (by omega)
  · by_cases h1 : v = t
    · exact .inr (.inl (by omega))
    · exact .inr (.inr (h.bal v hv2 h0 h1))
/-- what FnFlows asks -/
structure FlowsFacts (N t : Nat) (xs : List ArcR) (fl : List Int) (a : Int) (cut : List Int) (R : Nat → Bool) : Prop where
  great : greatP N xs 0 (t : Int) = (fl, a)
  ends : endsB N xs 0 (t : Int) = true
  len : fl.length = xs.length
  ge : 0 ≤ a
  amt : flowAB N xs fl 0 = true ∧ flowAV N xs fl 0 = a
  cutV : cutLV N xs fl 0 = cut
  room : cutRB N xs cut = true ∧ cutRV N xs cut = a
  isF : isFlowB N xs fl 0 (t : Int) = true
  shared : ∀ wk : Int, 1 ≤ wk → wk ≤ 8 → sharedB N xs 0 [(t : Int), (t : Int)] wk = true ∧ sharedV N xs 0 [(t : Int), (t : Int)] wk = [a, a]
  clen : cut.length ≤ N
  cin : ∀ j, j < cut.length → ∃ v : Nat, cut.getD j 0 = (v : Int) ∧ v < N ∧ R v = true
  cup : ∀ i j, i < j → j < cut.length → cut.getD i 0 < cut.getD j 0
  call : ∀ v : Nat, v < N → R v = true → (v : Int) ∈ cut
  full : ∀ i, i < xs.length → R (xs.getD i default).fr.toNat = true → R (xs.getD i default).to_.toNat = false → fl.getD i 0 = (xs.getD i default).room
  zero : ∀ i, i < xs.length → R (xs.getD i default).fr.toNat = false → R (xs.getD i default).to_.toNat = true → fl.getD i 0 = 0
  r0 : R 0 = true
  rt : R t = false
theorem flows_facts {N t : Nat} {xs : List ArcR} (hv : validB N xs = true) (ht1 : 1 ≤ t) (ht : t < N) : ∃ fl a cut R, FlowsFacts N t xs fl a cut R := by
  have hG := great_at hv ht1 ht
  have hok := great_ok hv (show 0 < N by omega) ht (show t ≠ 0 by omega)
  obtain ⟨fl, a, hfa⟩ : ∃ fl a, greatL xs N 0 t = (fl, a) := ⟨_, _, rfl⟩
  rw [hfa] at hok hG
  have hok : MaxOk xs N 0 t xs.length fl a := hok
  obtain ⟨c1, c2, c3⟩ := max_cut hv (show 0 < N by omega) hok
  have hE := ends_yes hv ht1 ht
  have hA := flowIn_at hv (by omega) hok.inn
  have hcv : cutLV N xs fl 0 = cutLTo (reachL (linksTo xs fl xs.length) N 0) N := by rw [cutLV_yes hA, Int.toNat_natCast]; rfl
  refine ⟨fl, a, cutLTo (reachL (linksTo xs fl xs.length) N 0) N, inR xs fl N 0, hG, hE, hok.inn.1, hok.ge, ⟨hA, by rw [flowAV_yes hA, hok.amt]; rfl⟩, hcv, ?_, flow_is hv ht1 ht hok.toFlowOk, ?_, cutLTo_len _ _, ?_, ?_, ?_, ?_, ?_, c1, c2⟩
  · have hB : cutRB N xs (cutLTo (reachL (linksTo xs fl xs.length) N 0) N) = true := by rw [cutRB, hv, cutL_nodes]; rfl
    refine ⟨hB, ?_⟩
    rw [cutRV_yes hB, cut_room hv _ (Nat.le_refl _), c3]
  · intro wk h1 h8
    have hB : sharedB N xs 0 [(t : Int), (t : Int)] wk = true := by
      simp only [sharedB, Bool.and_eq_true, decide_eq_true_eq]
      refine ⟨⟨hv, inB_iff.2 ⟨by omega, by omega⟩⟩, by simp, inB_iff.2 ⟨h1, h8⟩, ?_⟩
      simp [endsTo, hE]
    refine ⟨hB, ?_⟩
    rw [sharedV_yes hB]
    simp [sharedTo, hG]
  · intro j hj
    have hm : (cutLTo (reachL (linksTo xs fl xs.length) N 0) N).getD j 0 ∈ cutLTo (reachL (linksTo xs fl xs.length) N 0) N := getDL_mem hj
    obtain ⟨v, h1, h2, h3⟩ := (cutL_mem _ _ _).1 hm
    exact ⟨v, h3, h1, inR_iff.2 h2⟩
  · intro i j hij hj
    have hp : (cutLTo (reachL (linksTo xs fl xs.length) N 0) N).Pairwise (· < ·) := by
      unfold cutLTo
      rw [List.pairwise_map]
      exact (List.Pairwise.filter _ List.pairwise_lt_range).imp fun h => by omega
    simp only [List.getD, List.getElem?_eq_getElem hj, List.getElem?_eq_getElem (show i < (cutLTo (reachL (linksTo xs fl xs.length) N 0) N).length by omega), Option.getD_some]
    exact List.pairwise_iff_getElem.1 hp i j (by omega) hj hij
  · intro v hv2 hR
    exact (cutL_mem _ _ _).2 ⟨v, hv2, inR_iff.1 hR, rfl⟩
  · intro i hi h1 h2; exact inR_full hv (by omega) hok.inn hi h1 h2
  · intro i hi h1 h2; exact inR_zero hv (by omega) hok.inn hi h1 h2
/-- the flags behind the first j nodes of a list -/
def flagsT (N : Nat) (cut : List Int) (j : Nat) : List Bool := (List.range N).map fun (v : Nat) => hasB (cut.take j) (v : Int)
theorem flagsT_len (N : Nat) (cut : List Int) (j : Nat) : (flagsT N cut j).length = N := by simp [flagsT]
theorem flagsT_zero (N : Nat) (cut : List Int) : flagsT N cut 0 = List.replicate N false := by
  unfold flagsT
  apply List.ext_getElem
  · simp
  · intro i h1 h2; simp [hasB]
theorem flagsT_at {N : Nat} {cut : List Int} {j v : Nat} (hv : v < N) : (flagsT N cut j).getD v false = hasB (cut.take j) (v : Int) := by
  simp [flagsT, List.getD, List.getElem?_map, hv]
theorem flagsT_set {N : Nat} {cut : List Int} {j v : Nat} (hj : j < cut.length) (hv : cut.getD j 0 = (v : Int)) (_hN : v < N) : (flagsT N cut j).set v true = flagsT N cut (j + 1) := by
  apply List.ext_getElem
  · simp [flagsT]
  · intro i h1 h2
    have hi : i < N := by simpa [flagsT] using h2
    have e : cut.take (j + 1) = cut.take j ++ [cut.getD j 0] := by
      rw [List.take_succ_eq_append_getElem hj]; simp [List.getD, List.getElem?_eq_getElem hj]
    rw [List.getElem_set]
    simp only [flagsT, List.getElem_map, List.getElem_range, e, hv]
    by_cases h : v = i
    · subst h; rw [if_pos rfl, eq_comm, hasB_iff]; simp
    · rw [if_neg h, Bool.eq_iff_iff, hasB_iff, hasB_iff, List.mem_append, List.mem_singleton]
      constructor
      · exact .inl
      · rintro (h3 | h3)
        · exact h3
        · omega
theorem FlowsFacts.new {N t : Nat} {xs : List ArcR} {fl : List Int} {a : Int} {cut : List Int} {R : Nat → Bool} (h : FlowsFacts N t xs fl a cut R) {j : Nat} (hj : j < cut.length) : hasB (cut.take j) (cut.getD j 0) = false := by
  rw [hasB_not]
  intro hm
  obtain ⟨i, hi, e⟩ := List.mem_iff_getElem.1 hm
  rw [List.length_take] at hi
  rw [List.getElem_take] at e
  have := h.cup i j (by omega) hj
  simp only [List.getD, List.getElem?_eq_getElem hj, List.getElem?_eq_getElem (show i < cut.length by omega), Option.getD_some] at this e
  omega
theorem FlowsFacts.has {N t : Nat} {xs : List ArcR} {fl : List Int} {a : Int} {cut : List Int} {R : Nat → Bool} (h : FlowsFacts N t xs fl a cut R) {v : Nat} (hv : v < N) : hasB cut (v : Int) = R v := by
  rw [Bool.eq_iff_iff, hasB_iff]
  constructor
  · intro hm
    obtain ⟨i, hi, e⟩ := List.mem_iff_getElem.1 hm
    obtain ⟨u, h1, _, h3⟩ := h.cin i hi
    simp only [List.getD, List.getElem?_eq_getElem hi, Option.getD_some] at h1
    have : u = v := by omega
    subst this; exact h3
  · exact h.call v hv
end Go.Proofs.Yteciampnbghonaa
