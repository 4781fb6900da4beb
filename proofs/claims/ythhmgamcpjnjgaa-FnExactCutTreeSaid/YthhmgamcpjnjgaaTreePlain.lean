/- Trees of least cuts, in plain lists. -/
import Derived.Test.YthhmgamcpjnjgaaGreat2
namespace Go.Proofs.Ythhmgamcpjnjgaa
open Go.RowKit

def revA (a : ArcR) : ArcR := ⟨a.to_, a.fr, a.room, a.cost⟩
/-- each arc both ways -/
def bothL (xs : List ArcR) : List ArcR := xs.flatMap fun a => [a, revA a]
theorem bothL_len (xs : List ArcR) : (bothL xs).length = 2 * xs.length := by
  induction xs with
  | nil => rfl
  | cons x xs ih => simp only [bothL, List.flatMap_cons, List.length_append, List.length_cons, List.length_nil] at *; omega
theorem bothL_take {xs : List ArcR} {n k : Nat} (hl : xs.length = n) (hk : k < n) : bothL (xs.take (k + 1)) = bothL (xs.take k) ++ [xs.getD k default, revA (xs.getD k default)] := by
  have e : xs.getD k default = xs[k]'(by omega) := by simp [List.getD, List.getElem?_eq_getElem (show k < xs.length by omega)]
  rw [e, List.take_succ_eq_append_getElem (by omega)]
  unfold bothL
  rw [List.flatMap_append]
  rfl
theorem both_valid {nodes : Int} {xs : List ArcR} (h : validB nodes xs = true) (hl : xs.length ≤ 24) : validB nodes (bothL xs) = true := by
  unfold validB at h ⊢
  simp only [Bool.and_eq_true, decide_eq_true_eq, List.all_eq_true] at h ⊢
  obtain ⟨h1, _, h3⟩ := h
  refine ⟨h1, by rw [bothL_len]; omega, fun a ha => ?_⟩
  simp only [bothL, List.mem_flatMap, List.mem_cons, List.not_mem_nil, or_false] at ha
  obtain ⟨x, hx, rfl | rfl⟩ := ha
  · exact h3 _ hx
  · have := h3 x hx
    simp only [arcOkB, revA, Bool.and_eq_true, decide_eq_true_eq] at this ⊢
    exact ⟨this.2.1, this.1, decide_eq_true fun e => this.2.2.1 e.symm, this.2.2.2⟩
/-- the parents behind the first j of the nodes behind i -/
def parTo (par by_ : List Int) (i : Nat) (p : Int) : Nat → List Int
  | 0 => par
  | j + 1 => if (parTo par by_ i p j).getD (i + 1 + j) 0 = p ∧ by_.getD (i + 1 + j) 0 ≠ -2 then (parTo par by_ i p j).set (i + 1 + j) i else parTo par by_ i p j
def treeBy (xs2 : List ArcR) (N i : Nat) (p : Int) : List Int := reachL (linksTo xs2 (greatL xs2 N i p.toNat).1 xs2.length) N i
/-- parents and weights behind the first i nodes -/
def treeTo (xs2 : List ArcR) (N : Nat) : Nat → List Int × List Int
  | 0 => (List.replicate N 0, List.replicate N 0)
  | i + 1 => (parTo (treeTo xs2 N i).1 (treeBy xs2 N (i + 1) ((treeTo xs2 N i).1.getD (i + 1) 0)) (i + 1) ((treeTo xs2 N i).1.getD (i + 1) 0) (N - 1 - (i + 1)), (treeTo xs2 N i).2.set (i + 1) (greatL xs2 N (i + 1) ((treeTo xs2 N i).1.getD (i + 1) 0).toNat).2)
theorem getD_setT (zs : List Int) (i j : Nat) (x : Int) (h : i < zs.length) : (zs.set i x).getD j 0 = if i = j then x else zs.getD j 0 := by
  simp only [List.getD, List.getElem?_set]
  by_cases e : i = j
  · subst e; simp [h]
  · simp [e]
/-- parents come earlier -/
def ParOk (N : Nat) (par : List Int) : Prop := par.length = N ∧ ∀ k, 1 ≤ k → k < N → 0 ≤ par.getD k 0 ∧ par.getD k 0 < k
theorem parTo_ok {N : Nat} {par by_ : List Int} {i : Nat} {p : Int} (h : ParOk N par) : ∀ j, i + 1 + j ≤ N → ParOk N (parTo par by_ i p j) ∧ ∀ k, k ≤ i → (parTo par by_ i p j).getD k 0 = par.getD k 0
  | 0, _ => ⟨h, fun _ _ => rfl⟩
  | j + 1, hj => by
    obtain ⟨ih, ih2⟩ := parTo_ok (by_ := by_) (i := i) (p := p) h j (by omega)
    rw [parTo]
    split
    · refine ⟨⟨by rw [List.length_set]; exact ih.1, fun k h1 h2 => ?_⟩, fun k hk => ?_⟩
      · rw [getD_setT _ _ k _ (by rw [ih.1]; omega)]
        split
        · omega
        · exact ih.2 k h1 h2
      · rw [getD_setT _ _ k _ (by rw [ih.1]; omega), if_neg (by omega)]
        exact ih2 k hk
    · exact ⟨ih, ih2⟩
theorem treeTo_ok {xs2 : List ArcR} {N : Nat} : ∀ i, i + 1 ≤ N → ParOk N (treeTo xs2 N i).1 ∧ (treeTo xs2 N i).2.length = N
  | 0, _ => by
    refine ⟨⟨by simp [treeTo], fun k h1 h2 => ?_⟩, by simp [treeTo]⟩
    have : (List.replicate N (0 : Int)).getD k 0 = 0 := by simp [List.getD, h2]
    rw [treeTo, this]; omega
  | i + 1, hi => by
    obtain ⟨h1, h2⟩ := treeTo_ok (xs2 := xs2) (N := N) i (by omega)
    rw [treeTo]
    exact ⟨(parTo_ok (i := i + 1) h1 (N - 1 - (i + 1)) (by omega)).1, by rw [List.length_set]; exact h2⟩
theorem hasB_cut {by_ : List Int} {N k : Nat} (hk : k < N) : hasB (cutLTo by_ N) (k : Int) = (by_.getD k 0 != -2) := by
  rw [Bool.eq_iff_iff, hasB_iff]
  unfold cutLTo
  simp only [List.mem_map, List.mem_filter, List.mem_range]
  constructor
  · rintro ⟨v, ⟨_, h2⟩, h3⟩
    have : v = k := by omega
    subst this
    exact h2
  · intro h
    exact ⟨k, ⟨hk, h⟩, rfl⟩
def treeB (nodes : Int) (xs : List ArcR) : Bool := validB nodes xs && decide (xs.length ≤ 24)
def treeV (nodes : Int) (xs : List ArcR) : List Int × List Int := if treeB nodes xs = true then treeTo (bothL xs) nodes.toNat (nodes.toNat - 1) else ([], [])
theorem treeV_no {nodes : Int} {xs : List ArcR} (h : treeB nodes xs = false) : treeV nodes xs = ([], []) := by unfold treeV; rw [if_neg (by rw [h]; decide)]
theorem treeV_yes {nodes : Int} {xs : List ArcR} (h : treeB nodes xs = true) : treeV nodes xs = treeTo (bothL xs) nodes.toNat (nodes.toNat - 1) := by unfold treeV; rw [if_pos h]
theorem treeV_len (nodes : Int) (xs : List ArcR) : (treeV nodes xs).1.length ≤ 1048576 ∧ (treeV nodes xs).2.length ≤ 1048576 := by
  cases h : treeB nodes xs
  · rw [treeV_no h]; simp
  · rw [treeV_yes h]
    unfold treeB at h
    rw [Bool.and_eq_true] at h
    obtain ⟨v0, v1, _⟩ := valid_bd h.1
    obtain ⟨h1, h2⟩ := treeTo_ok (xs2 := bothL xs) (N := nodes.toNat) (nodes.toNat - 1) (by omega)
    rw [h1.1, h2]; omega
end Go.Proofs.Ythhmgamcpjnjgaa
