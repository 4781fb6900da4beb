/- The walks of sizes and sets. -/
import Derived.Test.YtbdcnbnaammagaaLaw
namespace Go.Proofs.Ytbdcnbnaammagaa
open Go.RowKit

/-- what valid sizes are -/
def sizesB (zs : List Int) : Bool := (decide (1 ≤ zs.length) && decide (zs.length ≤ 16)) && zs.all fun n => inB n 1 1000

theorem all_step {p : Int → Bool} {zs : List Int} {n k : Nat} {x : Int} (hl : zs.length = n) (hk : k < n) (hx : zs.getD k 0 = x) (hall : (zs.take k).all p = true) (hp : p x = true) : (zs.take (k+1)).all p = true := by
  rw [all_take_succ p zs k 0 (by omega), hall, hx, hp]; rfl
theorem all_stop {p : Int → Bool} {zs : List Int} {n k : Nat} {x : Int} (hl : zs.length = n) (hk : k < n) (hx : zs.getD k 0 = x) (hp : p x = false) : zs.all p = false :=
  all_false_of p zs k 0 (by omega) (by rw [hx, hp])
theorem all_done {p : Int → Bool} {zs : List Int} {n k : Nat} (hl : zs.length = n) (hk : ¬ k < n) (hall : (zs.take k).all p = true) : zs.all p = true := by
  rwa [List.take_of_length_le (by omega)] at hall



theorem sizesB_bd {zs : List Int} (h : sizesB zs = true) : 1 ≤ zs.length ∧ zs.length ≤ 16 ∧ ∀ k, k < zs.length → 1 ≤ zs.getD k 0 ∧ zs.getD k 0 ≤ 1000 := by
  simp only [sizesB, Bool.and_eq_true, decide_eq_true_eq, List.all_eq_true] at h
  obtain ⟨⟨h1, h2⟩, h3⟩ := h
  refine ⟨h1, h2, fun k hk => ?_⟩
  have := h3 (zs.getD k 0) (by simp [List.getD, List.getElem?_eq_getElem hk])
  exact inB_iff.1 this



end Go.Proofs.Ytbdcnbnaammagaa
