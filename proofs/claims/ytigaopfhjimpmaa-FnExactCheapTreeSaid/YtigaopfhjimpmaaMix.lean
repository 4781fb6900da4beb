/- Lists of which a part has turned. -/
import Derived.Test.YtigaopfhjimpmaaMem
namespace Go.Proofs.Ytigaopfhjimpmaa
open Go.RowKit

/-- the first k of one list, then another one -/
def mix (a b : List Int) (k : Nat) : List Int := a.take k ++ b.drop k
theorem mix_len {a b : List Int} (h : a.length = b.length) (k : Nat) : (mix a b k).length = a.length := by
  simp [mix]; omega
theorem mix_lt {a b : List Int} {k j : Nat} (hj : j < k) (hk : k ≤ a.length) : (mix a b k).getD j 0 = a.getD j 0 := by
  simp only [mix, List.getD]
  rw [List.getElem?_append_left (by simp; omega), List.getElem?_take, if_pos hj]
theorem mix_ge {a b : List Int} {k j : Nat} (hj : k ≤ j) (hk : k ≤ a.length) : (mix a b k).getD j 0 = b.getD j 0 := by
  simp only [mix, List.getD]
  have : (a.take k).length = k := by simp; omega
  rw [List.getElem?_append_right (by omega), this, List.getElem?_drop]
  congr 2
  omega
theorem mix_zero (a b : List Int) : mix a b 0 = b := by simp [mix]
theorem mix_all {a b : List Int} (h : a.length = b.length) : mix a b a.length = a := by
  rw [mix, List.take_length, List.drop_of_length_le (by omega), List.append_nil]
theorem getD_ext {a b : List Int} (h : a.length = b.length) (hj : ∀ j, j < a.length → a.getD j 0 = b.getD j 0) : a = b := by
  apply List.ext_getElem?
  intro i
  by_cases hi : i < a.length
  · have := hj i hi
    rw [List.getElem?_eq_getElem hi, List.getElem?_eq_getElem (by omega)]
    simpa [List.getD, List.getElem?_eq_getElem hi, List.getElem?_eq_getElem (show i < b.length by omega)] using this
  · rw [List.getElem?_eq_none (by omega), List.getElem?_eq_none (by omega)]
theorem getD_set {a : List Int} {k j : Nat} {x : Int} (hk : k < a.length) : (a.set k x).getD j 0 = if j = k then x else a.getD j 0 := by
  simp only [List.getD, List.getElem?_set]
  by_cases h : k = j
  · subst h; simp [hk]
  · rw [if_neg h, if_neg (fun e => h e.symm)]
theorem mix_up {a b : List Int} (h : a.length = b.length) {k : Nat} (hk : k < a.length) : (mix a b k).set k (a.getD k 0) = mix a b (k + 1) := by
  apply getD_ext
  · rw [List.length_set, mix_len h, mix_len h]
  · intro j hj
    rw [List.length_set, mix_len h] at hj
    rw [getD_set (by rw [mix_len h]; exact hk)]
    by_cases hjk : j = k
    · subst hjk; rw [if_pos rfl, mix_lt (by omega) (by omega)]
    · rw [if_neg hjk]
      rcases Nat.lt_or_ge j k with h1 | h1
      · rw [mix_lt h1 (by omega), mix_lt (by omega) (by omega)]
      · rw [mix_ge h1 (by omega), mix_ge (by omega) (by omega)]
theorem mix_down {a b : List Int} (h : a.length = b.length) {k : Nat} (hk : k < a.length) : (mix a b (k + 1)).set k (b.getD k 0) = mix a b k := by
  apply getD_ext
  · rw [List.length_set, mix_len h, mix_len h]
  · intro j hj
    rw [List.length_set, mix_len h] at hj
    rw [getD_set (by rw [mix_len h]; exact hk)]
    by_cases hjk : j = k
    · subst hjk; rw [if_pos rfl, mix_ge (Nat.le_refl _) (by omega)]
    · rw [if_neg hjk]
      rcases Nat.lt_or_ge j k with h1 | h1
      · rw [mix_lt (by omega) (by omega), mix_lt h1 (by omega)]
      · rw [mix_ge (by omega) (by omega), mix_ge h1 (by omega)]
theorem mix_same {a b : List Int} (h : a.length = b.length) {k : Nat} (hk : k ≤ a.length) (hj : ∀ j, j < k → a.getD j 0 = b.getD j 0) : mix a b k = b := by
  apply getD_ext
  · rw [mix_len h]; exact h
  · intro j hjl
    rcases Nat.lt_or_ge j k with h1 | h1
    · rw [mix_lt h1 hk, hj j h1]
    · rw [mix_ge h1 hk]
theorem mix_over {a b : List Int} (h : a.length = b.length) {k : Nat} (hk : a.length ≤ k) : mix a b k = a := by
  rw [mix, List.take_of_length_le hk, List.drop_of_length_le (by omega), List.append_nil]
end Go.Proofs.Ytigaopfhjimpmaa
