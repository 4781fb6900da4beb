/- Sorting by insertion, in plain lists. -/
import Derived.Test.YtigaopfhjimpmaaAppend
import Derived.Test.YtigaopfhjimpmaaMix
namespace Go.Proofs.Ytigaopfhjimpmaa
open Go.RowKit

def swp (zs : List Int) (k : Nat) : List Int := (zs.set (k + 1) (zs.getD k 0)).set k (zs.getD (k + 1) 0)
/-- the element of the number k moves down as long as it is less than the one before it -/
def insD (lt : Int → Int → Bool) : Nat → List Int → List Int
  | 0, zs => zs
  | k + 1, zs => if lt (zs.getD (k + 1) 0) (zs.getD k 0) = true then insD lt k (swp zs k) else zs
theorem insD_yes {lt : Int → Int → Bool} {k : Nat} {zs : List Int} (h : lt (zs.getD (k + 1) 0) (zs.getD k 0) = true) : insD lt (k + 1) zs = insD lt k (swp zs k) := by
  rw [insD, if_pos h]
theorem insD_no {lt : Int → Int → Bool} {k : Nat} {zs : List Int} (h : lt (zs.getD (k + 1) 0) (zs.getD k 0) = false) : insD lt (k + 1) zs = zs := by
  rw [insD, if_neg (by rw [h]; decide)]
theorem swp_len (zs : List Int) (k : Nat) : (swp zs k).length = zs.length := by simp [swp]
theorem insD_len (lt : Int → Int → Bool) : ∀ (k : Nat) (zs : List Int), (insD lt k zs).length = zs.length
  | 0, _ => rfl
  | k + 1, zs => by
    unfold insD
    split
    · rw [insD_len lt k, swp_len]
    · rfl
theorem getD_left {xs ys : List Int} {k : Nat} (h : k < xs.length) : (xs ++ ys).getD k 0 = xs.getD k 0 := by
  simp only [List.getD]
  rw [List.getElem?_append_left h]
theorem swp_app {xs ys : List Int} {k : Nat} (h : k + 1 < xs.length) : swp (xs ++ ys) k = swp xs k ++ ys := by
  unfold swp
  rw [getD_left (by omega), getD_left h, List.set_append_left _ _ h, List.set_append_left _ _ (by rw [List.length_set]; omega)]
theorem insD_app (lt : Int → Int → Bool) : ∀ (k : Nat) (xs ys : List Int), k < xs.length → insD lt k (xs ++ ys) = insD lt k xs ++ ys
  | 0, _, _, _ => rfl
  | k + 1, xs, ys, h => by
    unfold insD
    rw [getD_left h, getD_left (show k < xs.length by omega)]
    split
    · rw [swp_app h, insD_app lt k _ _ (by rw [swp_len]; omega)]
    · rfl
/-- the first i numbers in order -/
def ordTo (lt : Int → Int → Bool) : Nat → List Int
  | 0 => []
  | i + 1 => insD lt i (ordTo lt i ++ [(i : Int)])
theorem ordTo_len (lt : Int → Int → Bool) : ∀ i, (ordTo lt i).length = i
  | 0 => rfl
  | i + 1 => by rw [ordTo, insD_len, List.length_append, ordTo_len lt i]; rfl
/-- all entries are numbers below N -/
def RngL (zs : List Int) (N : Nat) : Prop := ∀ j, j < zs.length → ∃ x : Nat, zs.getD j 0 = (x : Int) ∧ x < N
theorem RngL.swp {zs : List Int} {N k : Nat} (h : RngL zs N) (hk : k + 1 < zs.length) : RngL (swp zs k) N := by
  intro j hj
  rw [swp_len] at hj
  unfold Go.Proofs.Ytigaopfhjimpmaa.swp
  rw [getD_set (by rw [List.length_set]; omega)]
  split
  · exact h (k + 1) hk
  · rw [getD_set hk]
    split
    · exact h k (by omega)
    · exact h j hj
theorem RngL.ins {lt : Int → Int → Bool} {N : Nat} : ∀ (k : Nat) (zs : List Int), k < zs.length → RngL zs N → RngL (insD lt k zs) N
  | 0, _, _, h => h
  | k + 1, zs, hk, h => by
    unfold insD
    split
    · exact RngL.ins k _ (by rw [swp_len]; omega) (h.swp hk)
    · exact h
theorem RngL.snoc {zs : List Int} {N i : Nat} (h : RngL zs N) (hi : i < N) : RngL (zs ++ [(i : Int)]) N := by
  intro j hj
  rw [List.length_append, List.length_singleton] at hj
  simp only [List.getD]
  by_cases e : j < zs.length
  · rw [List.getElem?_append_left e]; exact h j e
  · rw [List.getElem?_append_right (by omega), show j - zs.length = 0 by omega]
    exact ⟨i, rfl, hi⟩
theorem ordTo_rng {lt : Int → Int → Bool} {N : Nat} : ∀ i, i ≤ N → RngL (ordTo lt i) N
  | 0, _ => fun j hj => by simp [ordTo] at hj
  | i + 1, h => by
    rw [ordTo]
    exact RngL.ins i _ (by rw [List.length_append, ordTo_len]; simp) ((ordTo_rng i (by omega)).snoc (by omega))
theorem seqI_cons (k : Int) (n : Nat) : seqI k (n + 1) = k :: seqI (k + 1) n := by
  unfold seqI
  rw [List.range_succ_eq_map, List.map_cons, List.map_map]
  congr 1
  · simp
  · apply List.map_congr_left
    intro i _
    show k + ((i + 1 : Nat) : Int) = k + 1 + (i : Int)
    omega
/-- the list of the program after i rounds -/
def ordS (lt : Int → Int → Bool) (n i : Nat) : List Int := ordTo lt i ++ seqI i (n - i)
theorem ordS_step {lt : Int → Int → Bool} {n i : Nat} (h : i < n) : insD lt i (ordS lt n i) = ordS lt n (i + 1) := by
  unfold ordS
  rw [show n - i = (n - (i + 1)) + 1 by omega, seqI_cons, show ordTo lt i ++ (i : Int) :: seqI ((i : Int) + 1) (n - (i + 1)) = (ordTo lt i ++ [(i : Int)]) ++ seqI ((i : Int) + 1) (n - (i + 1)) by simp]
  rw [insD_app lt i _ _ (by rw [List.length_append, ordTo_len]; simp)]
  rfl
theorem ordS_zero (lt : Int → Int → Bool) (n : Nat) : ordS lt n 0 = seqI 0 n := rfl
theorem ordS_one {lt : Int → Int → Bool} {n : Nat} (h : 1 ≤ n) : ordS lt n 1 = seqI 0 n := by
  rw [← ordS_step (show 0 < n by omega)]; rfl
theorem ordS_all (lt : Int → Int → Bool) (n : Nat) : ordS lt n n = ordTo lt n := by
  unfold ordS; rw [Nat.sub_self]; simp [seqI]
theorem ordS_len (lt : Int → Int → Bool) {n i : Nat} (h : i ≤ n) : (ordS lt n i).length = n := by
  unfold ordS; rw [List.length_append, ordTo_len, seqI_len]; omega
theorem ordS_rng {lt : Int → Int → Bool} {n i : Nat} (h : i ≤ n) : RngL (ordS lt n i) n := by
  intro j hj
  rw [ordS_len lt h] at hj
  unfold ordS
  simp only [List.getD]
  by_cases e : j < i
  · rw [List.getElem?_append_left (by rw [ordTo_len]; exact e)]
    exact ordTo_rng i h j (by rw [ordTo_len]; exact e)
  · rw [List.getElem?_append_right (by rw [ordTo_len]; omega), ordTo_len]
    have h2 := seqI_get (i : Int) (n - i) (j - i) (by omega)
    simp only [List.getD] at h2
    exact ⟨j, by rw [h2]; omega, hj⟩
def cmpI (x y : Int) : Int := if x < y then -1 else if y < x then 1 else 0
theorem cmpI_neg (x y : Int) : decide (cmpI x y < 0) = decide (x < y) := by
  unfold cmpI
  by_cases h : x < y
  · simp [h]
  · by_cases h2 : y < x <;> simp [h, h2]
end Go.Proofs.Ytigaopfhjimpmaa
