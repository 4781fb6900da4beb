/- Sorting that keeps the order of equals: what a merge's search finds, in plain lists. -/
import Derived.Test.YtigaopfhjimpmaaStabP
namespace Go.Proofs.Ytigaopfhjimpmaa
open Go.RowKit

theorem sort_get {ct : Int → Int} {L : List Int} (h : SortC ct L) {i j : Nat} (hij : i ≤ j) (hj : j < L.length) : ct (L.getD i 0) ≤ ct (L.getD j 0) := by
  rcases Nat.lt_or_eq_of_le hij with e | e
  · have := List.pairwise_iff_getElem.1 h i j (by omega) hj e
    simp only [List.getD, List.getElem?_eq_getElem hj, List.getElem?_eq_getElem (show i < L.length by omega), Option.getD_some]
    exact this.le
  · subst e; exact Int.le_refl _
theorem in_take {L : List Int} {l : Nat} {y : Int} (h : y ∈ L.take l) : ∃ i, i < l ∧ i < L.length ∧ L.getD i 0 = y := by
  obtain ⟨i, hi, e⟩ := List.mem_iff_getElem.1 h
  rw [List.length_take] at hi
  rw [List.getElem_take] at e
  exact ⟨i, by omega, by omega, by simp only [List.getD, List.getElem?_eq_getElem (show i < L.length by omega), Option.getD_some]; exact e⟩
theorem in_drop {L : List Int} {l : Nat} {y : Int} (h : y ∈ L.drop l) : ∃ i, l ≤ i ∧ i < L.length ∧ L.getD i 0 = y := by
  obtain ⟨i, hi, e⟩ := List.mem_iff_getElem.1 h
  rw [List.length_drop] at hi
  rw [List.getElem_drop] at e
  exact ⟨l + i, by omega, by omega, by simp only [List.getD, List.getElem?_eq_getElem (show l + i < L.length by omega), Option.getD_some]; exact e⟩
theorem sym_cross {ct : Int → Int} {L X : List Int} (hL : SortC ct L) (hX : SortC ct X) (hlt : ∀ y ∈ L, ∀ x ∈ X, y < x) {l1 x1 : Nat} (hl1 : l1 ≤ L.length) (hx1 : x1 ≤ X.length)
    (h1 : l1 = 0 ∨ x1 = X.length ∨ ct (L.getD (l1 - 1) 0) ≤ ct (X.getD x1 0)) (h2 : x1 = 0 ∨ l1 = L.length ∨ ct (X.getD (x1 - 1) 0) < ct (L.getD l1 0)) :
    (∀ y ∈ L.take l1, ∀ x ∈ X.drop x1, LtC ct y x) ∧ ∀ x ∈ X.take x1, ∀ y ∈ L.drop l1, LtC ct x y := by
  constructor
  · intro y hy x hx
    have hyx := hlt y (List.mem_of_mem_take hy) x (List.mem_of_mem_drop hx)
    obtain ⟨i, i1, i2, e1⟩ := in_take hy
    obtain ⟨j, j1, j2, e2⟩ := in_drop hx
    rcases h1 with h | h | h
    · omega
    · omega
    · have a := sort_get hL (show i ≤ l1 - 1 by omega) (by omega)
      have b := sort_get hX (show x1 ≤ j from j1) j2
      rw [e1] at a
      rw [e2] at b
      unfold LtC; omega
  · intro x hx y hy
    obtain ⟨i, i1, i2, e1⟩ := in_take hx
    obtain ⟨j, j1, j2, e2⟩ := in_drop hy
    rcases h2 with h | h | h
    · omega
    · omega
    · have a := sort_get hX (show i ≤ x1 - 1 by omega) (by omega)
      have b := sort_get hL (show l1 ≤ j from j1) j2
      rw [e1] at a
      rw [e2] at b
      exact .inl (by omega)
/-- where a number that stood first goes -/
theorem left_done {ct : Int → Int} {x : Int} {X : List Int} (hs : SortC ct X) (hlt : ∀ y ∈ X, x < y) {p : Nat} (hp : p ≤ X.length) (h1 : p = 0 ∨ ct (X.getD (p - 1) 0) < ct x) (h2 : p = X.length ∨ ct x ≤ ct (X.getD p 0)) :
    SortC ct (X.take p ++ x :: X.drop p) ∧ (X.take p ++ x :: X.drop p).Perm ([x] ++ X) := by
  refine ⟨merge_left (by rw [List.take_append_drop]; exact hs) (by rw [List.take_append_drop]; exact hlt) (fun y hy => ?_) (fun y hy => ?_), ?_⟩
  · obtain ⟨i, i1, i2, e1⟩ := in_take hy
    rcases h1 with h | h
    · omega
    · have a := sort_get hs (show i ≤ p - 1 by omega) (by omega)
      rw [e1] at a; omega
  · obtain ⟨j, j1, j2, e2⟩ := in_drop hy
    rcases h2 with h | h
    · omega
    · have b := sort_get hs (show p ≤ j from j1) j2
      rw [e2] at b; omega
  · refine List.perm_middle.trans ?_
    rw [List.take_append_drop]
    exact List.Perm.refl _
theorem right_done {ct : Int → Int} {x : Int} {L : List Int} (hs : SortC ct L) (hlt : ∀ y ∈ L, y < x) {p : Nat} (hp : p ≤ L.length) (h1 : p = 0 ∨ ct (L.getD (p - 1) 0) ≤ ct x) (h2 : p = L.length ∨ ct x < ct (L.getD p 0)) :
    SortC ct (L.take p ++ x :: L.drop p) ∧ (L.take p ++ x :: L.drop p).Perm (L ++ [x]) := by
  refine ⟨merge_right (by rw [List.take_append_drop]; exact hs) (by rw [List.take_append_drop]; exact hlt) (fun y hy => ?_) (fun y hy => ?_), ?_⟩
  · obtain ⟨i, i1, i2, e1⟩ := in_take hy
    rcases h1 with h | h
    · omega
    · have a := sort_get hs (show i ≤ p - 1 by omega) (by omega)
      rw [e1] at a; omega
  · obtain ⟨j, j1, j2, e2⟩ := in_drop hy
    rcases h2 with h | h
    · omega
    · have b := sort_get hs (show p ≤ j from j1) j2
      rw [e2] at b; omega
  · refine List.perm_middle.trans ?_
    rw [List.take_append_drop]
    exact (List.perm_append_singleton x L).symm
theorem swap_next {A B : List Int} {x y : Int} {k : Nat} (hk : k = A.length) :
    (A ++ x :: y :: B).getD k 0 = x ∧ (A ++ x :: y :: B).getD (k + 1) 0 = y ∧ ((A ++ x :: y :: B).set k y).getD (k + 1) 0 = y ∧ ((A ++ x :: y :: B).set k y).set (k + 1) x = A ++ y :: x :: B := by
  have e : ∀ u v, A ++ u :: v :: B = (A ++ [u]) ++ v :: B := fun u v => by simp
  have l : ∀ u : Int, k + 1 = (A ++ [u]).length := fun u => by simp; omega
  refine ⟨get_mid _ _ _ hk, ?_, ?_, ?_⟩
  · rw [e, get_mid _ _ _ (l x)]
  · rw [set_mid _ _ _ _ hk, e, get_mid _ _ _ (l y)]
  · rw [set_mid _ _ _ _ hk, e, set_mid _ _ _ _ (l y)]; simp
end Go.Proofs.Ytigaopfhjimpmaa
