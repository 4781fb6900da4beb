/- Sorting that keeps the order of equals: what exchanges, rotations and merges do, in plain lists. -/
import Derived.Test.YtigaopfhjimpmaaSortPlain
namespace Go.Proofs.Ytigaopfhjimpmaa
open Go.RowKit

theorem get_mid (A B : List Int) (x : Int) {k : Nat} (hk : k = A.length) : (A ++ x :: B).getD k 0 = x := by
  subst hk
  simp [List.getD]
theorem set_mid (A B : List Int) (x y : Int) {k : Nat} (hk : k = A.length) : (A ++ x :: B).set k y = A ++ y :: B := by
  subst hk
  induction A with
  | nil => rfl
  | cons a A ih => simp
theorem drop_at {U : List Int} {i : Nat} (h : i < U.length) : U.drop i = U.getD i 0 :: U.drop (i + 1) := by
  rw [List.drop_eq_getElem_cons h]
  simp [List.getD, h]
theorem take_at {U : List Int} {i : Nat} (h : i < U.length) : U.take (i + 1) = U.take i ++ [U.getD i 0] := by
  rw [List.take_succ_eq_append_getElem h]
  simp [List.getD, h]
/-- behind i exchanges of two parts -/
def swpA (P U M V S : List Int) (i : Nat) : List Int := P ++ (V.take i ++ (U.drop i ++ (M ++ (U.take i ++ (V.drop i ++ S)))))
theorem swpA_zero (P U M V S : List Int) : swpA P U M V S 0 = P ++ (U ++ (M ++ (V ++ S))) := by simp [swpA]
theorem swpA_all (P U M V S : List Int) {n : Nat} (hu : U.length = n) (hv : V.length = n) : swpA P U M V S n = P ++ (V ++ (M ++ (U ++ S))) := by
  unfold swpA
  rw [List.take_of_length_le (by omega), List.take_of_length_le (by omega), List.drop_eq_nil_of_le (by omega), List.drop_eq_nil_of_le (by omega)]; simp
theorem swpA_len (P U M V S : List Int) {n : Nat} (hu : U.length = n) (hv : V.length = n) (i : Nat) : (swpA P U M V S i).length = (P ++ (U ++ (M ++ (V ++ S)))).length := by
  unfold swpA
  simp only [List.length_append, List.length_take, List.length_drop]; omega
theorem swpA_step {P U M V S : List Int} {n i a b : Nat} (hu : U.length = n) (hv : V.length = n) (hi : i < n) (ha : a = P.length) (hb : b = P.length + n + M.length) :
    (swpA P U M V S i).getD (a + i) 0 = U.getD i 0 ∧ (swpA P U M V S i).getD (b + i) 0 = V.getD i 0 ∧ ((swpA P U M V S i).set (a + i) (V.getD i 0)).set (b + i) (U.getD i 0) = swpA P U M V S (i + 1) := by
  have e1 : swpA P U M V S i = (P ++ V.take i) ++ U.getD i 0 :: (U.drop (i + 1) ++ (M ++ (U.take i ++ (V.getD i 0 :: (V.drop (i + 1) ++ S))))) := by
    unfold swpA
    rw [drop_at (U := U) (by omega), drop_at (U := V) (by omega)]
    simp
  have e2 : ∀ z, (P ++ V.take i) ++ z :: (U.drop (i + 1) ++ (M ++ (U.take i ++ (V.getD i 0 :: (V.drop (i + 1) ++ S))))) = (P ++ V.take i ++ z :: (U.drop (i + 1) ++ (M ++ U.take i))) ++ V.getD i 0 :: (V.drop (i + 1) ++ S) := fun z => by simp
  have l1 : a + i = (P ++ V.take i).length := by rw [List.length_append, List.length_take]; omega
  have l2 : ∀ z, b + i = (P ++ V.take i ++ z :: (U.drop (i + 1) ++ (M ++ U.take i))).length := fun z => by
    simp only [List.length_append, List.length_cons, List.length_take, List.length_drop]; omega
  refine ⟨?_, ?_, ?_⟩
  · rw [e1, get_mid _ _ _ l1]
  · rw [e1, e2, get_mid _ _ _ (l2 _)]
  · rw [e1, set_mid _ _ _ _ l1, e2, set_mid _ _ _ _ (l2 _)]
    unfold swpA
    rw [take_at (U := U) (by omega), take_at (U := V) (by omega)]
    simp
/-- the order: by costs, then by the numbers themselves -/
def LtC (ct : Int → Int) (x y : Int) : Prop := ct x < ct y ∨ (ct x = ct y ∧ x < y)
theorem LtC.trans {ct : Int → Int} {x y z : Int} (h1 : LtC ct x y) (h2 : LtC ct y z) : LtC ct x z := by
  unfold LtC at *; omega
theorem LtC.le {ct : Int → Int} {x y : Int} (h : LtC ct x y) : ct x ≤ ct y := by unfold LtC at h; omega
abbrev SortC (ct : Int → Int) (L : List Int) : Prop := L.Pairwise (LtC ct)
theorem perm_in {L Z : List Int} (h : L.Perm Z) {P : Int → Prop} (hz : ∀ x ∈ Z, P x) : ∀ x ∈ L, P x := fun x hx => hz x (h.mem_iff.1 hx)
/-- an insertion -/
theorem ins_done {ct : Int → Int} {L1 L2 : List Int} {x : Int} (hs : SortC ct (L1 ++ L2)) (hlt : ∀ y ∈ L1, y < x) (hend : ∀ y, L1.getLast? = some y → ct y ≤ ct x) (h2 : ∀ y ∈ L2, ct x < ct y) : SortC ct (L1 ++ x :: L2) := by
  rw [SortC, List.pairwise_append] at hs
  obtain ⟨s1, s2, s3⟩ := hs
  rw [SortC, List.pairwise_append, List.pairwise_cons]
  refine ⟨s1, ⟨fun y hy => .inl (h2 y hy), s2⟩, fun y hy z hz => ?_⟩
  rcases List.mem_cons.1 hz with e | e
  · subst e
    have hle : ct y ≤ ct z := by
      rcases List.eq_nil_or_concat L1 with e0 | ⟨L', u, e0⟩
      · subst e0; cases hy
      · have e0 : L1 = L' ++ [u] := by simpa using e0
        subst e0
        have hu := hend u (by simp)
        rcases List.mem_append.1 hy with h | h
        · have := (List.pairwise_append.1 s1).2.2 y h u (by simp)
          have := this.le
          omega
        · have : y = u := by simpa using h
          subst this; exact hu
    have := hlt y hy
    unfold LtC; omega
  · exact s3 y hy z e
/-- a number goes into its place behind smaller ones: it stood first -/
theorem merge_left {ct : Int → Int} {x : Int} {X1 X2 : List Int} (hs : SortC ct (X1 ++ X2)) (hlt : ∀ y ∈ X1 ++ X2, x < y) (h1 : ∀ y ∈ X1, ct y < ct x) (h2 : ∀ y ∈ X2, ct x ≤ ct y) : SortC ct (X1 ++ x :: X2) := by
  rw [SortC, List.pairwise_append] at hs
  obtain ⟨s1, s2, s3⟩ := hs
  rw [SortC, List.pairwise_append, List.pairwise_cons]
  refine ⟨s1, ⟨fun y hy => ?_, s2⟩, fun y hy z hz => ?_⟩
  · have a := h2 y hy
    have b := hlt y (by simp [hy])
    unfold LtC; omega
  · rcases List.mem_cons.1 hz with e | e
    · subst e; exact .inl (h1 y hy)
    · exact s3 y hy z e
theorem merge_right {ct : Int → Int} {x : Int} {L1 L2 : List Int} (hs : SortC ct (L1 ++ L2)) (hlt : ∀ y ∈ L1 ++ L2, y < x) (h1 : ∀ y ∈ L1, ct y ≤ ct x) (h2 : ∀ y ∈ L2, ct x < ct y) : SortC ct (L1 ++ x :: L2) := by
  rw [SortC, List.pairwise_append] at hs
  obtain ⟨s1, s2, s3⟩ := hs
  rw [SortC, List.pairwise_append, List.pairwise_cons]
  refine ⟨s1, ⟨fun y hy => .inl (h2 y hy), s2⟩, fun y hy z hz => ?_⟩
  rcases List.mem_cons.1 hz with e | e
  · subst e
    have a := h1 y hy
    have b := hlt y (by simp [hy])
    unfold LtC; omega
  · exact s3 y hy z e
/-- two merged parts of which the first is below the second -/
theorem merge_two {ct : Int → Int} {L1 L2 X1 X2 M1 M2 : List Int} (hL : SortC ct (L1 ++ L2)) (hX : SortC ct (X1 ++ X2)) (h1 : M1.Perm (L1 ++ X1)) (h2 : M2.Perm (L2 ++ X2)) (s1 : SortC ct M1) (s2 : SortC ct M2)
    (hlx : ∀ y ∈ L1, ∀ x ∈ X2, LtC ct y x) (hxl : ∀ x ∈ X1, ∀ y ∈ L2, LtC ct x y) : SortC ct (M1 ++ M2) ∧ (M1 ++ M2).Perm ((L1 ++ L2) ++ (X1 ++ X2)) := by
  refine ⟨?_, ?_⟩
  · rw [SortC, List.pairwise_append]
    refine ⟨s1, s2, fun u hu v hv => ?_⟩
    rw [h1.mem_iff, List.mem_append] at hu
    rw [h2.mem_iff, List.mem_append] at hv
    rcases hu with hu | hu <;> rcases hv with hv | hv
    · exact (List.pairwise_append.1 hL).2.2 u hu v hv
    · exact hlx u hu v hv
    · exact hxl u hu v hv
    · exact (List.pairwise_append.1 hX).2.2 u hu v hv
  · refine (h1.append h2).trans ?_
    rw [List.append_assoc, List.append_assoc]
    refine List.Perm.append_left L1 ?_
    rw [← List.append_assoc, ← List.append_assoc]
    exact (List.perm_append_comm (l₁ := X1) (l₂ := L2)).append_right X2
end Go.Proofs.Ytigaopfhjimpmaa
