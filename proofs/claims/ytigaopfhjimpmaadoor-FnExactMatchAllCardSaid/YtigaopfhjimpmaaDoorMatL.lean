/- As many pairs as can be: how long the answer is. -/
import Derived.Test.YtigaopfhjimpmaaDoorMatI
namespace Go.Proofs.YtigaopfhjimpmaaDoor
theorem mat_len (J : Nat → Nat → Bool) (N : Nat) : ∀ f S (o : List Int), (mat J N f S o).length = o.length
  | 0, _, _ => rfl
  | f + 1, S, o => by
    rw [mat]
    split
    · rfl
    · split
      · rw [mat_len J N f, List.length_set, List.length_set]
      · rw [mat_len J N f, List.length_set]
theorem maV_length {nodes : Int} {xs : List ArcR} (h : maB nodes xs = true) : (maV nodes xs).length = nodes.toNat ∧ nodes ≤ 12 := by
  unfold maV
  rw [if_pos h]
  unfold matW
  rw [mat_len, List.length_replicate]
  unfold maB at h
  rw [Bool.and_eq_true, decide_eq_true_eq] at h
  exact ⟨rfl, h.2⟩
theorem maV_len (nodes : Int) (xs : List ArcR) : (maV nodes xs).length ≤ 1048576 := by
  cases h : maB nodes xs
  · rw [maV_no h]; simp
  · obtain ⟨a, b⟩ := maV_length h
    omega
end Go.Proofs.YtigaopfhjimpmaaDoor
