/- Joined texts: JoinF. -/
import Derived.Test.YtigaopfhjimpmaaDoorJ2
import Derived.Test.YtigaopfhjimpmaaDoorJ3
import Derived.Test.YtigaopfhjimpmaaDoorZRootTop
import Derived.Test.YtigaopfhjimpmaaDoorZNetDraw
namespace Go.Proofs.YtigaopfhjimpmaaDoor
open Go.RowKit
open DetP

theorem arcs_inJ {xs : List ArcR} {N : Nat} (hv : validB N xs = true) : ∀ i, i < xs.length → frN xs i < N ∧ toN xs i < N ∧ frN xs i ≠ toN xs i := by
  obtain ⟨_, _, _, hb⟩ := valid_bd hv
  intro i hi
  have := hb i hi
  unfold frN toN; omega
theorem seqI_next (k : Nat) : seqI 0 k ++ [(k : Int)] = seqI 0 (k + 1) := by
  unfold seqI
  rw [List.range_succ, List.map_append]
  simp
structure JoinF (N R : Nat) (xs : List ArcR) : Prop where
  maB : maB N xs = true
  mlen : (maV N xs).length = N
  pairs : ∀ v, v < N → (maV N xs).getD v 0 = -1 ∨ ∃ k : Nat, k < N ∧ k ≠ v ∧ (maV N xs).getD v 0 = (k : Int) ∧ (maV N xs).getD k 0 = (v : Int)
  arcs : ∀ i, i < xs.length → ¬ ((maV N xs).getD (frN xs i) 0 = -1 ∧ (maV N xs).getD (toN xs i) 0 = -1)
  trB : trB N xs = true
  tree : ctB N xs = decide (0 < trV N xs)
  tlen : ctB N xs = true → ((ctL N xs).length : Int) = (N : Int) - 1
  ok : ctB N xs = true → okF xs (seqI 0 N) (ctL N xs) ∧ ctC N xs = sumC xs (ctL N xs)
  root : rootB N xs R = true → ctB N xs = true ∧ ctC N xs ≤ (rootV N xs R).2
theorem join_facts {N R : Nat} {xs : List ArcR} (hv : validB N xs = true) (h2 : 2 ≤ N) (h5 : N ≤ 5) (hR : R < N) : JoinF N R xs := by
  have hin := arcs_inJ hv
  have hn : xs.length ≤ 48 := (valid_bd hv).2.2.1
  obtain ⟨m, rfl⟩ : ∃ m, N = m + 1 := ⟨N - 1, by omega⟩
  have hmaB : maB ((m + 1 : Nat) : Int) xs = true := by unfold Go.Proofs.YtigaopfhjimpmaaDoor.maB; rw [hv, decide_eq_true (by omega)]; rfl
  have hmv : maV ((m + 1 : Nat) : Int) xs = matW (adjT xs xs.length) (m + 1) (2 ^ (m + 1) - 1) (List.replicate (m + 1) (-1)) := by unfold maV; rw [if_pos hmaB, Int.toNat_natCast]
  have hp2 := Nat.two_pow_pos (m + 1)
  obtain ⟨_, f2, f3⟩ := mat_facts (J := adjT xs xs.length) (N := m + 1) (by omega) (adjT_sym xs xs.length) (2 ^ (m + 1) - 1) (2 ^ (m + 1) - 1) (List.replicate (m + 1) (-1)) (Nat.le_refl _) (by omega) (by simp)
  rw [← hmv] at f2 f3
  have hbit : ∀ v, v < m + 1 → (2 ^ (m + 1) - 1).testBit v = true := fun v hv => by rw [Nat.testBit_two_pow_sub_one, decide_eq_true hv]
  have hct := ct_trees hv hin hn (by omega)
  have htB : Go.Proofs.YtigaopfhjimpmaaDoor.trB ((m + 1 : Nat) : Int) xs = true := by unfold Go.Proofs.YtigaopfhjimpmaaDoor.trB; rw [hv, decide_eq_true (by omega)]; rfl
  have htV : trV ((m + 1 : Nat) : Int) xs = bP (lapB xs) m := by unfold trV; rw [if_pos htB, Int.toNat_natCast, Nat.add_sub_cancel]
  obtain ⟨o1, o2⟩ := ct_okF hv
  refine ⟨hmaB, by have := (maV_length hmaB).1; rw [Int.toNat_natCast] at this; exact this, fun v hv => ?_, fun i hi ⟨e1, e2⟩ => ?_, htB, by rw [htV]; exact hct, fun hc => ?_, fun hc => ?_, fun hr => ?_⟩
  · rcases f2 v hv (hbit v hv) with h | ⟨k, k1, _, k3, k4, k5⟩
    · exact .inl h
    · exact .inr ⟨k, k1, k3, k4, k5⟩
  · obtain ⟨a, b, c⟩ := hin i hi
    exact f3 _ _ a b (hbit _ a) (hbit _ b) c (adjT_arc hi) ⟨e1, e2⟩
  · unfold ctL
    rw [if_pos hc, Int.toNat_natCast]
    unfold ctB at hc
    rw [Bool.and_eq_true, decide_eq_true_eq, Int.toNat_natCast] at hc
    exact hc.2
  · unfold ctL ctC
    rw [if_pos hc, if_pos hc, Int.toNat_natCast]
    exact ⟨o1, o2⟩
  · have hok : okR ((m + 1 : Nat) : Int) xs (R : Int) = true := by
      cases h : okR ((m + 1 : Nat) : Int) xs (R : Int)
      · rw [(rootV_no h).2] at hr; cases hr
      · rfl
    have hrv : rootV ((m + 1 : Nat) : Int) xs (R : Int) = rtF xs (m + 1) R (m + 1) [] ([], 0) := by unfold rootV; rw [if_pos hok, Int.toNat_natCast, Int.toNat_natCast]
    unfold rootB at hr
    rw [decide_eq_true_eq] at hr
    obtain ⟨q1, q2⟩ := rooted_of hR hrv hr
    obtain ⟨b1, b2⟩ := rooted_best (fun j hj => ⟨(hin j hj).1, (hin j hj).2.1⟩) q1
    have hcB : ctB ((m + 1 : Nat) : Int) xs = true := by
      unfold ctB
      rw [hv, Bool.true_and, Int.toNat_natCast, b1, decide_eq_true_eq]; omega
    refine ⟨hcB, ?_⟩
    unfold ctC
    rw [if_pos hcB, Int.toNat_natCast, q2]
    exact b2
theorem sumC_bd {xs : List ArcR} (hc : ∀ i : Int, 0 ≤ i → i < xs.length → -1000 ≤ coA xs i ∧ coA xs i ≤ 1000) : ∀ (L H : List Int), okF xs H L → ∀ k, k ≤ L.length → -(1000 * (k : Int)) ≤ sumC xs (L.take k) ∧ sumC xs (L.take k) ≤ 1000 * k
  | [], H, _, k, hk => by have : k = 0 := by simpa using hk
                          subst this; simp [sumC]
  | i :: L, H, h, 0, _ => by simp [sumC]
  | i :: L, H, ⟨h1, h2, _, h4⟩, k + 1, hk => by
    have ih := sumC_bd hc L _ h4 k (by simp at hk; omega)
    have := hc i h1 h2
    rw [List.take_succ_cons, sumC]; omega
theorem sumC_snoc (xs : List ArcR) : ∀ (L : List Int) (i : Int), sumC xs (L ++ [i]) = sumC xs L + coA xs i
  | [], i => by show coA xs i + 0 = 0 + coA xs i; omega
  | a :: L, i => by rw [List.cons_append, sumC, sumC, sumC_snoc xs L i]; omega
end Go.Proofs.YtigaopfhjimpmaaDoor
