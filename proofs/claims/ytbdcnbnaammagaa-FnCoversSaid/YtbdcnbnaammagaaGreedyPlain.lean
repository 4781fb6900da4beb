/- Greedy cover, in plain lists. -/
import Derived.Test.YtbdcnbnaammagaaOnes
import Derived.Test.YtbdcnbnaammagaaExactPlain
import Derived.Test.YtbdcnbnaammagaaMore
namespace Go.Proofs.Ytbdcnbnaammagaa
open Go.RowKit

/-- how many of what is left the i-th set holds -/
def gCnt (ss : List Nat) (left i : Nat) : Nat := ones (ss.getD i 0 &&& left)
/-- the first set that holds the most, among the first k -/
def gBest (ss : List Nat) (left : Nat) : Nat → Nat
  | 0 => 0
  | k + 1 => if gCnt ss left (gBest ss left k) < gCnt ss left k then k else gBest ss left k
/-- what it holds; 0 where there is no set -/
def gMost (ss : List Nat) (left : Nat) : Nat → Nat
  | 0 => 0
  | k + 1 => gCnt ss left (gBest ss left (k + 1))
theorem gBest_one (ss : List Nat) (left : Nat) : gBest ss left 1 = 0 := by
  unfold gBest gBest
  rw [if_neg (Nat.lt_irrefl _)]
theorem gBest_lt (ss : List Nat) (left : Nat) : ∀ k, 1 ≤ k → gBest ss left k < k
  | 1, _ => by rw [gBest_one]; omega
  | k + 2, _ => by
    have := gBest_lt ss left (k + 1) (by omega)
    rw [gBest]
    split <;> omega
theorem gBest_yes {ss : List Nat} {left k : Nat} (h : gMost ss left k < gCnt ss left k) : gBest ss left (k + 1) = k ∧ gMost ss left (k + 1) = gCnt ss left k := by
  cases k with
  | zero => exact ⟨gBest_one ss left, by show gCnt ss left (gBest ss left 1) = _; rw [gBest_one]⟩
  | succ k =>
    have e : gBest ss left (k + 1 + 1) = k + 1 := by rw [gBest]; exact if_pos h
    exact ⟨e, by show gCnt ss left (gBest ss left (k + 1 + 1)) = _; rw [e]⟩
theorem gBest_no {ss : List Nat} {left k : Nat} (h : ¬ gMost ss left k < gCnt ss left k) : gBest ss left (k + 1) = gBest ss left k ∧ gMost ss left (k + 1) = gMost ss left k := by
  cases k with
  | zero =>
    have h0 : gCnt ss left 0 = 0 := by
      have : ¬ 0 < gCnt ss left 0 := h
      omega
    exact ⟨gBest_one ss left, by show gCnt ss left (gBest ss left 1) = 0; rw [gBest_one]; exact h0⟩
  | succ k =>
    have e : gBest ss left (k + 1 + 1) = gBest ss left (k + 1) := by rw [gBest]; exact if_neg h
    exact ⟨e, by show gCnt ss left (gBest ss left (k + 1 + 1)) = gCnt ss left (gBest ss left (k + 1)); rw [e]⟩
theorem cntN_zero : ∀ (k m : Nat), m < 2 ^ k → cntN k m = 0 → m = 0
  | 0, m, h, _ => by rw [Nat.pow_zero] at h; omega
  | k + 1, m, h, h2 => by
    rw [cntN] at h2
    rw [Nat.pow_succ] at h
    have := cntN_zero k (m / 2) (by omega) (by omega)
    omega
theorem ones_none {m : Nat} (hm : m < 65536) : ones m = 0 ↔ m = 0 := by
  constructor
  · intro h
    rw [ones_cnt 16 m hm (by omega)] at h
    exact cntN_zero 16 m hm h
  · intro h; subst h; exact ones_zero
theorem andN_lt {left s : Nat} (h1 : left < 2 ^ 64) (h2 : s < 2 ^ 64) (h : s &&& left ≠ 0) : andN left s < left := by
  have h3 := andN_le left s
  by_cases e : andN left s = left
  · exfalso
    apply h
    apply Nat.eq_of_testBit_eq
    intro i
    have hb := andN_bit left s i h1 h2
    rw [e] at hb
    rw [Nat.testBit_and, Nat.zero_testBit]
    cases hl : left.testBit i
    · simp
    · rw [hl] at hb
      cases hs : s.testBit i
      · rfl
      · rw [hs] at hb; exact absurd hb (by decide)
  · omega
/-- the greedy cover of what is left, behind the sets out (at most f sets more) -/
def gRun (ss : List Nat) (n : Nat) : Nat → Nat → List Int → List Int × Bool
  | 0, _, out => (out, true)
  | f + 1, left, out => if left = 0 then (out, true) else if ss.getD (gBest ss left n) 0 &&& left = 0 then ([], false) else gRun ss n f (andN left (ss.getD (gBest ss left n) 0)) (out ++ [(gBest ss left n : Int)])
theorem gRun_end (ss : List Nat) (n f : Nat) (out : List Int) : gRun ss n f 0 out = (out, true) := by
  cases f
  · rfl
  · rw [gRun, if_pos rfl]
theorem gRun_stuck {ss : List Nat} {n f left : Nat} {out : List Int} (h0 : left ≠ 0) (h : ss.getD (gBest ss left n) 0 &&& left = 0) : gRun ss n (f + 1) left out = ([], false) := by
  rw [gRun, if_neg h0, if_pos h]
theorem gRun_step {ss : List Nat} {n f left : Nat} {out : List Int} (h0 : left ≠ 0) (h : ss.getD (gBest ss left n) 0 &&& left ≠ 0) : gRun ss n (f + 1) left out = gRun ss n f (andN left (ss.getD (gBest ss left n) 0)) (out ++ [(gBest ss left n : Int)]) := by
  rw [gRun, if_neg h0, if_neg h]
theorem gMost_eq (ss : List Nat) (left : Nat) : ∀ k, 1 ≤ k → gMost ss left k = gCnt ss left (gBest ss left k)
  | k + 1, _ => rfl
theorem gRun_len (ss : List Nat) (n : Nat) : ∀ (f left : Nat) (out : List Int), (gRun ss n f left out).1.length ≤ f + out.length
  | 0, left, out => by simp [gRun]
  | f + 1, left, out => by
    rw [gRun]
    split
    · show out.length ≤ _; omega
    · split
      · simp
      · have := gRun_len ss n f (andN left (ss.getD (gBest ss left n) 0)) (out ++ [(gBest ss left n : Int)])
        simp only [List.length_append, List.length_singleton] at this
        omega
theorem gSpec_yes {ss : List Nat} {left k : Nat} (h : gCnt ss left (gBest ss left k) < gCnt ss left k) : gBest ss left (k + 1) = k := by rw [gBest, if_pos h]
theorem gSpec_no {ss : List Nat} {left k : Nat} (h : ¬ gCnt ss left (gBest ss left k) < gCnt ss left k) : gBest ss left (k + 1) = gBest ss left k := by rw [gBest, if_neg h]
end Go.Proofs.Ytbdcnbnaammagaa
