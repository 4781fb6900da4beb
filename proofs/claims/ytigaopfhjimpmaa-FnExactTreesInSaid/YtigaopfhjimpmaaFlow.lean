/- Flows of nets: whether a list is a flow, what it costs, what goes out of a node. -/
import Derived.Test.YtigaopfhjimpmaaValid2
import Derived.Test.YtigaopfhjimpmaaMore
namespace Go.Proofs.Ytigaopfhjimpmaa
open Go.RowKit

theorem arcs_cell {w : World} {ad : Addr} {n : Nat} {xs : List ArcR} (h : ArcsAt w (some ad) n xs) {k : Nat} (hk : k < n) : ArcCells w (ad.add (k * 4)) (xs.getD k default) := by
  obtain ⟨ad', e, _, hc⟩ := h.at_ hk
  injection e with e
  subst e
  exact hc

def flowOkTo (xs : List ArcR) (fl : List Int) (k : Nat) : Bool := (List.range k).all fun i => inB (fl.getD i 0) 0 (xs.getD i default).room
/-- a list is a flow of a net -/
def flowB (nodes : Int) (xs : List ArcR) (fl : List Int) : Bool := validB nodes xs && (decide (fl.length = xs.length) && flowOkTo xs fl xs.length)
theorem flowOkTo_succ (xs : List ArcR) (fl : List Int) (k : Nat) : flowOkTo xs fl (k + 1) = (flowOkTo xs fl k && inB (fl.getD k 0) 0 (xs.getD k default).room) := by
  unfold flowOkTo
  rw [List.range_succ, List.all_append]; simp
theorem flowOkTo_stop {xs : List ArcR} {fl : List Int} {k : Nat} (h : inB (fl.getD k 0) 0 (xs.getD k default).room = false) : ∀ d, flowOkTo xs fl (k + 1 + d) = false
  | 0 => by rw [Nat.add_zero, flowOkTo_succ, h, Bool.and_false]
  | d + 1 => by rw [← Nat.add_assoc, flowOkTo_succ, flowOkTo_stop h d, Bool.false_and]
theorem flowOkTo_at {xs : List ArcR} {fl : List Int} {n : Nat} (h : flowOkTo xs fl n = true) {k : Nat} (hk : k < n) : 0 ≤ fl.getD k 0 ∧ fl.getD k 0 ≤ (xs.getD k default).room := by
  unfold flowOkTo at h
  rw [List.all_eq_true] at h
  exact inB_iff.1 (h k (List.mem_range.2 hk))
theorem flowB_novalid {nodes : Int} {xs : List ArcR} {fl : List Int} (h : validB nodes xs = false) : flowB nodes xs fl = false := by simp [flowB, h]
theorem flowB_len {nodes : Int} {xs : List ArcR} {fl : List Int} (h : fl.length ≠ xs.length) : flowB nodes xs fl = false := by simp [flowB, h]
theorem flowB_yes {nodes : Int} {xs : List ArcR} {fl : List Int} (h : validB nodes xs = true) (h2 : fl.length = xs.length) : flowB nodes xs fl = flowOkTo xs fl xs.length := by simp [flowB, h, h2]

theorem valid_bd {nodes : Int} {xs : List ArcR} (h : validB nodes xs = true) : 2 ≤ nodes ∧ nodes ≤ 16 ∧ xs.length ≤ 48 ∧ ∀ k, k < xs.length → (0 ≤ (xs.getD k default).fr ∧ (xs.getD k default).fr < nodes) ∧ (0 ≤ (xs.getD k default).to_ ∧ (xs.getD k default).to_ < nodes) ∧ (xs.getD k default).fr ≠ (xs.getD k default).to_ ∧ (0 ≤ (xs.getD k default).room ∧ (xs.getD k default).room ≤ 1000000) ∧ (-1000 ≤ (xs.getD k default).cost ∧ (xs.getD k default).cost ≤ 1000) := by
  simp only [validB, Bool.and_eq_true, decide_eq_true_eq, List.all_eq_true] at h
  obtain ⟨h1, h2, h3⟩ := h
  obtain ⟨a, b⟩ := inB_iff.1 h1
  refine ⟨a, b, h2, fun k hk => ?_⟩
  have h4 := h3 (xs.getD k default) (by simp [List.getD, List.getElem?_eq_getElem hk])
  simp only [arcOkB, Bool.and_eq_true, decide_eq_true_eq, inB_iff] at h4
  obtain ⟨e1, e2, e3, e4, e5⟩ := h4
  exact ⟨⟨e1.1, by omega⟩, ⟨e2.1, by omega⟩, e3, e4, e5⟩
theorem flow_bd {nodes : Int} {xs : List ArcR} {fl : List Int} (h : flowB nodes xs fl = true) : validB nodes xs = true ∧ fl.length = xs.length ∧ ∀ k, k < xs.length → 0 ≤ fl.getD k 0 ∧ fl.getD k 0 ≤ (xs.getD k default).room ∧ fl.getD k 0 ≤ 1000000 := by
  simp only [flowB, Bool.and_eq_true, decide_eq_true_eq] at h
  obtain ⟨h1, h2, h3⟩ := h
  refine ⟨h1, h2, fun k hk => ?_⟩
  have h4 := flowOkTo_at h3 hk
  have h5 := ((valid_bd h1).2.2.2 k hk).2.2.2.1
  omega

theorem within_q (n lo hi : Int) (w : World) (m : Nat) :
    Calls Try.prog 39 #[.int .i64 n, .int .i64 lo, .int .i64 hi] (w.drewN m) fun e w'' => e = .returned (.bool (inB n lo hi)) ∧ ∃ q, w'' = w.drewN q := quiet_here (within_any n lo hi _)


end Go.Proofs.Ytigaopfhjimpmaa
