/- The helpers of the laws over bytes. -/
import Derived.Test.YtnjipckpkcandaaDoorAsk
namespace Go.Proofs.YtnjipckpkcandaaDoor
open Go.RowKit

theorem take_both {zs ys : List Int} {j : Nat} (h1 : j < zs.length) (h2 : j < ys.length) (h : zs.take j = ys.take j) (e : zs.getD j 0 = ys.getD j 0) : zs.take (j + 1) = ys.take (j + 1) := by
  rw [List.take_succ_eq_append_getElem h1, List.take_succ_eq_append_getElem h2, h]
  simp only [List.getD, List.getElem?_eq_getElem h1, List.getElem?_eq_getElem h2, Option.getD_some] at e
  rw [e]
theorem take_differ {zs ys : List Int} {j : Nat} (h1 : j < zs.length) (h2 : j < ys.length) (e : ¬ zs.getD j 0 = ys.getD j 0) : ¬ zs = ys := fun h => e (by rw [h])

theorem b10Long_any (A B : Option Addr) (n c m d : Nat) (w : World) (hn : n ≤ maxLen) (hm : m ≤ maxLen) :
    Calls Tryd.prog 4 #[.slice A n c, .slice B m d] w fun e w' => e = .returned (.bool (decide (1048576 < n) || decide (1048576 < m))) ∧ w = w' := by
  unfold maxLen at hn hm
  by_cases h1 : 1048576 < n
  · go_enter Tryd.func4, Tryd.ntmps4
    go_wp2
    go_ret
    exact ⟨ret_bool (by simp [h1]), rfl⟩
  · by_cases h2 : 1048576 < m
    · go_enter Tryd.func4, Tryd.ntmps4
      go_wp2
      go_ret
      refine ⟨ret_bool ?_, rfl⟩
      have e1 : decide (1048576 < n) = decide ((1048576 : Int) < (n : Int)) := by rw [decide_eq_decide]; omega
      have e2 : decide (1048576 < m) = decide ((1048576 : Int) < (m : Int)) := by rw [decide_eq_decide]; omega
      rw [e1, e2]
    · go_enter Tryd.func4, Tryd.ntmps4
      go_wp2
      go_ret
      refine ⟨ret_bool ?_, rfl⟩
      have e1 : decide (1048576 < n) = decide ((1048576 : Int) < (n : Int)) := by rw [decide_eq_decide]; omega
      have e2 : decide (1048576 < m) = decide ((1048576 : Int) < (m : Int)) := by rw [decide_eq_decide]; omega
      rw [e1, e2]

theorem b10At_any (A : Option Addr) (n c : Nat) (k M : Int) (w : World) (h : BytesAt w A n) (hn : n ≤ maxLen) (hk : 0 ≤ k) (hk2 : k ≤ 1000) (hM : M ≤ 100000000) :
    Calls Tryd.prog 15 #[.slice A n c, .int .i64 k, .int .i64 M] w fun e w' => (∃ r : Nat, e = .returned (.int .i64 (r : Int)) ∧ (r : Int) < max 1 M) ∧ w = w' := by
  unfold maxLen at hn
  obtain ⟨k, rfl⟩ := Int.eq_ofNat_of_zero_le hk
  by_cases h1 : M ≤ 1
  · go_enter Tryd.func15, Tryd.ntmps15
    go_wp2
    go_ret
    exact ⟨⟨0, rfl, by omega⟩, rfl⟩
  · by_cases h2 : k < n
    · obtain ⟨ad, b, rfl, hlt2, hb, hcb⟩ := h.at_ h2
      go_enter Tryd.func15, Tryd.ntmps15
      go_wp2
      go_ret
      have h3 := Int.emod_nonneg (b : Int) (show M ≠ 0 by omega)
      have h4 := Int.emod_lt_of_pos (b : Int) (show 0 < M by omega)
      exact ⟨⟨((b : Int) % M).toNat, ret_int (by omega), by omega⟩, rfl⟩
    · go_enter Tryd.func15, Tryd.ntmps15
      go_wp2
      go_ret
      have h3 := Int.emod_nonneg ((k : Int) * 37 + 11) (show M ≠ 0 by omega)
      have h4 := Int.emod_lt_of_pos ((k : Int) * 37 + 11) (show 0 < M by omega)
      exact ⟨⟨(((k : Int) * 37 + 11) % M).toNat, ret_int (by omega), by omega⟩, rfl⟩


end Go.Proofs.YtnjipckpkcandaaDoor
