/- The helpers of the laws over bytes. -/
import Derived.Test.YtigaopfhjimpmaaDoorJ3
namespace Go.Proofs.YtigaopfhjimpmaaDoor
open Go.RowKit

theorem take_both {zs ys : List Int} {j : Nat} (h1 : j < zs.length) (h2 : j < ys.length) (h : zs.take j = ys.take j) (e : zs.getD j 0 = ys.getD j 0) : zs.take (j + 1) = ys.take (j + 1) := by
  rw [List.take_succ_eq_append_getElem h1, List.take_succ_eq_append_getElem h2, h]
  simp only [List.getD, List.getElem?_eq_getElem h1, List.getElem?_eq_getElem h2, Option.getD_some] at e
  rw [e]
theorem take_differ {zs ys : List Int} {j : Nat} (h1 : j < zs.length) (h2 : j < ys.length) (e : ¬ zs.getD j 0 = ys.getD j 0) : ¬ zs = ys := fun h => e (by rw [h])

theorem b10Long_any (A B : Option Addr) (n c m d : Nat) (w : World) (hn : n ≤ maxLen) (hm : m ≤ maxLen) :
    Calls Tryd.prog 14 #[.slice A n c, .slice B m d] w fun e w' => e = .returned (.bool (decide (1048576 < n) || decide (1048576 < m))) ∧ w = w' := by
  unfold maxLen at hn hm
  by_cases h1 : 1048576 < n
  · go_enter Tryd.func14, Tryd.ntmps14
    go_wp2
    go_ret
    exact ⟨ret_bool (by simp [h1]), rfl⟩
  · by_cases h2 : 1048576 < m
    · go_enter Tryd.func14, Tryd.ntmps14
      go_wp2
      go_ret
      refine ⟨ret_bool ?_, rfl⟩
      have e1 : decide (1048576 < n) = decide ((1048576 : Int) < (n : Int)) := by rw [decide_eq_decide]; omega
      have e2 : decide (1048576 < m) = decide ((1048576 : Int) < (m : Int)) := by rw [decide_eq_decide]; omega
      rw [e1, e2]
    · go_enter Tryd.func14, Tryd.ntmps14
      go_wp2
      go_ret
      refine ⟨ret_bool ?_, rfl⟩
      have e1 : decide (1048576 < n) = decide ((1048576 : Int) < (n : Int)) := by rw [decide_eq_decide]; omega
      have e2 : decide (1048576 < m) = decide ((1048576 : Int) < (m : Int)) := by rw [decide_eq_decide]; omega
      rw [e1, e2]

theorem b10At_any (A : Option Addr) (n c : Nat) (k M : Int) (w : World) (h : BytesAt w A n) (hn : n ≤ maxLen) (hk : 0 ≤ k) (hk2 : k ≤ 1000) (hM : M ≤ 100000000) :
    Calls Tryd.prog 19 #[.slice A n c, .int .i64 k, .int .i64 M] w fun e w' => (∃ r : Nat, e = .returned (.int .i64 (r : Int)) ∧ (r : Int) < max 1 M) ∧ w = w' := by
  unfold maxLen at hn
  obtain ⟨k, rfl⟩ := Int.eq_ofNat_of_zero_le hk
  by_cases h1 : M ≤ 1
  · go_enter Tryd.func19, Tryd.ntmps19
    go_wp2
    go_ret
    exact ⟨⟨0, rfl, by omega⟩, rfl⟩
  · by_cases h2 : k < n
    · obtain ⟨ad, b, rfl, hlt2, hb, hcb⟩ := h.at_ h2
      go_enter Tryd.func19, Tryd.ntmps19
      go_wp2
      go_ret
      have h3 := Int.emod_nonneg (b : Int) (show M ≠ 0 by omega)
      have h4 := Int.emod_lt_of_pos (b : Int) (show 0 < M by omega)
      exact ⟨⟨((b : Int) % M).toNat, ret_int (by omega), by omega⟩, rfl⟩
    · go_enter Tryd.func19, Tryd.ntmps19
      go_wp2
      go_ret
      have h3 := Int.emod_nonneg ((k : Int) * 37 + 11) (show M ≠ 0 by omega)
      have h4 := Int.emod_lt_of_pos ((k : Int) * 37 + 11) (show 0 < M by omega)
      exact ⟨⟨(((k : Int) * 37 + 11) % M).toNat, ret_int (by omega), by omega⟩, rfl⟩

set_option maxHeartbeats 800000 in
theorem b10Ints_any (A B : Option Addr) (n c m d : Nat) (zs ys : List Int) (w : World) (hx : IntsAt w A n zs) (hy : IntsAt w B m ys) (hn : n ≤ maxLen) (hm : m ≤ maxLen) :
    Calls Tryd.prog 16 #[.slice A n c, .slice B m d] w fun e w' => e = .returned (.bool (decide (zs = ys))) ∧ Drew w w' := by
  unfold maxLen at hn hm
  have HL := Lib.hid hx.len
  have HM := Lib.hid hy.len
  by_cases hnm : n = m
  · subst hnm
    go_enter Tryd.func16, Tryd.ntmps16
    go_wp2
    go_loopg [5, 13] n (fun r _ iv wr => ∃ (j : Nat), r = n - j ∧ j ≤ n ∧ iv = .int .i64 (j : Int) ∧ Drew w wr ∧ Hid (zs.take j = ys.take j))
    case atStart => exact ⟨0, by omega, by omega, rfl, Drew.refl _, Lib.hid rfl⟩
    case round =>
      obtain ⟨j, hr, hj, rfl, ⟨q, rfl⟩, HT⟩ := hrel
      have HR := Lib.hid hr
      clear hr
      by_cases hlt : j < n
      · obtain ⟨ad, rfl, _, hc⟩ := hx.at_ hlt
        obtain ⟨bd, rfl, _, hc2⟩ := hy.at_ hlt
        have HS := Lib.hid (take_both (zs := zs) (ys := ys) (j := j) (by rw [HL.out]; exact hlt) (by rw [HM.out]; exact hlt) HT.out)
        have HS2 := Lib.hid (take_differ (zs := zs) (ys := ys) (j := j) (by rw [HL.out]; exact hlt) (by rw [HM.out]; exact hlt))
        generalize zs.getD j 0 = x at *
        generalize ys.getD j 0 = y at *
        by_cases hxy : x = y
        · have hb : (x != y) = false := by rw [hxy]; simp
          have HE := Lib.hid (HS.out hxy)
          clear hxy
          go_wp2_with fail
          go_quiet (fail)
          go_wp2
          go_roundg (n - (j + 1))
          case measure => rw [HR.out]; omega
          case rel => exact ⟨j + 1, rfl, by omega, by go_num, ⟨_, rfl⟩, HE⟩
        · have hb : (x != y) = true := by rw [bne_iff_ne]; exact hxy
          have HE := Lib.hid (HS2.out hxy)
          clear hxy
          go_wp2_with fail
          go_quiet (fail)
          go_wp2
          go_ret
          exact ⟨ret_bool (decide_eq_false HE.out).symm, Drew.trans ⟨q, rfl⟩ ⟨nq, rfl⟩⟩
      · obtain rfl : n = j := by omega
        go_wp2
        go_ret
        refine ⟨ret_bool ?_, ⟨_, rfl⟩⟩
        have := HT.out
        rw [List.take_of_length_le (by rw [HL.out]; exact Nat.le_refl _), List.take_of_length_le (by rw [HM.out]; exact Nat.le_refl _)] at this
        exact (decide_eq_true this).symm
  · have hb : ((n : Int) != (m : Int)) = true := by rw [bne_iff_ne]; omega
    have HE := Lib.hid (show ¬ zs = ys from fun e => hnm (by rw [← HL.out, ← HM.out, e]))
    go_enter Tryd.func16, Tryd.ntmps16
    go_wp2
    go_ret
    exact ⟨ret_bool (decide_eq_false HE.out).symm, Drew.refl _⟩

end Go.Proofs.YtigaopfhjimpmaaDoor
