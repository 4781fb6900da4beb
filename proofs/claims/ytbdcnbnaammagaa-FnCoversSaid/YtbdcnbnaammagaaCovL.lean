/- FnCovers: the helpers' walks. -/
import Derived.Test.YtbdcnbnaammagaaCovG
import Derived.Test.YtbdcnbnaammagaaAsk
namespace Go.Proofs.Ytbdcnbnaammagaa
open Go.RowKit

theorem r8Long_any (A B : Option Addr) (n c m d : Nat) (w : World) (hn : n ≤ maxLen) (hm : m ≤ maxLen) :
    Calls Try.prog 8 #[.slice A n c, .slice B m d] w fun e w' => e = .returned (.bool (decide (48 < n) || decide (48 < m))) ∧ w = w' := by
  unfold maxLen at hn hm
  by_cases h1 : 48 < n
  · go_enter Try.func8, Try.ntmps8
    go_wp2
    go_ret
    exact ⟨ret_bool (by simp [h1]), rfl⟩
  · by_cases h2 : 48 < m
    · go_enter Try.func8, Try.ntmps8
      go_wp2
      go_ret
      refine ⟨ret_bool ?_, rfl⟩
      have e1 : decide (48 < n) = decide ((48 : Int) < (n : Int)) := by rw [decide_eq_decide]; omega
      have e2 : decide (48 < m) = decide ((48 : Int) < (m : Int)) := by rw [decide_eq_decide]; omega
      rw [e1, e2]
    · go_enter Try.func8, Try.ntmps8
      go_wp2
      go_ret
      refine ⟨ret_bool ?_, rfl⟩
      have e1 : decide (48 < n) = decide ((48 : Int) < (n : Int)) := by rw [decide_eq_decide]; omega
      have e2 : decide (48 < m) = decide ((48 : Int) < (m : Int)) := by rw [decide_eq_decide]; omega
      rw [e1, e2]

theorem r8At_any (A : Option Addr) (n c : Nat) (k M : Int) (w : World) (h : BytesAt w A n) (hn : n ≤ maxLen) (hk : 0 ≤ k) (hM : M ≤ 1000000) :
    Calls Try.prog 9 #[.slice A n c, .int .i64 k, .int .i64 M] w fun e w' => (∃ r : Nat, e = .returned (.int .i64 (r : Int)) ∧ (r : Int) < max 1 M) ∧ w = w' := by
  unfold maxLen at hn
  obtain ⟨k, rfl⟩ := Int.eq_ofNat_of_zero_le hk
  by_cases h1 : M ≤ 1
  · go_enter Try.func9, Try.ntmps9
    go_wp2
    go_ret
    exact ⟨⟨0, rfl, by omega⟩, rfl⟩
  · by_cases h2 : k < n
    · obtain ⟨ad, b, rfl, hlt2, hb, hcb⟩ := h.at_ h2
      go_enter Try.func9, Try.ntmps9
      go_wp2
      go_ret
      have h3 := Int.emod_nonneg (b : Int) (show M ≠ 0 by omega)
      have h4 := Int.emod_lt_of_pos (b : Int) (show 0 < M by omega)
      exact ⟨⟨((b : Int) % M).toNat, ret_int (by omega), by omega⟩, rfl⟩
    · go_enter Try.func9, Try.ntmps9
      go_wp2
      go_ret
      exact ⟨⟨0, rfl, by omega⟩, rfl⟩

set_option maxHeartbeats 800000 in
theorem r8Held_any (A B : Option Addr) (n c m d : Nat) (D zs : List Int) (w : World) (hD : IntsAt w A n D) (hz : IntsAt w B m zs) (hn : n ≤ 1048576) (hm : m ≤ 1048576)
    (hr : ∀ i ∈ D, 0 ≤ i ∧ i.toNat < zs.length) (hs : ∀ k, k < zs.length → 0 ≤ zs.getD k 0 ∧ zs.getD k 0 ≤ 65535) :
    Calls Try.prog 14 #[.slice A n c, .slice B m d] w fun e w' => e = .returned (.int .i64 (heldV zs D)) ∧ w = w' := by
  have HL := Lib.hid hD.len
  have HM := Lib.hid hz.len
  have HR := Lib.hid hr
  have HS := Lib.hid hs
  clear hr hs
  go_enter Try.func14, Try.ntmps14
  go_wp2
  go_loop [5, 6] (fun hv iv => ∃ (j x : Nat), j ≤ n ∧ iv = .int .i64 (j : Int) ∧ hv = .int .i64 (x : Int) ∧ x ≤ 65535 ∧ Hid (orD (natL zs) (D.take j) = x)) (fun _ iv => n - (intOf iv).toNat)
  case atStart => exact ⟨0, 0, by omega, rfl, rfl, by omega, Lib.hid rfl⟩
  case round =>
    obtain ⟨j, x, hj, rfl, rfl, hx, HX⟩ := hrel
    by_cases hlt : j < n
    · obtain ⟨ad, rfl, _, hc⟩ := hD.at_ hlt
      have hi := HR.out (D.getD j 0) (by rw [List.getD, List.getElem?_eq_getElem (by rw [HL.out]; exact hlt)]; exact List.getElem_mem _)
      have hsn := orD_snoc (natL zs) D j (by rw [HL.out]; exact hlt)
      rw [HX.out] at hsn
      generalize D.getD j 0 = i at *
      obtain ⟨i0, i1⟩ := hi
      obtain ⟨i, rfl⟩ := Int.eq_ofNat_of_zero_le i0
      rw [Int.toNat_natCast] at i1 hsn
      have him : i < m := by have := HM.out; omega
      obtain ⟨bd, rfl, _, hc2⟩ := hz.at_ him
      have hv := HS.out i i1
      have hg := natL_get (zs := zs) (k := i) i1
      rw [hg] at hsn
      generalize zs.getD i 0 = v at *
      obtain ⟨v0, v1⟩ := hv
      obtain ⟨v, rfl⟩ := Int.eq_ofNat_of_zero_le v0
      rw [Int.toNat_natCast] at hsn
      have hor := i64_or_nat x v (by omega) (by omega)
      have hle : x ||| v < 2 ^ 16 := Nat.or_lt_two_pow (by omega) (by omega)
      generalize x ||| v = y at *
      have HY := Lib.hid hsn
      clear hsn hg i1
      go_wp2
      go_round
      case rel => exact ⟨j + 1, y, by omega, by go_num, rfl, by omega, HY⟩
      case measure => simp [intOf]; omega
    · obtain rfl : j = n := by omega
      go_wp2
      go_ret
      refine ⟨ret_int ?_, rfl⟩
      rw [heldV, ← HX.out, List.take_of_length_le (by rw [HL.out]; exact Nat.le_refl _)]
end Go.Proofs.Ytbdcnbnaammagaa
