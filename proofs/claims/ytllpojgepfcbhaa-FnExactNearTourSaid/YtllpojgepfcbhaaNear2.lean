/- NearTour: the contracts. -/
import Derived.Test.YtllpojgepfcbhaaNear
namespace Go.Proofs.Ytllpojgepfcbhaa
open Go.RowKit

theorem ret_LB {A : Option Addr} {n c : Nat} {a b : Bool} (h : a = b) : Ending.returned (.tuple #[.slice A n c, .bool a]) = .returned (.tuple #[.slice A n c, .bool b]) := by rw [h]

set_option maxRecDepth 100000 in
set_option maxHeartbeats 1600000 in
theorem specNearTour_r (A : Option Addr) (n c : Nat) (ws : List Int) (f : Int) (w : World) (h : IntsAt w A n ws) (hl : n ≤ 1048576) :
    Calls Try.prog 13 #[.slice A n c, .int .i64 f] w (RetLB 2 (nearV ws f) (nearB ws f) w) := by
  have HL := Lib.hid h.len
  cases hc : citiesB ws
  · have hv := countV_no hc
    have hB : nearB ws f = false := by simp [nearB, hc]
    have HB := Lib.hid hB
    have HV := Lib.hid (nearV_no hB)
    clear hB
    go_enter Try.func13, Try.ntmps13
    go_wp2_with (go_at_call 29; refine (l04Count_any _ _ _ ws _ h hl).mono ?_; rw [hv]; rintro e w1 ⟨rfl, hd⟩)
    go_ret2
    exact ⟨none, 0, 0, ret_LB HB.out.symm, by rw [HV.out]; exact OwnI.nil_ _ _ _, hd.below⟩
  · obtain ⟨N, hN1, hN2, hsq, hN, hwb⟩ := cities_bd hc
    have hv := countV_yes hc
    rw [hN] at hv
    have hpos : ¬ (N : Int) = 0 := by omega
    rw [HL.out] at hsq hwb
    have HSQ := Lib.hid hsq
    have HW := Lib.hid hwb
    have HNB := Lib.hid (show nearB ws f = inB f 0 ((N : Int) - 1) by simp [nearB, hc, hN])
    have HNN := Lib.hid hN
    clear hsq hwb hN hc
    cases hin : inB f 0 ((N : Int) - 1)
    · have HB := Lib.hid (HNB.out.trans hin)
      have HV := Lib.hid (nearV_no HB.out)
      go_enter Try.func13, Try.ntmps13
      go_wp2_with (first | (go_at_call 29; refine (l04Count_any _ _ _ ws _ h hl).mono ?_; rw [hv]; rintro e w1 ⟨rfl, hd⟩) | (go_at_call 30; refine (l00In_any _ _ _ _).mono ?_; rw [hin]; rintro e w' ⟨rfl, rfl⟩))
      go_ret2
      exact ⟨none, 0, 0, ret_LB HB.out.symm, by rw [HV.out]; exact OwnI.nil_ _ _ _, hd.below⟩
    · have HB := Lib.hid (HNB.out.trans hin)
      have hv2 := nearV_yes HB.out
      rw [HNN.out, Int.toNat_natCast] at hv2
      have HV := Lib.hid hv2
      clear hv2
      obtain ⟨f0, f1⟩ := inB_iff.1 hin
      obtain ⟨F, rfl⟩ := Int.eq_ofNat_of_zero_le f0
      go_enter Try.func13, Try.ntmps13
      go_wp2_with (first | (go_at_call 29; refine (l04Count_any _ _ _ ws _ h hl).mono ?_; rw [hv]; rintro e w1 ⟨rfl, hd⟩) | (go_at_call 30; refine (l00In_any _ _ _ _).mono ?_; rw [hin]; rintro e w' ⟨rfl, rfl⟩))
      refine (l04Near_any _ _ _ ws N F _ (h.drewTo hd) HSQ.out hN1 hN2 (by omega) HW.out).mono ?_
      rintro e w2 ⟨A1, n1, c1, rfl, o1, bb⟩
      go_wp2_with fail
      go_ret2
      exact ⟨A1, n1, c1, ret_LB HB.out.symm, by rw [HV.out]; exact o1.low hd.below.size, below_ext hd.below hd.below.size bb⟩

set_option maxRecDepth 100000 in
set_option maxHeartbeats 1600000 in
theorem implNearTour_r (A : Option Addr) (n c : Nat) (ws : List Int) (f : Int) (w : World) (h : IntsAt w A n ws) (hl : n ≤ 1048576) :
    Calls Try.prog 14 #[.slice A n c, .int .i64 f] w (RetLB 2 (nearV ws f) (nearB ws f) w) := by
  have HL := Lib.hid h.len
  cases hc : citiesB ws
  · have hB : nearB ws f = false := by simp [nearB, hc]
    have HB := Lib.hid hB
    have HV := Lib.hid (nearV_no hB)
    clear hB
    go_enter Try.func14, Try.ntmps14
    go_wp2_with (go_at_call 32; refine (implAreCities_any _ _ _ ws _ h hl).mono ?_; rw [hc]; rintro e w1 ⟨rfl, hd⟩)
    go_ret2
    exact ⟨none, 0, 0, ret_LB HB.out.symm, by rw [HV.out]; exact OwnI.nil_ _ _ _, hd.below⟩
  · obtain ⟨N, hN1, hN2, hsq, hN, hwb⟩ := cities_bd hc
    have HNB := Lib.hid (show nearB ws f = inB f 0 ((N : Int) - 1) by simp [nearB, hc, hN])
    have HNN := Lib.hid hN
    rw [HL.out] at hsq hwb hN
    have HSQ := Lib.hid hsq
    have HW := Lib.hid hwb
    clear hsq hwb
    cases hin : inB f 0 ((N : Int) - 1)
    · have HB := Lib.hid (HNB.out.trans hin)
      have HV := Lib.hid (nearV_no HB.out)
      go_enter Try.func14, Try.ntmps14
      go_wp2_with (first | (go_at_call 32; refine (implAreCities_any _ _ _ ws _ h hl).mono ?_; rw [hc]; rintro e w1 ⟨rfl, hd⟩) | (go_at_call 34; refine (cities_any _ _ _ _ hl).mono ?_; rw [hN]; rintro e w' ⟨rfl, rfl⟩) | (go_at_call 33; refine (within_any _ _ _ _).mono ?_; rw [hin]; rintro e w' ⟨rfl, rfl⟩))
      go_ret2
      exact ⟨none, 0, 0, ret_LB HB.out.symm, by rw [HV.out]; exact OwnI.nil_ _ _ _, hd.below⟩
    · have HB := Lib.hid (HNB.out.trans hin)
      have hv2 := nearV_yes HB.out
      rw [HNN.out, Int.toNat_natCast] at hv2
      have HV := Lib.hid hv2
      clear hv2
      obtain ⟨f0, f1⟩ := inB_iff.1 hin
      obtain ⟨F, rfl⟩ := Int.eq_ofNat_of_zero_le f0
      go_enter Try.func14, Try.ntmps14
      go_wp2_with (first | (go_at_call 32; refine (implAreCities_any _ _ _ ws _ h hl).mono ?_; rw [hc]; rintro e w1 ⟨rfl, hd⟩) | (go_at_call 34; refine (cities_any _ _ _ _ hl).mono ?_; rw [hN]; rintro e w' ⟨rfl, rfl⟩) | (go_at_call 33; refine (within_any _ _ _ _).mono ?_; rw [hin]; rintro e w' ⟨rfl, rfl⟩))
      refine (nearTour_any _ _ _ ws N F _ (h.drewTo hd) HSQ.out hN1 hN2 (by omega) HW.out).mono ?_
      rintro e w2 ⟨A1, n1, c1, rfl, o1, bb⟩
      go_wp2_with fail
      go_ret2
      exact ⟨A1, n1, c1, ret_LB HB.out.symm, by rw [HV.out]; exact o1.low hd.below.size, below_ext hd.below hd.below.size bb⟩
end Go.Proofs.Ytllpojgepfcbhaa
