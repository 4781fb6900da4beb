/- Tours made shorter by parts turned around: the contracts. -/
import Derived.Test.YtnliekbckdbaaaaSwapI
import Derived.Test.YtnliekbckdbaaaaMark
namespace Go.Proofs.Ytnliekbckdbaaaa
open Go.RowKit

def swapTV (ws ts : List Int) : List Int × Int := if tourB ws ts = true then ((swapV ws (cityN ws.length).toNat ts).1, (((swapV ws (cityN ws.length).toNat ts).2 : Nat) : Int)) else ([], 0)
theorem swapTV_no {ws ts : List Int} (h : tourB ws ts = false) : swapTV ws ts = ([], 0) := by unfold swapTV; rw [if_neg (by rw [h]; decide)]
theorem swapTV_yes {ws ts : List Int} {N : Nat} (h : tourB ws ts = true) (hN : cityN ws.length = N) : swapTV ws ts = ((swapV ws N ts).1, (((swapV ws N ts).2 : Nat) : Int)) := by unfold swapTV; rw [if_pos h, hN, Int.toNat_natCast]
theorem tour_bd {ws ts : List Int} (h : tourB ws ts = true) : ∃ N : Nat, 1 ≤ N ∧ N ≤ 10 ∧ ws.length = N * N ∧ cityN ws.length = N ∧ (∀ j, j < ws.length → 0 ≤ ws.getD j 0 ∧ ws.getD j 0 ≤ 1000) ∧ TourOk N ts := by
  unfold tourB at h
  rw [Bool.and_eq_true] at h
  obtain ⟨N, hN1, hN2, hsq, hN, hwb⟩ := cities_bd h.1
  have h2 := h.2
  rw [hN, Int.toNat_natCast] at h2
  exact ⟨N, hN1, hN2, hsq, hN, hwb, orderB_bd h2⟩
theorem swapTV_len (ws ts : List Int) : (swapTV ws ts).1.length ≤ 1048576 := by
  cases h : tourB ws ts
  · rw [swapTV_no h]; simp
  · obtain ⟨N, h1, h2, h3, h4, h5, h6⟩ := tour_bd h
    rw [swapTV_yes h h4]
    show (swapF ws N _ ts).1.length ≤ _
    rw [swapF_len, h6.1]; omega
theorem ret_LIBsw {A : Option Addr} {n c : Nat} {i j : Int} {a b : Bool} (h1 : i = j) (h2 : a = b) : Ending.returned (.tuple #[.slice A n c, .int .i64 i, .bool a]) = .returned (.tuple #[.slice A n c, .int .i64 j, .bool b]) := by rw [h1, h2]

set_option maxRecDepth 100000 in
set_option maxHeartbeats 800000 in
theorem implSwapTour_r (A : Option Addr) (n c : Nat) (ws : List Int) (B : Option Addr) (m d : Nat) (ts : List Int) (w : World) (h : IntsAt w A n ws) (hl : n ≤ 1048576) (_ : n ≤ c ∧ c ≤ maxLen) (hy : IntsAt w B m ts) (hl2 : m ≤ 1048576) (hcc : m ≤ d ∧ d ≤ maxLen) :
    Calls Try.prog 23 #[.slice A n c, .slice B m d] w (RetLIB 2 (swapTV ws ts).1 (swapTV ws ts).2 (tourB ws ts) w) := by
  have HL := Lib.hid h.len
  have HCC := Lib.hid hcc
  clear hcc
  cases hc : tourB ws ts
  · have HV := Lib.hid (swapTV_no hc)
    go_enter Try.func23, Try.ntmps23
    go_wp2_with fail
    refine (isTour_any A n c ws B m d ts _ h hl hy hl2 HCC.out.1 HCC.out.2).mono ?_
    rw [hc]
    rintro e w1 ⟨rfl, hb⟩
    go_wp2_with fail
    go_ret3
    exact ⟨none, 0, 0, ret_LIBsw (by rw [HV.out]) rfl, by rw [HV.out]; exact OwnI.nil_ _ _ _, hb⟩
  · obtain ⟨N, h1, h2, h3, h4, h5, h6⟩ := tour_bd hc
    have HV := Lib.hid (swapTV_yes hc h4)
    have HN := Lib.hid (show n = N * N by rw [← HL.out]; exact h3)
    have HW := Lib.hid (show ∀ j, j < n → 0 ≤ ws.getD j 0 ∧ ws.getD j 0 ≤ 1000 from fun j hj => h5 j (by rw [HL.out]; exact hj))
    have HT := Lib.hid h6
    have hm2 := hy.len
    rw [h6.1] at hm2
    subst hm2
    clear h3 h4 h5 h6
    go_enter Try.func23, Try.ntmps23
    go_wp2_with fail
    refine (isTour_any A n c ws B N d ts _ h hl hy hl2 HCC.out.1 HCC.out.2).mono ?_
    rw [hc]
    rintro e w1 ⟨rfl, hb⟩
    clear hc
    go_wp2_with fail
    refine (shortened_any A n c ws B N d ts _ (h.below hb) (hy.below hb) HN.out h1 h2 HW.out HT.out).mono ?_
    rintro e w2 ⟨P, cp, rfl, o2, b2⟩
    go_wp2_with fail
    go_ret3
    exact ⟨P, N, cp, ret_LIBsw (by rw [HV.out]) rfl, by rw [HV.out]; exact OwnI.low o2 hb.size, below_ext hb hb.size b2⟩

set_option maxRecDepth 100000 in
set_option maxHeartbeats 800000 in
theorem specSwapTour_r (A : Option Addr) (n c : Nat) (ws : List Int) (B : Option Addr) (m d : Nat) (ts : List Int) (w : World) (h : IntsAt w A n ws) (hl : n ≤ 1048576) (_ : n ≤ c ∧ c ≤ maxLen) (hy : IntsAt w B m ts) (hl2 : m ≤ 1048576) (_ : m ≤ d ∧ d ≤ maxLen) :
    Calls Try.prog 22 #[.slice A n c, .slice B m d] w (RetLIB 2 (swapTV ws ts).1 (swapTV ws ts).2 (tourB ws ts) w) := by
  have HL := Lib.hid h.len
  cases hc : tourB ws ts
  · have HV := Lib.hid (swapTV_no hc)
    go_enter Try.func22, Try.ntmps22
    go_wp2_with fail
    refine (l04Valid_any A n c ws B m d ts _ h hl hy hl2).mono ?_
    rw [hc]
    rintro e w1 ⟨rfl, hb⟩
    go_wp2_with fail
    go_ret3
    exact ⟨none, 0, 0, ret_LIBsw (by rw [HV.out]) rfl, by rw [HV.out]; exact OwnI.nil_ _ _ _, hb⟩
  · obtain ⟨N, h1, h2, h3, h4, h5, h6⟩ := tour_bd hc
    have HV := Lib.hid (swapTV_yes hc h4)
    have HN := Lib.hid (show n = N * N by rw [← HL.out]; exact h3)
    have HW := Lib.hid (show ∀ j, j < n → 0 ≤ ws.getD j 0 ∧ ws.getD j 0 ≤ 1000 from fun j hj => h5 j (by rw [HL.out]; exact hj))
    have HT := Lib.hid h6
    have hm2 := hy.len
    rw [h6.1] at hm2
    subst hm2
    clear h3 h4 h5 h6
    go_enter Try.func22, Try.ntmps22
    go_wp2_with fail
    refine (l04Valid_any A n c ws B N d ts _ h hl hy hl2).mono ?_
    rw [hc]
    rintro e w1 ⟨rfl, hb⟩
    clear hc
    go_wp2_with fail
    refine (l04Swap_any A n c ws B N d ts _ (h.below hb) (hy.below hb) HN.out h1 h2 HW.out HT.out).mono ?_
    rintro e w2 ⟨P, cp, rfl, o2, b2⟩
    go_wp2_with fail
    go_ret3
    exact ⟨P, N, cp, ret_LIBsw (by rw [HV.out]) rfl, by rw [HV.out]; exact OwnI.low o2 hb.size, below_ext hb hb.size b2⟩
end Go.Proofs.Ytnliekbckdbaaaa
