/- Two sides with pairs: the walks of the tests. -/
import Derived.Test.YtfoelpmglmaamaaMatch
import Derived.Test.YtfoelpmglmaamaaFlow
namespace Go.Proofs.Ytfoelpmglmaamaa
open Go.RowKit

def pairB (l r : Int) (ps : List Int) (j : Nat) : Bool := inB (ps.getD (2 * j) 0) 0 (l - 1) && inB (ps.getD (2 * j + 1) 0) 0 (r - 1)
def pairsTo (l r : Int) (ps : List Int) (k : Nat) : Bool := (List.range k).all fun j => pairB l r ps j
theorem pairsTo_succ (l r : Int) (ps : List Int) (k : Nat) : pairsTo l r ps (k + 1) = (pairsTo l r ps k && pairB l r ps k) := by
  unfold pairsTo
  rw [List.range_succ, List.all_append]; simp
theorem pairsTo_stop {l r : Int} {ps : List Int} {k : Nat} (h : pairB l r ps k = false) : ∀ d, pairsTo l r ps (k + 1 + d) = false
  | 0 => by rw [Nat.add_zero, pairsTo_succ, h, Bool.and_false]
  | d + 1 => by rw [← Nat.add_assoc, pairsTo_succ, pairsTo_stop h d, Bool.false_and]
def sidesB (l r : Int) (ps : List Int) : Bool := inB l 1 16 && (inB r 1 16 && (decide (ps.length % 2 = 0) && (decide (ps.length ≤ 96) && pairsTo l r ps (ps.length / 2))))
theorem sides_bd {l r : Int} {ps : List Int} (h : sidesB l r ps = true) : ∃ L R m : Nat, l = L ∧ r = R ∧ 1 ≤ L ∧ L ≤ 16 ∧ 1 ≤ R ∧ R ≤ 16 ∧ ps.length = 2 * m ∧ m ≤ 48 ∧ PairsOk ps m L R := by
  simp only [sidesB, Bool.and_eq_true, decide_eq_true_eq] at h
  obtain ⟨h1, h2, h3, h4, h5⟩ := h
  obtain ⟨a0, a1⟩ := inB_iff.1 h1
  obtain ⟨b0, b1⟩ := inB_iff.1 h2
  obtain ⟨L, rfl⟩ := Int.eq_ofNat_of_zero_le (show 0 ≤ l by omega)
  obtain ⟨R, rfl⟩ := Int.eq_ofNat_of_zero_le (show 0 ≤ r by omega)
  refine ⟨L, R, ps.length / 2, rfl, rfl, by omega, by omega, by omega, by omega, by omega, by omega, fun j hj => ?_⟩
  unfold pairsTo at h5
  rw [List.all_eq_true] at h5
  have h6 := h5 j (List.mem_range.2 hj)
  unfold pairB at h6
  rw [Bool.and_eq_true] at h6
  obtain ⟨c0, c1⟩ := inB_iff.1 h6.1
  obtain ⟨d0, d1⟩ := inB_iff.1 h6.2
  omega

set_option maxHeartbeats 1600000 in
theorem areSides_any (l r : Int) (A : Option Addr) (n c : Nat) (ps : List Int) (w : World) (h : IntsAt w A n ps) (hn : n ≤ 1048576) :
    Calls Try.prog 28 #[.int .i64 l, .int .i64 r, .slice A n c] w fun e w' => e = .returned (.bool (sidesB l r ps)) ∧ w = w' := by
  have HL := Lib.hid h.len
  cases h1 : inB l 1 16
  · have HS := Lib.hid (show sidesB l r ps = false by unfold sidesB; rw [h1]; rfl)
    go_enter Try.func28, Try.ntmps28
    go_wp2_with (go_at_call 24; refine (within_any _ _ _ _).mono ?_; rintro e w7 ⟨rfl, rfl⟩)
    go_ret
    exact ⟨ret_bool HS.out.symm, rfl⟩
  · cases h2 : inB r 1 16
    · have HS := Lib.hid (show sidesB l r ps = false by unfold sidesB; rw [h1, h2]; rfl)
      go_enter Try.func28, Try.ntmps28
      go_wp2_with (go_at_call 24; refine (within_any _ _ _ _).mono ?_; rintro e w7 ⟨rfl, rfl⟩)
      go_ret
      exact ⟨ret_bool HS.out.symm, rfl⟩
    · obtain ⟨l0, l1⟩ := inB_iff.1 h1
      obtain ⟨r0, r1⟩ := inB_iff.1 h2
      by_cases h3 : n % 2 = 0
      · have d3 : ((n : Int) % 2 != 0) = false := by rw [bne_eq_false_iff_eq]; omega
        by_cases h4 : n ≤ 96
        · have h4' : ¬ (n : Int) > 96 := by omega
          have HS := Lib.hid (show sidesB l r ps = pairsTo l r ps (n / 2) by unfold sidesB; rw [h1, h2, HL.out, decide_eq_true h3, decide_eq_true h4]; rfl)
          obtain ⟨m, hm⟩ : ∃ m, n = 2 * m := ⟨n / 2, by omega⟩
          have HM := Lib.hid hm
          have HS2 := Lib.hid (show sidesB l r ps = pairsTo l r ps m by rw [HS.out, hm, show 2 * m / 2 = m by omega])
          clear hm h3 HS
          go_enter Try.func28, Try.ntmps28
          go_wp2_with (go_at_call 24; refine (within_any _ _ _ _).mono ?_; rintro e w7 ⟨rfl, rfl⟩)
          go_loop [7] (fun iv => ∃ (j i : Nat), j ≤ m ∧ iv = .int .i64 i ∧ Hid (i = 2 * j ∧ pairsTo l r ps j = true)) (fun iv => n - (intOf iv).toNat)
          case atStart => exact ⟨0, 0, by omega, rfl, Lib.hid ⟨rfl, rfl⟩⟩
          case round =>
            obtain ⟨j, i, hj, rfl, HH⟩ := hrel
            have hij : i = 2 * j := HH.out.1
            have hnm : n = 2 * m := HM.out
            by_cases hlt : j < m
            · have hin : i + 1 < n := by omega
              obtain ⟨ad, hA, had, c1⟩ := h.at_ (k := i) (by omega)
              subst hA
              obtain ⟨ad2, hA2, _, c2⟩ := h.at_ (k := i + 1) hin
              injection hA2 with hA2
              subst hA2
              have c3 : w.cell? ⟨ad.block, ad.off + (i + 1), none⟩ = some (.int .i64 (ps.getD (i + 1) 0)) := c2
              have HPB := Lib.hid (show pairB l r ps j = (inB (ps.getD i 0) 0 (l - 1) && inB (ps.getD (i + 1) 0) 0 (r - 1)) by unfold pairB; rw [hij])
              have HPS := Lib.hid (show pairsTo l r ps (j + 1) = pairB l r ps j by rw [pairsTo_succ, HH.out.2, Bool.true_and])
              have HPT := Lib.hid (fun hh => pairsTo_stop (l := l) (r := r) (ps := ps) (k := j) hh (m - (j + 1)))
              rw [show j + 1 + (m - (j + 1)) = m by omega] at HPT
              have HI := Lib.hid hij
              clear c2 hij hnm HH
              generalize ps.getD i 0 = px at *
              generalize ps.getD (i + 1) 0 = py at *
              cases e1 : inB px 0 (l - 1)
              · have HE := Lib.hid (HS2.out.trans (HPT.out (by rw [HPB.out, e1]; rfl)))
                go_wp2_with (go_at_call 24; refine (within_any _ _ _ _).mono ?_; rintro e w7 ⟨rfl, rfl⟩)
                go_ret
                exact ⟨ret_bool HE.out.symm, rfl⟩
              · cases e2 : inB py 0 (r - 1)
                · have HE := Lib.hid (HS2.out.trans (HPT.out (by rw [HPB.out, e1, e2]; rfl)))
                  go_wp2_with (go_at_call 24; refine (within_any _ _ _ _).mono ?_; rintro e w7 ⟨rfl, rfl⟩)
                  go_ret
                  exact ⟨ret_bool HE.out.symm, rfl⟩
                · have HE := Lib.hid (show pairsTo l r ps (j + 1) = true by rw [HPS.out, HPB.out, e1, e2]; rfl)
                  go_wp2_with (go_at_call 24; refine (within_any _ _ _ _).mono ?_; rintro e w7 ⟨rfl, rfl⟩)
                  go_round
                  case rel => exact ⟨j + 1, i + 2, by omega, by go_num, Lib.hid ⟨by rw [HI.out]; omega, HE.out⟩⟩
                  case measure => simp [intOf]; omega
            · have e : m = j := by omega
              subst e
              have hin : ¬ (i : Int) < (n : Int) := by omega
              have HE := Lib.hid (HS2.out.trans HH.out.2)
              clear hij hnm HH
              go_wp2_with (go_at_call 24; refine (within_any _ _ _ _).mono ?_; rintro e w7 ⟨rfl, rfl⟩)
              go_ret
              exact ⟨ret_bool HE.out.symm, rfl⟩
        · have h4' : (n : Int) > 96 := by omega
          have HS := Lib.hid (show sidesB l r ps = false by unfold sidesB; rw [h1, h2, HL.out, decide_eq_false h4]; simp)
          clear h3
          go_enter Try.func28, Try.ntmps28
          go_wp2_with (go_at_call 24; refine (within_any _ _ _ _).mono ?_; rintro e w7 ⟨rfl, rfl⟩)
          go_ret
          exact ⟨ret_bool HS.out.symm, rfl⟩
      · have d3 : ((n : Int) % 2 != 0) = true := by rw [bne_iff_ne]; omega
        have HS := Lib.hid (show sidesB l r ps = false by unfold sidesB; rw [h1, h2, HL.out, decide_eq_false h3]; rfl)
        clear h3
        go_enter Try.func28, Try.ntmps28
        go_wp2_with (go_at_call 24; refine (within_any _ _ _ _).mono ?_; rintro e w7 ⟨rfl, rfl⟩)
        go_ret
        exact ⟨ret_bool HS.out.symm, rfl⟩

set_option maxHeartbeats 1600000 in
theorem l03Sides_any (l r : Int) (A : Option Addr) (n c : Nat) (ps : List Int) (w : World) (h : IntsAt w A n ps) (hn : n ≤ 1048576) :
    Calls Try.prog 32 #[.int .i64 l, .int .i64 r, .slice A n c] w fun e w' => e = .returned (.bool (sidesB l r ps)) ∧ w = w' := by
  have HL := Lib.hid h.len
  cases h1 : inB l 1 16
  · have HS := Lib.hid (show sidesB l r ps = false by unfold sidesB; rw [h1]; rfl)
    go_enter Try.func32, Try.ntmps32
    go_wp2_with (go_at_call 31; refine (l00In_any _ _ _ _).mono ?_; rintro e w7 ⟨rfl, rfl⟩)
    go_ret
    exact ⟨ret_bool HS.out.symm, rfl⟩
  · cases h2 : inB r 1 16
    · have HS := Lib.hid (show sidesB l r ps = false by unfold sidesB; rw [h1, h2]; rfl)
      go_enter Try.func32, Try.ntmps32
      go_wp2_with (go_at_call 31; refine (l00In_any _ _ _ _).mono ?_; rintro e w7 ⟨rfl, rfl⟩)
      go_ret
      exact ⟨ret_bool HS.out.symm, rfl⟩
    · obtain ⟨l0, l1⟩ := inB_iff.1 h1
      obtain ⟨r0, r1⟩ := inB_iff.1 h2
      by_cases h3 : n % 2 = 0
      · have d3 : ((n : Int) % 2 != 0) = false := by rw [bne_eq_false_iff_eq]; omega
        by_cases h4 : n ≤ 96
        · have h4' : ¬ (n : Int) > 96 := by omega
          have HS := Lib.hid (show sidesB l r ps = pairsTo l r ps (n / 2) by unfold sidesB; rw [h1, h2, HL.out, decide_eq_true h3, decide_eq_true h4]; rfl)
          obtain ⟨m, hm⟩ : ∃ m, n = 2 * m := ⟨n / 2, by omega⟩
          have HM := Lib.hid hm
          have HS2 := Lib.hid (show sidesB l r ps = pairsTo l r ps m by rw [HS.out, hm, show 2 * m / 2 = m by omega])
          clear hm h3 HS
          go_enter Try.func32, Try.ntmps32
          go_wp2_with (go_at_call 31; refine (l00In_any _ _ _ _).mono ?_; rintro e w7 ⟨rfl, rfl⟩)
          go_loop [7] (fun iv => ∃ (j i : Nat), j ≤ m ∧ iv = .int .i64 i ∧ Hid (i = 2 * j ∧ pairsTo l r ps j = true)) (fun iv => n - (intOf iv).toNat)
          case atStart => exact ⟨0, 0, by omega, rfl, Lib.hid ⟨rfl, rfl⟩⟩
          case round =>
            obtain ⟨j, i, hj, rfl, HH⟩ := hrel
            have hij : i = 2 * j := HH.out.1
            have hnm : n = 2 * m := HM.out
            by_cases hlt : j < m
            · have hin : i + 1 < n := by omega
              obtain ⟨ad, hA, had, c1⟩ := h.at_ (k := i) (by omega)
              subst hA
              obtain ⟨ad2, hA2, _, c2⟩ := h.at_ (k := i + 1) hin
              injection hA2 with hA2
              subst hA2
              have c3 : w.cell? ⟨ad.block, ad.off + (i + 1), none⟩ = some (.int .i64 (ps.getD (i + 1) 0)) := c2
              have HPB := Lib.hid (show pairB l r ps j = (inB (ps.getD i 0) 0 (l - 1) && inB (ps.getD (i + 1) 0) 0 (r - 1)) by unfold pairB; rw [hij])
              have HPS := Lib.hid (show pairsTo l r ps (j + 1) = pairB l r ps j by rw [pairsTo_succ, HH.out.2, Bool.true_and])
              have HPT := Lib.hid (fun hh => pairsTo_stop (l := l) (r := r) (ps := ps) (k := j) hh (m - (j + 1)))
              rw [show j + 1 + (m - (j + 1)) = m by omega] at HPT
              have HI := Lib.hid hij
              clear c2 hij hnm HH
              generalize ps.getD i 0 = px at *
              generalize ps.getD (i + 1) 0 = py at *
              cases e1 : inB px 0 (l - 1)
              · have HE := Lib.hid (HS2.out.trans (HPT.out (by rw [HPB.out, e1]; rfl)))
                go_wp2_with (go_at_call 31; refine (l00In_any _ _ _ _).mono ?_; rintro e w7 ⟨rfl, rfl⟩)
                go_ret
                exact ⟨ret_bool HE.out.symm, rfl⟩
              · cases e2 : inB py 0 (r - 1)
                · have HE := Lib.hid (HS2.out.trans (HPT.out (by rw [HPB.out, e1, e2]; rfl)))
                  go_wp2_with (go_at_call 31; refine (l00In_any _ _ _ _).mono ?_; rintro e w7 ⟨rfl, rfl⟩)
                  go_ret
                  exact ⟨ret_bool HE.out.symm, rfl⟩
                · have HE := Lib.hid (show pairsTo l r ps (j + 1) = true by rw [HPS.out, HPB.out, e1, e2]; rfl)
                  go_wp2_with (go_at_call 31; refine (l00In_any _ _ _ _).mono ?_; rintro e w7 ⟨rfl, rfl⟩)
                  go_round
                  case rel => exact ⟨j + 1, i + 2, by omega, by go_num, Lib.hid ⟨by rw [HI.out]; omega, HE.out⟩⟩
                  case measure => simp [intOf]; omega
            · have e : m = j := by omega
              subst e
              have hin : ¬ (i : Int) < (n : Int) := by omega
              have HE := Lib.hid (HS2.out.trans HH.out.2)
              clear hij hnm HH
              go_wp2_with (go_at_call 31; refine (l00In_any _ _ _ _).mono ?_; rintro e w7 ⟨rfl, rfl⟩)
              go_ret
              exact ⟨ret_bool HE.out.symm, rfl⟩
        · have h4' : (n : Int) > 96 := by omega
          have HS := Lib.hid (show sidesB l r ps = false by unfold sidesB; rw [h1, h2, HL.out, decide_eq_false h4]; simp)
          clear h3
          go_enter Try.func32, Try.ntmps32
          go_wp2_with (go_at_call 31; refine (l00In_any _ _ _ _).mono ?_; rintro e w7 ⟨rfl, rfl⟩)
          go_ret
          exact ⟨ret_bool HS.out.symm, rfl⟩
      · have d3 : ((n : Int) % 2 != 0) = true := by rw [bne_iff_ne]; omega
        have HS := Lib.hid (show sidesB l r ps = false by unfold sidesB; rw [h1, h2, HL.out, decide_eq_false h3]; rfl)
        clear h3
        go_enter Try.func32, Try.ntmps32
        go_wp2_with (go_at_call 31; refine (l00In_any _ _ _ _).mono ?_; rintro e w7 ⟨rfl, rfl⟩)
        go_ret
        exact ⟨ret_bool HS.out.symm, rfl⟩
end Go.Proofs.Ytfoelpmglmaamaa
