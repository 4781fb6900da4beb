/- How long the tours from all cities are, after parts have been turned around. -/
import Derived.Test.YtnliekbckdbaaaaSwapO
import Derived.Test.YtnliekbckdbaaaaNear2
namespace Go.Proofs.Ytnliekbckdbaaaa
open Go.RowKit

theorem near_rng {ws : List Int} {N : Nat} {f : Int} (hf : 0 ≤ f ∧ f < N) : ∀ m, m + 1 ≤ N → ∀ j, j ≤ m → 0 ≤ (nearTo ws N f m).getD j 0 ∧ (nearTo ws N f m).getD j 0 < N
  | 0, hm, j, hj => by
    obtain rfl : j = 0 := by omega
    exact nearTo_bd ws N f hf 0 hm
  | m + 1, hm, j, hj => by
    by_cases e : j = m + 1
    · subst e; exact nearTo_bd ws N f hf (m + 1) hm
    · have h1 := near_rng (ws := ws) hf m (by omega) j (by omega)
      have h2 : (nearTo ws N f (m + 1)).getD j 0 = (nearTo ws N f m).getD j 0 := by
        rw [nearTo_snoc]
        simp only [List.getD]
        rw [List.getElem?_append_left (by rw [nearTo_len]; omega)]
      rw [h2]; exact h1
theorem near_ok {ws : List Int} {N F : Nat} (hF : F < N) : TourOk N (nearTo ws N (F : Int) (N - 1)) := by
  refine ⟨by rw [nearTo_len]; omega, fun j hj => ?_⟩
  obtain ⟨h1, h2⟩ := near_rng (ws := ws) (N := N) (f := (F : Int)) ⟨by omega, by omega⟩ (N - 1) (by omega) j (by omega)
  exact ⟨((nearTo ws N (F : Int) (N - 1)).getD j 0).toNat, by omega, by omega⟩

def tourOf (ws : List Int) (N f : Nat) : List Int := (swapV ws N (nearTo ws N (f : Int) (N - 1))).1
def toursTo (ws : List Int) (N k : Nat) : List Int := (List.range k).map fun f => longTo ws (tourOf ws N f) N N
theorem toursTo_succ (ws : List Int) (N k : Nat) : toursTo ws N (k + 1) = toursTo ws N k ++ [longTo ws (tourOf ws N k) N N] := by
  unfold toursTo; rw [List.range_succ, List.map_append]; rfl
theorem swapF_ok {ws : List Int} {N : Nat} (hN1 : 1 ≤ N) : ∀ (f : Nat) (ts : List Int), TourOk N ts → TourOk N (swapF ws N f ts).1
  | 0, ts, h => h
  | f + 1, ts, h => by
    unfold swapF
    split
    · exact h
    · exact swapF_ok hN1 f _ (h.turn _ (Nat.mod_lt _ hN1))
theorem tourOf_ok {ws : List Int} {N f : Nat} (hN1 : 1 ≤ N) (hf : f < N) : TourOk N (tourOf ws N f) := swapF_ok hN1 _ _ (near_ok hf)

def toursB (ws : List Int) (wk : Int) : Bool := citiesB ws && inB wk 1 8
def toursV (ws : List Int) (wk : Int) : List Int := if toursB ws wk = true then toursTo ws (cityN ws.length).toNat (cityN ws.length).toNat else []
theorem toursV_no {ws : List Int} {wk : Int} (h : toursB ws wk = false) : toursV ws wk = [] := by unfold toursV; rw [if_neg (by rw [h]; decide)]
theorem toursV_yes {ws : List Int} {wk : Int} {N : Nat} (h : toursB ws wk = true) (hN : cityN ws.length = N) : toursV ws wk = toursTo ws N N := by unfold toursV; rw [if_pos h, hN, Int.toNat_natCast]
theorem toursV_len (ws : List Int) (wk : Int) : (toursV ws wk).length ≤ 1048576 := by
  cases h : toursB ws wk
  · rw [toursV_no h]; simp
  · have h1 : citiesB ws = true := by unfold toursB at h; rw [Bool.and_eq_true] at h; exact h.1
    obtain ⟨N, _, h2, _, h4, _⟩ := cities_bd h1
    rw [toursV_yes h h4]
    simp [toursTo]; omega

theorem areWorkersT_any (wk : Int) (w : World) :
    Calls Try.prog 59 #[.int .i64 wk] w fun e w' => e = .returned (.bool (inB wk 1 8)) ∧ w = w' := by
  go_enter Try.func59, Try.ntmps59
  go_wp2_with (go_at_call 64; refine (within_any _ _ _ _).mono ?_; rintro e w' ⟨rfl, rfl⟩)
  go_ret
  exact ⟨rfl, rfl⟩

set_option maxRecDepth 100000 in
set_option maxHeartbeats 1600000 in
theorem implToursShared_r (A : Option Addr) (n c : Nat) (ws : List Int) (wk : Int) (w : World) (h : IntsAt w A n ws) (hl : n ≤ 1048576) :
    Calls Try.prog 25 #[.slice A n c, .int .i64 wk] w (RetLB 2 (toursV ws wk) (toursB ws wk) w) := by
  have HL := Lib.hid h.len
  cases hc : citiesB ws
  · have HB := Lib.hid (show toursB ws wk = false by simp [toursB, hc])
    have HV := Lib.hid (toursV_no HB.out)
    go_enter Try.func25, Try.ntmps25
    go_wp2_with fail
    refine (implAreCities_any _ _ _ ws _ h hl).mono ?_
    rw [hc]
    rintro e w1 ⟨rfl, hd⟩
    go_wp2_with fail
    go_ret2
    exact ⟨none, 0, 0, ret_LB HB.out.symm, by rw [HV.out]; exact OwnI.nil_ _ _ _, hd.below⟩
  · cases hk : inB wk 1 8
    · have HB := Lib.hid (show toursB ws wk = false by simp [toursB, hk])
      have HV := Lib.hid (toursV_no HB.out)
      go_enter Try.func25, Try.ntmps25
      go_wp2_with fail
      refine (implAreCities_any _ _ _ ws _ h hl).mono ?_
      rw [hc]
      rintro e w1 ⟨rfl, hd⟩
      go_wp2_with fail
      refine (areWorkersT_any _ _).mono ?_
      rw [hk]
      rintro e w2 ⟨rfl, rfl⟩
      go_wp2_with fail
      go_ret2
      exact ⟨none, 0, 0, ret_LB HB.out.symm, by rw [HV.out]; exact OwnI.nil_ _ _ _, hd.below⟩
    · have HB := Lib.hid (show toursB ws wk = true by simp [toursB, hc, hk])
      obtain ⟨N, hN1, hN2, h3, h4, h5⟩ := cities_bd hc
      have HV := Lib.hid (toursV_yes HB.out h4)
      have HN := Lib.hid (show n = N * N by rw [← HL.out]; exact h3)
      have HCN := Lib.hid (show cityN n = N by rw [← HL.out]; exact h4)
      have HW := Lib.hid (show ∀ j, j < n → 0 ≤ ws.getD j 0 ∧ ws.getD j 0 ≤ 1000 from fun j hj => h5 j (by rw [HL.out]; exact hj))
      clear h3 h4 h5
      go_enter Try.func25, Try.ntmps25
      go_wp2_with fail
      refine (implAreCities_any _ _ _ ws _ h hl).mono ?_
      rw [hc]
      rintro e w1 ⟨rfl, hd⟩
      have hb := hd.below
      clear hc hd
      go_wp2_with fail
      refine (areWorkersT_any _ _).mono ?_
      rw [hk]
      rintro e w2 ⟨rfl, rfl⟩
      clear hk
      go_wp2_with fail
      go_loopg [6, 7] N (fun r qv iv wr => ∃ (k : Nat) (Q : Option Addr) (qc : Nat), r = N - k ∧ k ≤ N ∧ iv = .int .i64 k ∧ qv = .slice Q k qc ∧ OwnI 2 w.heap.size wr Q k qc (toursTo ws N k) ∧ Below w.heap.size w wr)
      case atStart => exact ⟨0, none, 0, rfl, Nat.zero_le _, rfl, rfl, OwnI.nil_ _ _ _, hb⟩
      case round =>
        clear hb
        obtain ⟨k, Q, qc, hr, hk, rfl, rfl, oQ, hbw⟩ := hrel
        have HR := Lib.hid hr
        clear hr
        go_wp2_with fail
        refine (cities_any _ _ _ _ hl).mono ?_
        rw [HCN.out]
        rintro e w3 ⟨rfl, rfl⟩
        by_cases hlt : k < N
        · have HSU := Lib.hid (toursTo_succ ws N k)
          have HOK := Lib.hid (tourOf_ok (ws := ws) hN1 hlt)
          have HNO := Lib.hid (near_ok (ws := ws) hlt)
          go_wp2_with fail
          refine (nearTour_any _ _ _ ws N k _ (h.below hbw) HN.out hN1 hN2 hlt HW.out).mono ?_
          rintro e w4 ⟨X, nx, cx, rfl, oX, b4⟩
          have hnx : nx = N := by rw [← oX.len]; exact HNO.out.1
          subst hnx
          replace oQ := OwnI.below oQ b4
          replace hbw := below_ext hbw hbw.size b4
          clear b4
          go_wp2_with fail
          refine (shortened_any A n c ws X nx cx _ _ (h.below hbw) oX.ints HN.out hN1 hN2 HW.out HNO.out).mono ?_
          rintro e w5 ⟨Y, cy, rfl, oY, b5⟩
          replace oQ := OwnI.below oQ b5
          replace hbw := below_ext hbw hbw.size b5
          clear b5 oX
          go_wp2_with fail
          refine (tourLong_any A n c ws Y nx cy _ _ (h.below hbw) oY.ints HN.out hN1 hN2 HW.out HOK.out.2).mono ?_
          rintro e w6 ⟨rfl, b6⟩
          replace oQ := OwnI.below oQ b6
          replace hbw := below_ext hbw hbw.size b6
          have hsz := hbw.size
          clear b6 oY
          go_wp2_with (at_builtin; (refine wp_append_int _ _ rfl _ _ _ rfl 2 w.heap.size Try.underlying22 info64 Q k qc _ rfl oQ rfl (by omega) hsz ?_; intro g5 c5 w7 o7 u7 b7 hg7))
          go_roundg (nx - (k + 1))
          case measure => rw [HR.out]; omega
          case rel => exact ⟨k + 1, _, _, rfl, by omega, by go_num, rfl, by rw [HSU.out]; exact o7, hbw.trans b7⟩
        · have e : k = N := by omega
          subst e
          go_wp2_with fail
          go_ret2
          exact ⟨Q, k, qc, ret_LB HB.out.symm, by rw [HV.out]; exact oQ, hbw⟩

set_option maxRecDepth 100000 in
set_option maxHeartbeats 1600000 in
theorem specToursShared_r (A : Option Addr) (n c : Nat) (ws : List Int) (wk : Int) (w : World) (h : IntsAt w A n ws) (hl : n ≤ 1048576) :
    Calls Try.prog 24 #[.slice A n c, .int .i64 wk] w (RetLB 2 (toursV ws wk) (toursB ws wk) w) := by
  have HL := Lib.hid h.len
  cases hc : citiesB ws
  · have hv := countV_no hc
    have HB := Lib.hid (show toursB ws wk = false by simp [toursB, hc])
    have HV := Lib.hid (toursV_no HB.out)
    have d0 : ((0 : Int) == 0) = true := rfl
    go_enter Try.func24, Try.ntmps24
    go_wp2_with fail
    refine (l04Count_any _ _ _ ws _ h hl).mono ?_
    rw [hv]
    rintro e w1 ⟨rfl, hd⟩
    go_wp2_with fail
    go_ret2
    exact ⟨none, 0, 0, ret_LB HB.out.symm, by rw [HV.out]; exact OwnI.nil_ _ _ _, hd.below⟩
  · obtain ⟨N, hN1, hN2, h3, h4, h5⟩ := cities_bd hc
    have hv := countV_yes hc
    rw [h4] at hv
    have d0 : ((N : Int) == 0) = false := by rw [beq_eq_false_iff_ne]; omega
    have HV4 := Lib.hid (fun (hh : toursB ws wk = true) => toursV_yes hh h4)
    have HN := Lib.hid (show n = N * N by rw [← HL.out]; exact h3)
    have HW := Lib.hid (show ∀ j, j < n → 0 ≤ ws.getD j 0 ∧ ws.getD j 0 ≤ 1000 from fun j hj => h5 j (by rw [HL.out]; exact hj))
    clear h3 h4 h5
    cases hk : inB wk 1 8
    · have HB := Lib.hid (show toursB ws wk = false by simp [toursB, hk])
      have HV := Lib.hid (toursV_no HB.out)
      go_enter Try.func24, Try.ntmps24
      go_wp2_with fail
      refine (l04Count_any _ _ _ ws _ h hl).mono ?_
      rw [hv]
      rintro e w1 ⟨rfl, hd⟩
      go_wp2_with fail
      refine (l00In_any _ _ _ _).mono ?_
      rw [hk]
      rintro e w2 ⟨rfl, rfl⟩
      go_wp2_with fail
      go_ret2
      exact ⟨none, 0, 0, ret_LB HB.out.symm, by rw [HV.out]; exact OwnI.nil_ _ _ _, hd.below⟩
    · have HB := Lib.hid (show toursB ws wk = true by simp [toursB, hc, hk])
      have HV := Lib.hid (HV4.out HB.out)
      go_enter Try.func24, Try.ntmps24
      go_wp2_with fail
      refine (l04Count_any _ _ _ ws _ h hl).mono ?_
      rw [hv]
      rintro e w1 ⟨rfl, hd⟩
      have hb := hd.below
      clear hc hd hv
      go_wp2_with fail
      refine (l00In_any _ _ _ _).mono ?_
      rw [hk]
      rintro e w2 ⟨rfl, rfl⟩
      clear hk
      have he : OwnI 2 w.heap.size (w1.alloc (.cells #[] 2)) (some ⟨w1.heap.size, 0, none⟩) 0 0 (toursTo ws N 0) := World.ownsRow_lit (e := 2) (base := w.heap.size) (size := 1) w1 #[] 0 hb.size (Nat.zero_le _) rfl
      have hb3 := hb.alloc hb.size (.cells #[] 2)
      go_wp2_with fail
      generalize w1.alloc (.cells #[] 2) = w3 at *
      go_loopg [7, 8] N (fun r qv iv wr => ∃ (k : Nat) (Q : Option Addr) (qc : Nat), r = N - k ∧ k ≤ N ∧ iv = .int .i64 k ∧ qv = .slice Q k qc ∧ OwnI 2 w.heap.size wr Q k qc (toursTo ws N k) ∧ Below w.heap.size w wr)
      case atStart => exact ⟨0, _, 0, rfl, Nat.zero_le _, rfl, rfl, he, hb3⟩
      case round =>
        clear hb he hb3
        obtain ⟨k, Q, qc, hr, hk, rfl, rfl, oQ, hbw⟩ := hrel
        have HR := Lib.hid hr
        clear hr
        by_cases hlt : k < N
        · have HSU := Lib.hid (toursTo_succ ws N k)
          have HOK := Lib.hid (tourOf_ok (ws := ws) hN1 hlt)
          have HNO := Lib.hid (near_ok (ws := ws) hlt)
          go_wp2_with fail
          refine (l04Near_any _ _ _ ws N k _ (h.below hbw) HN.out hN1 hN2 hlt HW.out).mono ?_
          rintro e w4 ⟨X, nx, cx, rfl, oX, b4⟩
          have hnx : nx = N := by rw [← oX.len]; exact HNO.out.1
          subst hnx
          replace oQ := OwnI.below oQ b4
          replace hbw := below_ext hbw hbw.size b4
          clear b4
          go_wp2_with fail
          refine (l04Swap_any A n c ws X nx cx _ _ (h.below hbw) oX.ints HN.out hN1 hN2 HW.out HNO.out).mono ?_
          rintro e w5 ⟨Y, cy, rfl, oY, b5⟩
          replace oQ := OwnI.below oQ b5
          replace hbw := below_ext hbw hbw.size b5
          clear b5 oX
          go_wp2_with fail
          refine (l04Long_any A n c ws Y nx cy _ _ (h.below hbw) oY.ints HN.out hN1 hN2 HW.out HOK.out.2).mono ?_
          rintro e w6 ⟨rfl, b6⟩
          replace oQ := OwnI.below oQ b6
          replace hbw := below_ext hbw hbw.size b6
          have hsz := hbw.size
          clear b6 oY
          go_wp2_with (at_builtin; (refine wp_append_int _ _ rfl _ _ _ rfl 2 w.heap.size Try.underlying22 info64 Q k qc _ rfl oQ rfl (by omega) hsz ?_; intro g5 c5 w7 o7 u7 b7 hg7))
          go_roundg (nx - (k + 1))
          case measure => rw [HR.out]; omega
          case rel => exact ⟨k + 1, _, _, rfl, by omega, by go_num, rfl, by rw [HSU.out]; exact o7, hbw.trans b7⟩
        · have e : k = N := by omega
          subst e
          go_wp2_with fail
          go_ret2
          exact ⟨Q, k, qc, ret_LB HB.out.symm, by rw [HV.out]; exact oQ, hbw⟩
end Go.Proofs.Ytnliekbckdbaaaa
