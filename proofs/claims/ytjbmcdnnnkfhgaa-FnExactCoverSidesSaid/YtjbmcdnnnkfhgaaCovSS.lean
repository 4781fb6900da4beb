/- CoverSides of the reference: the walk. -/
import Derived.Test.YtjbmcdnnnkfhgaaCovS
namespace Go.Proofs.Ytjbmcdnnnkfhgaa
open Go.RowKit

set_option maxRecDepth 100000 in
set_option maxHeartbeats 6400000 in
theorem specCoverSides_r (l r : Int) (A : Option Addr) (n c : Nat) (ps : List Int) (w : World) (h : IntsAt w A n ps) (hn : n ≤ 1048576) :
    Calls Try.prog 16 #[.int .i64 l, .int .i64 r, .slice A n c] w (RetLLB 2 (covV l r ps).1 (covV l r ps).2 (sidesB l r ps) w) := by
  have HL := Lib.hid h.len
  cases hs : sidesB l r ps
  · have HV := Lib.hid (covV_no hs)
    go_enter Try.func16, Try.ntmps16
    go_wp2_with fail
    refine (l03Sides_any l r A n c ps _ h hn).mono ?_
    rw [hs]
    rintro e w1 ⟨rfl, rfl⟩
    go_wp2_with fail
    go_ret3
    exact ⟨none, 0, 0, none, 0, 0, rfl, by rw [HV.out]; exact OwnI.nil_ _ _ _, by rw [HV.out]; exact OwnI.nil_ _ _ _, sep_none, Below.refl _ _⟩
  · obtain ⟨L, R, m, rfl, rfl, l1, l2, r1, r2, hm, hm2, hps⟩ := sides_bd hs
    have HV := Lib.hid (covV_yes hs hm)
    have hnm : n = 2 * m := by rw [← HL.out]; exact hm
    have HM := Lib.hid hnm
    have HPS := Lib.hid hps
    have HC := Lib.hid (matTo_ok hps L (Nat.le_refl _)).1
    have HALL := Lib.hid (show covAll ps m L R = covR ps (matTo ps m L R L).R m (covI (matTo ps m L R L).L L R L) L from rfl)
    clear hm hps hnm
    go_enter Try.func16, Try.ntmps16
    go_wp2_with fail
    refine (l03Sides_any L R A n c ps _ h hn).mono ?_
    rw [hs]
    rintro e w1 ⟨rfl, rfl⟩
    clear hs
    go_wp2_with fail
    refine (l03Match_any L R A n c m ps _ h HM.out hm2 ⟨l1, l2⟩ ⟨r1, r2⟩ HPS.out).mono ?_
    rintro e w2 ⟨gL, cL, gR, cR, rfl, oL, oR, hLR, b2⟩
    generalize matTo ps m L R L = st at *
    have hp2 := h.below b2
    have hs2 := b2.size
    go_upto_region 5 with (at_make; (refine wp_make_bools rfl _ _ rfl .i64 .i64 _ _ L rfl rfl rfl rfl (by omega) ?_; intro w3 g1 o1 b3))
    go_upto_region 6 with (at_make; (refine wp_make_bools rfl _ _ rfl .i64 .i64 _ _ R rfl rfl rfl rfl (by omega) ?_; intro w4 g2 o2 b4))
    have hg1w3 := OwnC.lt o1 rfl
    have hg2w4 := OwnC.lt o2 rfl
    have hg12 : g1 ≠ g2 := by have h1 : g1 < w3.heap.size := hg1w3.2; have h2 : w3.heap.size ≤ g2 := hg2w4.1; omega
    have o1' := OwnC.low (OwnC.below o1 b4) (Nat.le_refl _)
    have o2' := OwnC.low o2 b3.size
    have hb4 := b3.trans (b4.mono b3.size)
    have hq0 : OwnI 2 w4.heap.size (w4.alloc (.cells #[] 2)) (some ⟨w4.heap.size, 0, none⟩) 0 0 (covI st.L L R 0).q := World.ownsRow_lit (e := 2) (base := w4.heap.size) (size := 1) w4 #[] 0 (Nat.le_refl _) (Nat.zero_le _) rfl
    have o1 := OwnC.alloc o1' (.cells #[] 2)
    have o2 := OwnC.alloc o2' (.cells #[] 2)
    have hbx := hb4.alloc hb4.size (.cells #[] 2)
    have hszw0 : w4.heap.size ≤ (w4.alloc (.cells #[] 2)).heap.size := by simp
    have hg1w : w2.heap.size ≤ g1 := hg1w3.1
    have hg2w : w2.heap.size ≤ g2 := (OwnC.lt o2' rfl).1
    have hg1c : g1 < w4.heap.size := (OwnC.lt o1' rfl).2
    have hg2c : g2 < w4.heap.size := (OwnC.lt o2' rfl).2
    have hbx' : w2.heap.size ≤ w4.heap.size := hb4.size
    clear o1' o2' hb4 hg1w3 hg2w4 b3 b4
    have hgLl : gL < w2.heap.size := (OwnI.lt oL rfl).2
    have hgRl : gR < w2.heap.size := (OwnI.lt oR rfl).2
    have HSL := Lib.hid HC.out.ll
    have HSR := Lib.hid HC.out.rl
    have HSX := Lib.hid HC.out.hr
    clear HC
    go_wp2_with fail
    generalize w4.alloc (.cells #[] 2) = W4 at *
    go_loopg [13, 41] L (fun r qv iv wi => ∃ (k : Nat) (Q : Option Addr) (lq cq : Nat), r = L - k ∧ k ≤ L ∧ iv = .int .i64 k ∧ qv = .slice Q lq cq ∧ lq ≤ L ∧ OwnC 4 w2.heap.size 1 wi (some ⟨g1, 0, none⟩) L L ((covJ st.L L k).map Value.bool) ∧ OwnC 4 w2.heap.size 1 wi (some ⟨g2, 0, none⟩) R R ((covI st.L L R k).r.map Value.bool) ∧ OwnI 2 w4.heap.size wi Q lq cq (covI st.L L R k).q ∧ Below w2.heap.size w2 wi ∧ w4.heap.size ≤ wi.heap.size)
    case atStart => exact ⟨0, _, 0, 0, rfl, by omega, rfl, rfl, by omega, o1, o2, hq0, hbx, hszw0⟩
    case round =>
      clear o1 o2 hq0 hbx
      obtain ⟨k, Q, lq, cq, hr, hk, rfl, rfl, hnq, o1, o2, oq, hbw, hszw⟩ := hrel
      have HR := Lib.hid hr
      clear hr
      by_cases hlt : k < L
      · have hCI := covI_ok (out := st.L) (L := L) (R := R) k (by omega)
        have cx := OwnI.cell (OwnI.below oL hbw) hlt
        have hcnt := count_le' (covI st.L L R k).a
        have HQ := Lib.hid (show lq < L by have h1 := oq.len; have h2 := hCI.2.2.2; have h3 := hCI.1; omega)
        have f1 := OwnC.free o1 k
        have hJ := (covJ_ok (out := st.L) (L := L) k (by omega)).1
        have ck := OwnC.cell o1 (j := k) (by omega)
        rw [boolsM_get hJ hlt] at ck
        have HNX := Lib.hid (show covI st.L L R (k + 1) = { covI st.L L R k with a := (covI st.L L R k).a.set k (decide (0 ≤ st.L.getD k 0)), q := if st.L.getD k 0 < 0 then (covI st.L L R k).q ++ [(k : Int)] else (covI st.L L R k).q } from rfl)
        have HNJ := Lib.hid (show covJ st.L L (k + 1) = if st.L.getD k 0 < 0 then (covJ st.L L k).set k true else covJ st.L L k from rfl)
        clear hCI hcnt hJ
        generalize covI st.L L R k = s at *
        generalize covJ st.L L k = sj at *
        generalize sj.getD k false = zj at *
        generalize st.L.getD k 0 = x at *
        by_cases hx : x < 0
        · have HE := Lib.hid (show (covI st.L L R (k + 1)).r = s.r ∧ (covI st.L L R (k + 1)).q = s.q ++ [(k : Int)] by rw [HNX.out, if_pos hx]; exact ⟨rfl, rfl⟩)
          have HEJ := Lib.hid (HNJ.out.trans (if_pos hx))
          have o1S := OwnC.set o1 k (.bool true)
          rw [← List.map_set] at o1S
          have o2S := OwnC.far o2 (p := ⟨g1, k, none⟩) (fun ad ha => by injection ha with ha; subst ha; exact fun e => hg12 e.symm) (.bool true)
          have oqS := OwnI.far oq (p := ⟨g1, k, none⟩) (fun ad ha => by have h1 := (OwnI.lt oq ha).1; show ad.block ≠ g1; omega) (.bool true)
          have bS := hbw.setCell (p := ⟨g1, k, none⟩) hg1w (.bool true)
          have hsS : w4.heap.size ≤ (wr.setCell ⟨g1, k, none⟩ (.bool true)).heap.size := by simpa [World.setCell] using hszw
          have HQ2 := HQ.out
          clear o1 o2 oq hbw
          go_upto_region 12 with (fail)
          generalize wr.setCell ⟨g1, k, none⟩ (.bool true) = W5 at *
          go_wp2_with (at_builtin; (refine wp_append_int _ _ rfl _ _ _ rfl 2 w4.heap.size Try.underlying22 info64 Q lq cq _ rfl oqS rfl (by omega) hsS ?_; intro g5 c5 w6 o6 u6 b6 hg6))
          have o1X := OwnC.upd o1S u6 (fun ad ha => by rintro ⟨bd, hb1, hb2⟩; have h1 := (OwnI.lt oqS hb1).1; injection ha with ha; subst ha; have h3 : bd.block = g1 := hb2; omega)
          have o2X := OwnC.upd o2S u6 (fun ad ha => by rintro ⟨bd, hb1, hb2⟩; have h1 := (OwnI.lt oqS hb1).1; injection ha with ha; subst ha; have h3 : bd.block = g2 := hb2; omega)
          have bX := bS.trans (b6.mono (by have := hs2; omega))
          have hsX := Nat.le_trans hsS b6.size
          go_roundg (L - (k + 1))
          case measure => rw [HR.out]; omega
          case rel => exact ⟨k + 1, _, lq + 1, c5, rfl, by omega, by go_num, rfl, by omega, by rw [HEJ.out]; exact o1X, by rw [HE.out.1]; exact o2X, by rw [HE.out.2]; exact o6, bX, hsX⟩
        · have HE := Lib.hid (show (covI st.L L R (k + 1)).r = s.r ∧ (covI st.L L R (k + 1)).q = s.q by rw [HNX.out, if_neg hx]; exact ⟨rfl, rfl⟩)
          have HEJ := Lib.hid (HNJ.out.trans (if_neg hx))
          go_wp2_with fail
          go_roundg (L - (k + 1))
          case measure => rw [HR.out]; omega
          case rel => exact ⟨k + 1, Q, lq, cq, rfl, by omega, by go_num, rfl, hnq, by rw [HEJ.out]; exact o1, by rw [HE.out.1]; exact o2, by rw [HE.out.2]; exact oq, hbw, hszw⟩
      · have e : L = k := by omega
        subst e
        have HCV := Lib.hid (covI_cov (out := st.L) (L := L) (R := R))
        have HO := Lib.hid (fun (j : Nat) (hj : j < m) => (show st.R.getD (pY ps j) 0 < L from by
          obtain ⟨_, b0, b1⟩ := HPS.out j hj
          rcases HSX.out (pY ps j) (by unfold pY; omega) with h1 | ⟨x, h1, h2, _⟩ <;> omega))
        rw [covJ_not (R := R)] at o1
        have HS0 := Lib.hid (show covR ps st.R m (covI st.L L R L) 0 = covI st.L L R L from rfl)
        generalize covI st.L L R L = s0 at *
        rw [← HS0.out] at o1 o2 oq
        obtain ⟨wq, rfl⟩ : ∃ wq : World, wq = wr := ⟨_, rfl⟩
        go_wp2_with fail
        go_loopg [13, 15] L (fun r qv iv wi => ∃ (k : Nat) (Q : Option Addr) (lq cq : Nat), r = L - k ∧ k ≤ lq ∧ iv = .int .i64 k ∧ qv = .slice Q lq cq ∧ lq ≤ L ∧ OwnC 4 w2.heap.size 1 wi (some ⟨g1, 0, none⟩) L L ((covR ps st.R m s0 k).a.map not |>.map Value.bool) ∧ OwnC 4 w2.heap.size 1 wi (some ⟨g2, 0, none⟩) R R ((covR ps st.R m s0 k).r.map Value.bool) ∧ OwnI 2 w4.heap.size wi Q lq cq (covR ps st.R m s0 k).q ∧ Below w2.heap.size w2 wi ∧ w4.heap.size ≤ wi.heap.size)
        case atStart => exact ⟨0, Q, lq, cq, rfl, by omega, rfl, rfl, hnq, o1, o2, oq, hbw, hszw⟩
        case round =>
          clear o1 o2 oq hbw hszw hnq
          obtain ⟨k, Q, lq, cq, hr, hk, rfl, rfl, hnq, o1, o2, oq, hbw, hszw⟩ := hrel
          have HR := Lib.hid hr
          clear hr
          by_cases hlt : k < lq
          · have hOK := covR_ok HCV.out HO.out k
            have hql := oq.len
            have HNX := Lib.hid (show covR ps st.R m s0 (k + 1) = covTo ps st.R ((covR ps st.R m s0 k).q.getD k 0) (covR ps st.R m s0 k) m by rw [covR, if_pos (by omega)])
            generalize covR ps st.R m s0 k = s at *
            have HQK := Lib.hid (fun j => covTo_q (ps := ps) (O := st.R) (u := s.q.getD k 0) (k := k) (s := s) (by omega) j)
            generalize s.q.getD k 0 = u at *
            have HTO := Lib.hid (fun j hj => covTo_ok (u := u) hOK HO.out j hj)
            have HT0 := Lib.hid (show covTo ps st.R u s 0 = s from rfl)
            rw [← HT0.out] at o1 o2 oq
            clear hOK hql
            obtain ⟨wo, rfl⟩ : ∃ wo : World, wo = wr := ⟨_, rfl⟩
            go_wp2_with fail
            go_loopg [13, 16] m (fun r qv iv wi => ∃ (j i : Nat) (Q : Option Addr) (lq cq : Nat), r = m - j ∧ j ≤ m ∧ k < lq ∧ iv = .int .i64 i ∧ qv = .slice Q lq cq ∧ lq ≤ L ∧ OwnC 4 w2.heap.size 1 wi (some ⟨g1, 0, none⟩) L L ((covTo ps st.R u s j).a.map not |>.map Value.bool) ∧ OwnC 4 w2.heap.size 1 wi (some ⟨g2, 0, none⟩) R R ((covTo ps st.R u s j).r.map Value.bool) ∧ OwnI 2 w4.heap.size wi Q lq cq (covTo ps st.R u s j).q ∧ Below w2.heap.size w2 wi ∧ w4.heap.size ≤ wi.heap.size ∧ Hid (i = 2 * j))
            case atStart => exact ⟨0, 0, Q, lq, cq, rfl, by omega, hlt, rfl, rfl, hnq, o1, o2, oq, hbw, hszw, Lib.hid rfl⟩
            case round =>
              clear o1 o2 oq hbw hszw hnq hlt hk
              obtain ⟨j, i, Q, lq, cq, hr, hj, hkq, rfl, rfl, hnq, o1, o2, oq, hbw, hszw, HIJ⟩ := hrel
              have HR2 := Lib.hid hr
              clear hr
              have hij : i = 2 * j := HIJ.out
              have hnm : n = 2 * m := HM.out
              have hn96 : n ≤ 96 := by omega
              by_cases hlj : j < m
              · have hin : i + 1 < n := by omega
                obtain ⟨ad, hA, had, c1⟩ := (hp2.below hbw).at_ (k := i) (by omega)
                subst hA
                obtain ⟨ad2, hA2, _, c2⟩ := (hp2.below hbw).at_ (k := i + 1) hin
                injection hA2 with hA2
                subst hA2
                have c3 : wr.cell? ⟨ad.block, ad.off + (i + 1), none⟩ = some (.int .i64 (ps.getD (i + 1) 0)) := c2
                obtain ⟨⟨a0, a1⟩, b0, b1⟩ := HPS.out j hlj
                rw [← hij] at a0 a1 b0 b1
                have HPX := Lib.hid (show pX ps j = ps.getD i 0 by unfold pX; rw [hij])
                have HPY := Lib.hid (show pY ps j = (ps.getD (i + 1) 0).toNat by unfold pY; rw [hij])
                have HOj := HO.out j hlj
                have hOK := HTO.out j (by omega)
                have hqk := (HQK.out j).1
                have HN1 := Lib.hid (show covTo ps st.R u s (j + 1) = covOne ps st.R u j (covTo ps st.R u s j) from rfl)
                have hcnt := count_le' (covTo ps st.R u s j).a
                clear c2 hij hnm
                generalize ps.getD i 0 = px at *
                generalize ps.getD (i + 1) 0 = py at *
                obtain ⟨y, rfl⟩ := Int.eq_ofNat_of_zero_le b0
                rw [Int.toNat_natCast] at HPY
                rw [HPY.out] at HOj
                have hy : y < R := by omega
                generalize covTo ps st.R u s j = t at *
                obtain ⟨gq, rfl, hgq0, hgq1, _, _⟩ := oq.pos (by omega)
                have cq1 := OwnI.cell oq hkq
                rw [hqk] at cq1
                have cr := OwnC.cell o2 (j := y) (by omega)
                rw [boolsM_get hOK.rl hy] at cr
                have co := OwnI.cell (OwnI.below oR hbw) hy
                have v1 : (i : Int) + 1 < (n : Int) := by omega
                have v2 : (y : Int) < (R : Int) := by omega
                have v3 : 0 ≤ (y : Int) := by omega
                have v4 : (k : Int) < (lq : Int) := by omega
                have v5 : (i : Int) < (n : Int) := by omega
                by_cases h1 : px = u
                · have HPX2 := Lib.hid (HPX.out.trans h1)
                  clear HPX
                  subst h1
                  have d1 : (px != px) = false := by simp
                  cases hK : t.r.getD y false
                  · rw [hK] at cr
                    have HNO := Lib.hid (fun h3 => HN1.out.trans (one_only HPX2.out (by rw [HPY.out]; exact hK) h3))
                    have HYE := Lib.hid (fun h3 => HN1.out.trans (one_both HPX2.out (by rw [HPY.out]; exact hK) h3))
                    rw [HPY.out] at HNO HYE
                    have HOK := Lib.hid hOK
                    clear hK hqk hOK
                    go_wp2_with fail
                    go_quiet (fail)
                    have hb1 := below_drewN hbw nq
                    have o1N := OwnC.drewN o1 nq
                    have o2N := OwnC.drewN o2 nq
                    have oqN := OwnI.drewN oq nq
                    have hszN : w4.heap.size ≤ (wr.drewN nq).heap.size := hszw
                    clear hbw o1 o2 oq hszw c1 c3 cq1 cr co had
                    generalize wr.drewN nq = W1 at *
                    have f2 := OwnC.free o2N y
                    have ck2 := OwnC.cell o2N (j := y) (by omega)
                    rw [boolsM_get HOK.out.rl hy] at ck2
                    have o2S := OwnC.set o2N y (.bool true)
                    rw [← List.map_set] at o2S
                    have o1S := OwnC.far o1N (p := ⟨g2, y, none⟩) (fun ad ha => by injection ha with ha; subst ha; exact hg12) (.bool true)
                    have oqS := OwnI.far oqN (p := ⟨g2, y, none⟩) (fun ad ha => by have h1 := (OwnI.lt oqN ha).1; show ad.block ≠ g2; omega) (.bool true)
                    have bS := hb1.setCell (p := ⟨g2, y, none⟩) hg2w (.bool true)
                    have hsS : w4.heap.size ≤ (W1.setCell ⟨g2, y, none⟩ (.bool true)).heap.size := by simpa [World.setCell] using hszN
                    clear o1N o2N oqN hb1 hszN
                    generalize t.r.getD y false = ry at *
                    go_upto_region 23 with (fail)
                    generalize W1.setCell ⟨g2, y, none⟩ (.bool true) = W2 at *
                    clear f2 ck2
                    have co2 := OwnI.cell (OwnI.below oR bS) hy
                    generalize hxx : st.R.getD y 0 = x at *
                    have HXX := Lib.hid hxx
                    clear hxx
                    by_cases hx0 : 0 ≤ x
                    · obtain ⟨x, rfl⟩ := Int.eq_ofNat_of_zero_le hx0
                      have hxL : x < L := by omega
                      have ca := OwnC.cell o1S (j := x) (by omega)
                      rw [boolsM_get (by rw [List.length_map]; exact HOK.out.al) hxL, map_not_get (by rw [HOK.out.al]; exact hxL)] at ca
                      have v6 : (x : Int) < (L : Int) := by omega
                      have d2 : decide ((x : Int) ≥ 0) = true := decide_eq_true (by omega)
                      cases hA2 : t.a.getD x false
                      · rw [hA2] at ca
                        have HE := Lib.hid (HNO.out (fun h => by rw [Int.toNat_natCast, hA2] at h; cases h.2))
                        clear hA2 hcnt
                        go_wp2_with fail
                        go_roundg (m - (j + 1))
                        case measure => rw [HR2.out]; omega
                        case rel => exact ⟨j + 1, i + 2, _, lq, cq, rfl, by omega, hkq, by go_num, rfl, hnq, by rw [HE.out]; exact o1S, by rw [HE.out]; exact o2S, by rw [HE.out]; exact oqS, bS, hsS, Lib.hid (by rw [HIJ.out]; omega)⟩
                      · rw [hA2] at ca
                        have HE := Lib.hid (HYE.out ⟨by omega, by rw [Int.toNat_natCast]; exact hA2⟩)
                        rw [Int.toNat_natCast] at HE
                        have HQ := Lib.hid (show lq + 1 ≤ L by
                          have h1 := HOK.out.ql
                          have h2 := oqS.len
                          have h3 := count_down (y := x) (by rw [HOK.out.al]; exact hxL) hA2
                          have h4 := count_le' (t.a.set x false)
                          rw [List.length_set, HOK.out.al] at h4
                          omega)
                        clear hA2 hcnt
                        have f1 := OwnC.free o1S x
                        have o1T := OwnC.set o1S x (.bool true)
                        rw [← List.map_set, map_not_set] at o1T
                        have o2T := OwnC.far o2S (p := ⟨g1, x, none⟩) (fun ad ha => by injection ha with ha; subst ha; exact fun e => hg12 e.symm) (.bool true)
                        have oqT := OwnI.far oqS (p := ⟨g1, x, none⟩) (fun ad ha => by have h1 := (OwnI.lt oqS ha).1; show ad.block ≠ g1; omega) (.bool true)
                        have bT := bS.setCell (p := ⟨g1, x, none⟩) hg1w (.bool true)
                        have hsT : w4.heap.size ≤ (W2.setCell ⟨g1, x, none⟩ (.bool true)).heap.size := by simpa [World.setCell] using hsS
                        go_upto_region 25 with (fail)
                        clear o1S o2S oqS bS hsS ca f1
                        have co2 := OwnI.cell (OwnI.below oR bT) hy
                        rw [HXX.out] at co2
                        generalize W2.setCell ⟨g1, x, none⟩ (.bool true) = W3 at *
                        have HQ2 := HQ.out
                        go_wp2_with (at_builtin; (refine wp_append_int _ _ rfl _ _ _ rfl 2 w4.heap.size Try.underlying22 info64 (some ⟨gq, 0, none⟩) lq cq _ rfl oqT rfl (by omega) hsT ?_; intro g5 c5 w6 o6 u6 b6 hg6))
                        have o1X := OwnC.upd o1T u6 (fun ad ha => by rintro ⟨bd, hb1, hb2⟩; have h1 := (OwnI.lt oqT hb1).1; injection ha with ha; subst ha; have h3 : bd.block = g1 := hb2; omega)
                        have o2X := OwnC.upd o2T u6 (fun ad ha => by rintro ⟨bd, hb1, hb2⟩; have h1 := (OwnI.lt oqT hb1).1; injection ha with ha; subst ha; have h3 : bd.block = g2 := hb2; omega)
                        have bX := bT.trans (b6.mono (by have := hbx'; omega))
                        have hsX := Nat.le_trans hsT b6.size
                        go_roundg (m - (j + 1))
                        case measure => rw [HR2.out]; omega
                        case rel => exact ⟨j + 1, i + 2, _, lq + 1, c5, rfl, by omega, by omega, by go_num, rfl, HQ2, by rw [HE.out]; exact o1X, by rw [HE.out]; exact o2X, by rw [HE.out]; exact o6, bX, hsX, Lib.hid (by rw [HIJ.out]; omega)⟩
                    · have d2 : decide (x ≥ 0) = false := decide_eq_false (by omega)
                      have HE := Lib.hid (HNO.out (fun h => hx0 h.1))
                      clear hcnt
                      go_wp2_with fail
                      go_roundg (m - (j + 1))
                      case measure => rw [HR2.out]; omega
                      case rel => exact ⟨j + 1, i + 2, _, lq, cq, rfl, by omega, hkq, by go_num, rfl, hnq, by rw [HE.out]; exact o1S, by rw [HE.out]; exact o2S, by rw [HE.out]; exact oqS, bS, hsS, Lib.hid (by rw [HIJ.out]; omega)⟩
                  · rw [hK] at cr
                    have HE := Lib.hid (HN1.out.trans (one_no2 (by rw [HPY.out]; exact hK)))
                    clear hK hqk hcnt hOK
                    go_wp2_with fail
                    go_quiet (fail)
                    go_wp2_with fail
                    go_roundg (m - (j + 1))
                    case measure => rw [HR2.out]; omega
                    case rel => exact ⟨j + 1, i + 2, _, lq, cq, rfl, by omega, hkq, by go_num, rfl, hnq, by rw [HE.out]; exact OwnC.drewN o1 _, by rw [HE.out]; exact OwnC.drewN o2 _, by rw [HE.out]; exact OwnI.drewN oq _, below_drewN hbw _, hszw, Lib.hid (by rw [HIJ.out]; omega)⟩
                · have d1 : (px != u) = true := by simpa using h1
                  have HE := Lib.hid (HN1.out.trans (one_no1 (by rw [HPX.out]; exact h1)))
                  clear h1 hqk hcnt hOK
                  go_wp2_with fail
                  go_quiet (fail)
                  go_wp2_with fail
                  go_roundg (m - (j + 1))
                  case measure => rw [HR2.out]; omega
                  case rel => exact ⟨j + 1, i + 2, _, lq, cq, rfl, by omega, hkq, by go_num, rfl, hnq, by rw [HE.out]; exact OwnC.drewN o1 _, by rw [HE.out]; exact OwnC.drewN o2 _, by rw [HE.out]; exact OwnI.drewN oq _, below_drewN hbw _, hszw, Lib.hid (by rw [HIJ.out]; omega)⟩
              · have e : m = j := by omega
                subst e
                have hin : ¬ (i : Int) < (n : Int) := by omega
                clear hij hnm
                go_wp2_with fail
                go_roundg (L - (k + 1))
                case measure => rw [HR.out]; omega
                case rel => exact ⟨k + 1, Q, lq, cq, rfl, by omega, by go_num, rfl, hnq, by rw [HNX.out]; exact o1, by rw [HNX.out]; exact o2, by rw [HNX.out]; exact oq, hbw, hszw⟩
          · have hql := oq.len
            have hfin := covR_stay (ps := ps) (O := st.R) (m := m) (s := s0) (k := k) (by omega) (L - k)
            rw [show k + (L - k) = L by omega] at hfin
            have HF := Lib.hid (HALL.out.trans hfin)
            have hOK := covR_ok HCV.out HO.out k
            have HAL := Lib.hid hOK.al
            have HRL := Lib.hid hOK.rl
            clear hfin hql hOK
            generalize covR ps st.R m s0 k = s at *
            have he8 : OwnI 2 wr.heap.size (wr.alloc (.cells #[] 2)) (some ⟨wr.heap.size, 0, none⟩) 0 0 (setTo s.a 0) := World.ownsRow_lit (e := 2) (base := wr.heap.size) (size := 1) wr #[] 0 (Nat.le_refl _) (Nat.zero_le _) rfl
            have he9 : OwnI 2 (wr.alloc (.cells #[] 2)).heap.size ((wr.alloc (.cells #[] 2)).alloc (.cells #[] 2)) (some ⟨(wr.alloc (.cells #[] 2)).heap.size, 0, none⟩) 0 0 (setTo s.r 0) := World.ownsRow_lit (e := 2) (base := (wr.alloc (.cells #[] 2)).heap.size) (size := 1) (wr.alloc (.cells #[] 2)) #[] 0 (Nat.le_refl _) (Nat.zero_le _) rfl
            have o8 := OwnI.alloc he8 (.cells #[] 2)
            have o1' := OwnC.alloc (OwnC.alloc o1 (.cells #[] 2)) (.cells #[] 2)
            have o2' := OwnC.alloc (OwnC.alloc o2 (.cells #[] 2)) (.cells #[] 2)
            have hb9 := ((Below.refl wr.heap.size wr).alloc (Nat.le_refl _) (.cells #[] 2)).alloc (by simp) (.cells #[] 2)
            have hsep : Sep (some ⟨wr.heap.size, 0, none⟩) (some ⟨(wr.alloc (.cells #[] 2)).heap.size, 0, none⟩) := sep_ne (by simp)
            have hw2 := hbw.size
            have hg1r := (OwnC.lt o1 rfl).2
            have hg2r := (OwnC.lt o2 rfl).2
            have he9' := OwnI.low he9 (base' := wr.heap.size) (by simp)
            have hle9 : wr.heap.size ≤ ((wr.alloc (.cells #[] 2)).alloc (.cells #[] 2)).heap.size := by simp; omega
            have hgB : (wr.alloc (.cells #[] 2)).heap.size = wr.heap.size + 1 := by simp
            rw [hgB] at he9' hsep
            clear he8 he9 o1 o2 oq hgB
            obtain ⟨wz, rfl⟩ : ∃ wz : World, wz = wr := ⟨_, rfl⟩
            go_wp2_with fail
            generalize ((wz.alloc (.cells #[] 2)).alloc (.cells #[] 2)) = W9 at *
            generalize wz.heap.size + 1 = gB at *
            go_loopg [18, 124] L (fun r av iv wi => ∃ (k : Nat) (Q : Option Addr) (lq cq : Nat), r = L - k ∧ k ≤ L ∧ iv = .int .i64 k ∧ av = .slice Q lq cq ∧ lq ≤ k ∧ OwnC 4 w2.heap.size 1 wi (some ⟨g1, 0, none⟩) L L ((s.a.map not).map Value.bool) ∧ OwnC 4 w2.heap.size 1 wi (some ⟨g2, 0, none⟩) R R (s.r.map Value.bool) ∧ OwnI 2 wz.heap.size wi Q lq cq (setTo s.a k) ∧ OwnI 2 wz.heap.size wi (some ⟨gB, 0, none⟩) 0 0 (setTo s.r 0) ∧ Sep Q (some ⟨gB, 0, none⟩) ∧ Below wz.heap.size wz wi ∧ wz.heap.size ≤ wi.heap.size)
            case atStart => exact ⟨0, _, 0, 0, rfl, by omega, rfl, rfl, by omega, o1', o2', o8, he9', hsep, hb9, hle9⟩
            case round =>
              clear o1' o2' o8 he9' hsep hb9 hle9
              obtain ⟨k, Q, lq, cq, hr, hk, rfl, rfl, hnq, o1, o2, oq, ob, hsep, hbz, hszz⟩ := hrel
              have HR := Lib.hid hr
              clear hr
              by_cases hlt : k < L
              · have ck := OwnC.cell o1 (j := k) (by omega)
                rw [boolsM_get (by rw [List.length_map]; exact HAL.out) hlt, map_not_get (by rw [HAL.out]; exact hlt)] at ck
                have HS := Lib.hid (setTo_succ s.a k)
                cases hbv : s.a.getD k false
                · rw [hbv] at ck
                  have HE := Lib.hid (show setTo s.a (k + 1) = setTo s.a k by rw [HS.out, hbv]; rfl)
                  clear hbv
                  go_wp2_with fail
                  go_roundg (L - (k + 1))
                  case measure => rw [HR.out]; omega
                  case rel => exact ⟨k + 1, Q, lq, cq, rfl, by omega, by go_num, rfl, by omega, o1, o2, by rw [HE.out]; exact oq, ob, hsep, hbz, hszz⟩
                · rw [hbv] at ck
                  have HE := Lib.hid (show setTo s.a (k + 1) = setTo s.a k ++ [(k : Int)] by rw [HS.out, hbv]; rfl)
                  clear hbv
                  go_wp2_with (at_builtin; (refine wp_append_int _ _ rfl _ _ _ rfl 2 wz.heap.size Try.underlying22 info64 Q lq cq _ rfl oq rfl (by omega) hszz ?_; intro g5 c5 w6 o6 u6 b6 hg6))
                  have o1X := OwnC.upd o1 u6 (fun ad ha => by rintro ⟨bd, hb1, hb2⟩; have h1 := (OwnI.lt oq hb1).1; injection ha with ha; subst ha; have h3 : bd.block = g1 := hb2; have h4 : g1 < wz.heap.size := hg1r; omega)
                  have o2X := OwnC.upd o2 u6 (fun ad ha => by rintro ⟨bd, hb1, hb2⟩; have h1 := (OwnI.lt oq hb1).1; injection ha with ha; subst ha; have h3 : bd.block = g2 := hb2; have h4 : g2 < wz.heap.size := hg2r; omega)
                  have obX := OwnI.sep ob u6 hsep.symm
                  have hsepX : Sep (some ⟨g5, 0, none⟩) (some ⟨gB, 0, none⟩) := sep_ne (fun e => by
                    have h1 : gB < wr.heap.size := (OwnI.lt ob rfl).2
                    rcases hg6 with ⟨ad, h2, h3⟩ | h2
                    · exact hsep ad _ h2 rfl (h3.trans e)
                    · omega)
                  go_roundg (L - (k + 1))
                  case measure => rw [HR.out]; omega
                  case rel => exact ⟨k + 1, _, lq + 1, c5, rfl, by omega, by go_num, rfl, by omega, o1X, o2X, by rw [HE.out]; exact o6, obX, hsepX, hbz.trans b6, Nat.le_trans hszz b6.size⟩
              · have e : L = k := by omega
                subst e
                clear o1
                obtain ⟨wy, rfl⟩ : ∃ wy : World, wy = wr := ⟨_, rfl⟩
                go_wp2_with fail
                go_loopg [19, 139] R (fun r av iv wi => ∃ (k : Nat) (P : Option Addr) (lp cp : Nat), r = R - k ∧ k ≤ R ∧ iv = .int .i64 k ∧ av = .slice P lp cp ∧ lp ≤ k ∧ OwnC 4 w2.heap.size 1 wi (some ⟨g2, 0, none⟩) R R (s.r.map Value.bool) ∧ OwnI 2 wz.heap.size wi Q lq cq (setTo s.a L) ∧ OwnI 2 wz.heap.size wi P lp cp (setTo s.r k) ∧ Sep Q P ∧ Below wz.heap.size wz wi ∧ wz.heap.size ≤ wi.heap.size)
                case atStart => exact ⟨0, _, 0, 0, rfl, by omega, rfl, rfl, by omega, o2, oq, ob, hsep, hbz, hszz⟩
                case round =>
                  clear o2 oq ob hsep hbz hszz
                  obtain ⟨k, P, lp, cp, hr, hk, rfl, rfl, hnp, o2, oq, ob, hsep, hbz, hszz⟩ := hrel
                  have HR := Lib.hid hr
                  clear hr
                  by_cases hlt : k < R
                  · have ck := OwnC.cell o2 (j := k) (by omega)
                    rw [boolsM_get HRL.out hlt] at ck
                    have HS := Lib.hid (setTo_succ s.r k)
                    cases hbv : s.r.getD k false
                    · rw [hbv] at ck
                      have HE := Lib.hid (show setTo s.r (k + 1) = setTo s.r k by rw [HS.out, hbv]; rfl)
                      clear hbv
                      go_wp2_with fail
                      go_roundg (R - (k + 1))
                      case measure => rw [HR.out]; omega
                      case rel => exact ⟨k + 1, P, lp, cp, rfl, by omega, by go_num, rfl, by omega, o2, oq, by rw [HE.out]; exact ob, hsep, hbz, hszz⟩
                    · rw [hbv] at ck
                      have HE := Lib.hid (show setTo s.r (k + 1) = setTo s.r k ++ [(k : Int)] by rw [HS.out, hbv]; rfl)
                      clear hbv
                      go_wp2_with (at_builtin; (refine wp_append_int _ _ rfl _ _ _ rfl 2 wz.heap.size Try.underlying22 info64 P lp cp _ rfl ob rfl (by omega) hszz ?_; intro g5 c5 w6 o6 u6 b6 hg6))
                      have o2X := OwnC.upd o2 u6 (fun ad ha => by rintro ⟨bd, hb1, hb2⟩; have h1 := (OwnI.lt ob hb1).1; injection ha with ha; subst ha; have h3 : bd.block = g2 := hb2; have h4 : g2 < wz.heap.size := hg2r; omega)
                      have oqX := OwnI.sep oq u6 hsep
                      have hsepX : Sep Q (some ⟨g5, 0, none⟩) := fun ad bd ha hb => by
                        injection hb with hb; subst hb
                        have h1 := (OwnI.lt oq ha).2
                        rcases hg6 with ⟨cd, h2, h3⟩ | h2
                        · exact fun e => hsep ad cd ha h2 (e.trans h3.symm)
                        · show ad.block ≠ g5; omega
                      go_roundg (R - (k + 1))
                      case measure => rw [HR.out]; omega
                      case rel => exact ⟨k + 1, _, lp + 1, c5, rfl, by omega, by go_num, rfl, by omega, o2X, oqX, by rw [HE.out]; exact o6, hsepX, hbz.trans b6, Nat.le_trans hszz b6.size⟩
                  · have e : R = k := by omega
                    subst e
                    go_wp2_with fail
                    go_ret3
                    exact ⟨Q, lq, cq, P, lp, cp, rfl, by rw [HV.out, HF.out]; exact OwnI.low oq (by omega), by rw [HV.out, HF.out]; exact OwnI.low ob (by omega), hsep, (b2.trans (hbw.mono hs2)).trans (hbz.mono (by omega))⟩
end Go.Proofs.Ytjbmcdnnnkfhgaa
