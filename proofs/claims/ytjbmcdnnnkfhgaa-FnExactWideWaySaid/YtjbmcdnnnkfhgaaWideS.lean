/- WideWay of the reference: the walk. -/
import Derived.Test.YtjbmcdnnnkfhgaaWide
import Derived.Test.YtjbmcdnnnkfhgaaAlong
namespace Go.Proofs.Ytjbmcdnnnkfhgaa
open Go.RowKit

theorem infoIntW : (Try.prog.info? 3).map (fun i => (i.zero, i.size, i.bytes)) = some (some (.int .i64 0), 1, 8) := by kernel_rfl
theorem sep_neW {g h : Nat} {i j : Nat} (hn : g ≠ h) : Sep (some ⟨g, i, none⟩) (some ⟨h, j, none⟩) := by
  intro a b ha hb
  injection ha with ha; injection hb with hb
  subst ha; subst hb
  exact hn
theorem firstW_le {f : Nat → Bool} : ∀ (k i : Nat), firstW f k i ≤ i + k
  | 0, i => Nat.le_refl _
  | k + 1, i => by
    rw [firstW]
    split
    · omega
    · have := firstW_le (f := f) k (i + 1); omega
theorem wideV_len (nodes : Int) (xs : List ArcR) (a b : Int) : (wideV nodes xs a b).1.length ≤ 1048576 := by
  cases h : wideB nodes xs a b
  · rw [wideB_no h]; simp
  · have he : endsB nodes xs a b = true := by
      unfold wideB at h
      rw [Bool.and_eq_true] at h
      exact h.1
    obtain ⟨N, F, t, rfl, rfl, rfl, _, _, _, hv⟩ := ends_bd he
    obtain ⟨_, v1, _⟩ := valid_bd hv
    unfold wideV
    rw [if_pos h]
    simp only [Int.toNat_natCast, List.length_reverse, wback_len]
    have := firstW_le (f := fun p => decide (wchain xs (wideR xs N F N) t p = F)) (N + 1) 0
    unfold wayP
    omega

set_option maxRecDepth 100000 in
set_option maxHeartbeats 6400000 in
theorem specWideWay_r (nodes : Int) (A : Option Addr) (n c : Nat) (xs : List ArcR) (a b : Int) (w : World) (h : ArcsAt w A n xs) (hn0 : n ≤ maxLen) :
    Calls Try.prog 21 #[.agg #[.int .i64 nodes, .slice A n c], .int .i64 a, .int .i64 b] w (RetLIB 2 (wideV nodes xs a b).1 (wideV nodes xs a b).2 (wideB nodes xs a b) w) := by
  have HX := Lib.hid h.len
  have hW : Below w.heap.size w (w.alloc (.cells #[.int .i64 nodes, .slice A n c] 42)) := (Below.refl _ _).alloc (Nat.le_refl _) _
  have h3 := h.alloc (.cells #[.int .i64 nodes, .slice A n c] 42)
  have HB := Lib.hid (Blk.new w 42 #[.int .i64 nodes, .slice A n c])
  have hlt0 : w.heap.size < (w.alloc (.cells #[.int .i64 nodes, .slice A n c] 42)).heap.size := by simp
  clear h
  cases he : endsB nodes xs a b
  · have HS := Lib.hid (show wideB nodes xs a b = false by unfold wideB; rw [he]; rfl)
    have HV := Lib.hid (wideB_no HS.out)
    go_enter Try.func21, Try.ntmps21
    go_wp2_with fail
    generalize w.alloc (.cells #[.int .i64 nodes, .slice A n c] 42) = W at *
    refine (l03Ends_any _ nodes A n c xs a b _ HB.out h3 hn0).mono ?_
    rw [he]
    rintro e w1 ⟨rfl, hd⟩
    have e1 := hd.below
    go_wp2_with fail
    go_ret3
    exact ⟨none, 0, 0, ret_LIBw (by rw [HV.out]) HS.out.symm, by rw [HV.out]; exact OwnI.nil_ _ _ _, below_ext hW hW.size e1⟩
  · obtain ⟨N, F, t, rfl, rfl, rfl, hF, ht, htF, hv⟩ := ends_bd he
    obtain ⟨v0, v1, v2, _⟩ := valid_bd hv
    rw [HX.out] at v2
    obtain ⟨j0, hj0, hw0, hw1, hw2⟩ := info_parts infoB1
    have HZ2 := Lib.hid (bools_rep N)
    have HS := Lib.hid (show wideB N xs F t = decide (0 ≤ (wideR xs N F N).W.getD t 0) by unfold wideB; rw [he, Int.toNat_natCast, Int.toNat_natCast, Int.toNat_natCast]; rfl)
    have HV := Lib.hid (show wideV N xs F t = if wideB N xs F t = true then ((wback xs (wideR xs N F N) t (wayP xs N F t)).reverse, (wideR xs N F N).W.getD t 0) else ([], 0) by unfold wideV; rw [Int.toNat_natCast, Int.toNat_natCast, Int.toNat_natCast])
    have HNO := Lib.hid (net_ok (N := N) rfl hv)
    have HARCS := Lib.hid h3
    go_enter Try.func21, Try.ntmps21
    go_wp2_with fail
    generalize w.alloc (.cells #[.int .i64 N, .slice A n c] 42) = W at *
    refine (l03Ends_any _ N A n c xs F t _ HB.out h3 hn0).mono ?_
    rw [he]
    rintro e w1 ⟨rfl, hd⟩
    have e1 := hd.below
    clear he hv h3 hd
    have KX := Lib.hid (HB.out.ext e1)
    have hs1 := e1.size
    have he0 : OwnI 2 w1.heap.size (w1.alloc (.cells #[] 2)) (some ⟨w1.heap.size, 0, none⟩) 0 0 (List.replicate 0 (-1)) := World.ownsRow_lit (e := 2) (base := w1.heap.size) (size := 1) w1 #[] 0 (Nat.le_refl _) (Nat.zero_le _) rfl
    have hbE := (Below.refl w1.heap.size w1).alloc (Nat.le_refl _) (.cells #[] 2)
    have q0 := (KX.out.ext hbE).cell 0
    go_upto_region 4 with (fail)
    generalize hgE : w1.alloc (.cells #[] 2) = W1 at *
    have hsE : w1.heap.size ≤ W1.heap.size := hbE.size
    clear hgE
    go_wp2_with (at_make; refine wp_make_ints _ rfl _ _ 63 rfl 3 Try.underlying63 infoIntW .i64 .i64 _ _ N rfl rfl rfl rfl (by omega) ?_; intro w2 g2 o2 b2)
    have hg2x : W1.heap.size ≤ g2 := (OwnI.lt o2 rfl).1
    have he2 := OwnI.below he0 b2
    have hb2 := hbE.trans (b2.mono hsE)
    have o2b := OwnI.low o2 hsE
    have hg2w : w1.heap.size ≤ g2 := (OwnI.lt o2b rfl).1
    have HSEP0 : Sep (some ⟨w1.heap.size, 0, none⟩) (some ⟨g2, 0, none⟩) := by
      have h1 : w1.heap.size < W1.heap.size := (OwnI.lt he0 rfl).2
      exact sep_neW (by omega)
    clear he0 hbE b2 o2 q0
    go_loopg [9, 11] N (fun r wv iv wi => ∃ (k : Nat) (Q : Option Addr) (cq : Nat), r = N - k ∧ k ≤ N ∧ iv = .int .i64 k ∧ wv = .slice Q k cq ∧ OwnI 2 w1.heap.size wi Q k cq (List.replicate k (-1)) ∧ OwnI 3 w1.heap.size wi (some ⟨g2, 0, none⟩) N N (List.replicate N 0) ∧ Sep Q (some ⟨g2, 0, none⟩) ∧ Below w1.heap.size w1 wi)
    case atStart => exact ⟨0, _, 0, rfl, by omega, rfl, rfl, he2, o2b, HSEP0, hb2⟩
    case round =>
      clear he2 o2b HSEP0 hb2
      obtain ⟨k, Q, cq, hr, hk, rfl, rfl, o1, o2, hsep, hbw⟩ := hrel
      have HR := Lib.hid hr
      clear hr
      have q0 := (KX.out.ext hbw).cell 0
      have hszw := hbw.size
      by_cases hlt : k < N
      · have HRP := Lib.hid (show List.replicate k (-1 : Int) ++ [-1] = List.replicate (k + 1) (-1) by rw [List.replicate_succ'])
        go_wp2_with (at_builtin; (refine wp_append_int _ _ rfl _ _ _ rfl 2 w1.heap.size Try.underlying22 info64 Q k cq _ rfl o1 rfl (by omega) hszw ?_; intro g5 c5 w6 o6 u6 b6 hg6))
        rw [HRP.out] at o6
        have o2X := OwnI.sep o2 u6 hsep.symm
        have hg2r := (OwnI.lt o2 rfl).2
        have hsepX : Sep (some ⟨g5, 0, none⟩) (some ⟨g2, 0, none⟩) := sep_neW (fun e => by
          have h1 : g2 < wr.heap.size := hg2r
          rcases hg6 with ⟨ad, h2, h3⟩ | h2
          · exact hsep ad _ h2 rfl (h3.trans e)
          · omega)
        go_roundg (N - (k + 1))
        case measure => rw [HR.out]; omega
        case rel => exact ⟨k + 1, _, c5, rfl, by omega, by go_num, rfl, o6, o2X, hsepX, hbw.trans b6⟩
      · have e : N = k := by omega
        subst e
        obtain ⟨g1, rfl, hg1w, hg1r, _, _⟩ := o1.pos (by omega)
        have h12 : g1 ≠ g2 := fun e => hsep _ _ rfl rfl e
        have f1 := OwnI.free o1 F
        have c1 := OwnI.cell o1 hF
        have o1S : OwnI 2 w1.heap.size (wr.setCell ⟨g1, F, none⟩ (.int .i64 1000001)) (some ⟨g1, 0, none⟩) N cq (wideR xs N F 0).W := OwnI.set o1 F 1000001
        have o2S : OwnI 3 w1.heap.size (wr.setCell ⟨g1, F, none⟩ (.int .i64 1000001)) (some ⟨g2, 0, none⟩) N N (wideR xs N F 0).B := OwnI.far o2 (p := ⟨g1, F, none⟩) (fun ad ha => by injection ha with ha; subst ha; exact fun e => h12 e.symm) (.int .i64 1000001)
        have bS := hbw.setCell (p := ⟨g1, F, none⟩) hg1w (.int .i64 1000001)
        have HC0 := Lib.hid (show (wideR xs N F 0).T.count 0 + 0 = N by simp [wideR, wide0])
        have v1' : (F : Int) < (N : Int) := by omega
        have q9 := (KX.out.ext bS).cell 0
        clear o1 o2 hbw hsep
        generalize (List.replicate N (-1 : Int)).getD F 0 = z at *
        obtain ⟨wm, rfl⟩ : ∃ wm : World, wm = wr := ⟨_, rfl⟩
        go_upto_region 10 with (fail)
        generalize wm.setCell ⟨g1, F, none⟩ (.int .i64 1000001) = W2 at *
        clear f1 c1
        go_upto_region 11 with (at_make; (refine wpList_make_full _ rfl _ _ 53 rfl W2.heap.size 4 j0 _ 1 Try.underlying53 hj0 hw0 hw1 .i64 .i64 _ _ N rfl rfl rfl rfl (by rw [hw2]; omega) (by simp [maxLen]; omega) (Nat.le_refl _) ?_; intro w4 o4 gr4))
        have b4 : Below W2.heap.size W2 w4 := Upd.ext ((Upd.refl _ _).grown gr4 (by intro k hk; cases hk))
        have hsW2 := bS.size
        have o3S : OwnC 4 w1.heap.size 1 w4 (some ⟨W2.heap.size, 0, none⟩) N N (setB (wideR xs N F 0).T) := by
          have hh := OwnC.low (show OwnC 4 W2.heap.size 1 w4 (some ⟨W2.heap.size, 0, none⟩) N N (madeCells (Value.bool false).cells (N * 1)).toList from o4) hsW2
          rw [HZ2.out, ← setB_zero] at hh
          exact hh
        have hg1W := (OwnI.lt o1S rfl).2
        have hg2W := (OwnI.lt o2S rfl).2
        have o1S := OwnI.below o1S b4
        have o2S := OwnI.below o2S b4
        have bS := bS.trans (b4.mono hsW2)
        have h13 : g1 ≠ W2.heap.size := by have : g1 < W2.heap.size := hg1W; omega
        have h23 : g2 ≠ W2.heap.size := by have : g2 < W2.heap.size := hg2W; omega
        have hg3w : w1.heap.size ≤ W2.heap.size := hsW2
        clear o4 gr4 b4 q9 hg1W hg2W hsW2
        generalize W2.heap.size = g3 at *
        go_loopg [13] N (fun r v13 wi => ∃ (k : Nat) (u13 : Value), r = N - k ∧ k ≤ N ∧ v13 = u13 ∧ OwnI 2 w1.heap.size wi (some ⟨g1, 0, none⟩) N cq (wideR xs N F k).W ∧ OwnI 3 w1.heap.size wi (some ⟨g2, 0, none⟩) N N (wideR xs N F k).B ∧ OwnC 4 w1.heap.size 1 wi (some ⟨g3, 0, none⟩) N N (setB (wideR xs N F k).T) ∧ Below w1.heap.size w1 wi ∧ Hid ((wideR xs N F k).T.count 0 + k = N))
        case atStart => exact ⟨0, _, rfl, by omega, rfl, o1S, o2S, o3S, bS, HC0⟩
        case round =>
          clear o1S o2S o3S bS HC0
          obtain ⟨k, u13, hr, hk, rfl, o1, o2, o3, hbw, HCN⟩ := hrel
          have HR := Lib.hid hr
          clear hr
          have hOK := wideR_ok HNO.out hF k
          have HPK := Lib.hid (fun i => pick_ok (s := wideR xs N F k) i)
          have HCT := Lib.hid (fun hp => wideR_count HNO.out hF HCN.out hp)
          have HST := Lib.hid (fun hp => wideR_stay (xs := xs) (N := N) (F := F) (k := k) hp (N - k))
          rw [show k + (N - k) = N by omega] at HST
          have HWY := Lib.hid (fun hp h0 => way_all HNO.out hF hk hp ht h0)
          have HNX := Lib.hid (fun hp => (show wideR xs N F (k + 1) = wideTo xs (pickTo (wideR xs N F k) N).toNat { wideR xs N F k with T := (wideR xs N F k).T.set (pickTo (wideR xs N F k) N).toNat (k + 1) } xs.length from if_neg hp))
          have HOK := Lib.hid hOK
          clear hOK
          generalize hs0 : wideR xs N F k = s at *
          have HS0 := Lib.hid hs0
          clear hs0
          obtain ⟨wo, rfl⟩ : ∃ wo : World, wo = wr := ⟨_, rfl⟩
          go_wp2_with fail
          go_loopg [13, 47] N (fun r pv iv wi => ∃ (i : Nat), r = N - i ∧ i ≤ N ∧ iv = .int .i64 i ∧ pv = .int .i64 (pickTo s i) ∧ OwnI 2 w1.heap.size wi (some ⟨g1, 0, none⟩) N cq s.W ∧ OwnI 3 w1.heap.size wi (some ⟨g2, 0, none⟩) N N s.B ∧ OwnC 4 w1.heap.size 1 wi (some ⟨g3, 0, none⟩) N N (setB s.T) ∧ Below w1.heap.size w1 wi)
          case atStart => exact ⟨0, rfl, by omega, rfl, rfl, o1, o2, o3, hbw⟩
          case round =>
            clear o1 o2 o3 hbw
            obtain ⟨i, hr, hi, rfl, rfl, o1, o2, o3, hbw⟩ := hrel
            have HRI := Lib.hid hr
            clear hr
            by_cases hlt : i < N
            · have c1 := OwnI.cell o1 hlt
              have c3 := OwnC.cell o3 (j := i) (by omega)
              rw [setB_get HOK.out.tl hlt] at c3
              have hw := HOK.out.hw i hlt
              have v1 : (i : Int) < (N : Int) := by omega
              by_cases hT : s.T.getD i 0 = 0
              · rw [decide_eq_false (show ¬ s.T.getD i 0 ≠ 0 from fun h => h hT)] at c3
                by_cases h0 : 0 ≤ s.W.getD i 0
                · have d0 : (s.W.getD i 0 != -1) = true := by rw [bne_iff_ne]; omega
                  rcases HPK.out i with hp | ⟨v, p1, p2, p3, p4, p5⟩
                  · have HE := Lib.hid (pick_take hT h0 (.inl (by rw [hp]; omega)))
                    rw [hp]
                    clear hp hT hw
                    generalize s.W.getD i 0 = wi at *
                    go_wp2_with fail
                    go_quiet (fail)
                    go_wp2_with fail
                    go_roundg (N - (i + 1))
                    case measure => rw [HRI.out]; omega
                    case rel => exact ⟨i + 1, rfl, by omega, by go_num, by rw [HE.out], OwnI.drewN o1 _, OwnI.drewN o2 _, OwnC.drewN o3 _, below_drewN hbw _⟩
                  · have cv := OwnI.cell o1 (show v < N by omega)
                    have v2 : (v : Int) < (N : Int) := by omega
                    have v3 : 0 ≤ (v : Int) := by omega
                    have d1 : decide ((v : Int) < 0) = false := decide_eq_false (by omega)
                    by_cases hgt : s.W.getD v 0 < s.W.getD i 0
                    · have HE := Lib.hid (pick_take hT h0 (.inr (by rw [p1, Int.toNat_natCast]; exact hgt)))
                      rw [p1]
                      clear p1 hT p5 p3 p4 hw
                      generalize s.W.getD v 0 = wv at *
                      generalize s.W.getD i 0 = wi at *
                      have d2 : decide (wi > wv) = true := decide_eq_true hgt
                      go_wp2_with fail
                      go_quiet (fail)
                      go_wp2_with fail
                      go_roundg (N - (i + 1))
                      case measure => rw [HRI.out]; omega
                      case rel => exact ⟨i + 1, rfl, by omega, by go_num, by rw [HE.out], OwnI.drewN o1 _, OwnI.drewN o2 _, OwnC.drewN o3 _, below_drewN hbw _⟩
                    · have HE := Lib.hid ((pick_skip3 (by rw [p1]; omega) (by rw [p1, Int.toNat_natCast]; exact hgt)).trans p1)
                      rw [p1]
                      clear p1 hT p5 p3 p4 hw
                      generalize s.W.getD v 0 = wv at *
                      generalize s.W.getD i 0 = wi at *
                      have d2 : decide (wi > wv) = false := decide_eq_false hgt
                      go_wp2_with fail
                      go_quiet (fail)
                      go_wp2_with fail
                      go_roundg (N - (i + 1))
                      case measure => rw [HRI.out]; omega
                      case rel => exact ⟨i + 1, rfl, by omega, by go_num, by rw [HE.out], OwnI.drewN o1 _, OwnI.drewN o2 _, OwnC.drewN o3 _, below_drewN hbw _⟩
                · have HE := Lib.hid (pick_skip2 h0)
                  have hm1 : s.W.getD i 0 = -1 := by omega
                  have d0 : (s.W.getD i 0 != -1) = false := by rw [hm1]; rfl
                  rw [hm1] at c1
                  clear hT hw h0
                  rw [hm1] at d0
                  clear hm1
                  generalize pickTo s i = pv at *
                  go_wp2_with fail
                  go_quiet (fail)
                  go_wp2_with fail
                  go_roundg (N - (i + 1))
                  case measure => rw [HRI.out]; omega
                  case rel => exact ⟨i + 1, rfl, by omega, by go_num, by rw [HE.out], OwnI.drewN o1 _, OwnI.drewN o2 _, OwnC.drewN o3 _, below_drewN hbw _⟩
              · have HE := Lib.hid (pick_skip1 hT)
                rw [decide_eq_true hT] at c3
                clear hT hw
                generalize s.W.getD i 0 = wi at *
                generalize pickTo s i = pv at *
                go_wp2_with fail
                go_quiet (fail)
                go_wp2_with fail
                go_roundg (N - (i + 1))
                case measure => rw [HRI.out]; omega
                case rel => exact ⟨i + 1, rfl, by omega, by go_num, by rw [HE.out], OwnI.drewN o1 _, OwnI.drewN o2 _, OwnC.drewN o3 _, below_drewN hbw _⟩
            · have e : N = i := by omega
              subst e
              rcases HPK.out N with hp | ⟨v, p1, p2, p3, p4, p5⟩
              · have HST2 := Lib.hid (HST.out (by rw [hp]; omega))
                rw [hp]
                have ct := OwnI.cell o1 ht
                have v1 : (t : Int) < (N : Int) := by omega
                have HS2 := Lib.hid (show wideB N xs F t = decide (0 ≤ s.W.getD t 0) from by rw [HS.out, HST2.out])
                have hwt0 := HOK.out.hw t ht
                by_cases h0 : 0 ≤ s.W.getD t 0
                · have HS3 := Lib.hid (show wideB N xs F t = true from HS2.out.trans (decide_eq_true h0))
                  have hV1 := HV.out.trans (if_pos HS3.out)
                  obtain ⟨p, hwy⟩ := HWY.out (by omega) h0
                  have hwy2 : WayOk xs N F t (wideR xs N F N) p := by rw [HST2.out]; exact hwy
                  rw [wayP_ok hwy2, HST2.out] at hV1
                  have HV2 := Lib.hid hV1
                  have hpN := hwy.le
                  have HAT := Lib.hid hwy.at_
                  have HNE := Lib.hid hwy.ne
                  have d0 : (s.W.getD t 0 == -1) = false := by rw [beq_eq_false_iff_ne]; omega
                  have HOW := Lib.hid o1
                  clear hp hV1 hwy hwy2 HWY HPK HCT HST HNX HOK hwt0
                  generalize hwt : s.W.getD t 0 = wt at *
                  have HWT := Lib.hid hwt
                  clear hwt
                  have he8 : OwnI 2 wr.heap.size (wr.alloc (.cells #[] 2)) (some ⟨wr.heap.size, 0, none⟩) 0 0 (wback xs s t 0) := World.ownsRow_lit (e := 2) (base := wr.heap.size) (size := 1) wr #[] 0 (Nat.le_refl _) (Nat.zero_le _) rfl
                  have hb8 := (Below.refl wr.heap.size wr).alloc (Nat.le_refl _) (.cells #[] 2)
                  obtain ⟨wz, rfl⟩ : ∃ wz : World, wz = wr := ⟨_, rfl⟩
                  go_wp2_with fail
                  generalize wz.alloc (.cells #[] 2) = W8 at *
                  go_loopg [18, 19] p (fun r bv av wi => ∃ (j : Nat) (Q : Option Addr) (cq : Nat), r = p - j ∧ j ≤ p ∧ bv = .slice Q j cq ∧ av = .int .i64 ((wchain xs s t j : Nat) : Int) ∧ OwnI 2 wz.heap.size wi Q j cq (wback xs s t j) ∧ Below wz.heap.size wz wi)
                  case atStart => exact ⟨0, _, 0, rfl, by omega, rfl, rfl, he8, hb8⟩
                  case round =>
                    clear he8 hb8
                    obtain ⟨j, Q, cq', hr, hj, rfl, rfl, oq, hbz⟩ := hrel
                    have HR2 := Lib.hid hr
                    clear hr
                    have hszz := hbz.size
                    by_cases hlj : j < p
                    · obtain ⟨n1, n2, bb, n3, n4, n5, _⟩ := HNE.out j hlj
                      have HBK := Lib.hid (wback_succ xs s t j)
                      have cb := OwnI.cell (OwnI.below o2 hbz) n2
                      rw [n3] at cb HBK
                      have HN5 := Lib.hid n5
                      have HN3 := Lib.hid n3
                      generalize hy2 : wchain xs s t (j + 1) = y2 at *
                      have HY2 := Lib.hid hy2
                      clear hy2
                      generalize wchain xs s t j = y at *
                      have hfb : ((y : Int) != (F : Int)) = true := by rw [bne_iff_ne]; omega
                      have v2 : (y : Int) < (N : Int) := by omega
                      have v3 : (bb : Int) < (n : Int) := by have := HX.out; omega
                      clear n3 n5 n1
                      have hjn : j + 1 ≤ 16 := by omega
                      go_upto_region 34 with (at_builtin; (refine wp_append_int _ _ rfl _ _ _ rfl 2 wz.heap.size Try.underlying22 info64 Q j cq' _ rfl oq rfl (by omega) hszz ?_; intro g5 c5 w6 o6 u6 b6 hg6))
                      have hb6 := hbz.trans b6
                      have q1 := ((KX.out.ext hbw).ext hb6).cell 1
                      have HB6 := Lib.hid hb6
                      obtain ⟨ad6, hA6, had6, c6, _⟩ := (((HARCS.out.below e1).below hbw).below hb6).at_ (show bb < n by rw [← HX.out]; exact n4)
                      subst hA6
                      rw [HN5.out] at c6
                      have cb6 := OwnI.cell (OwnI.below o2 hb6) n2
                      rw [HN3.out] at cb6
                      have HO6 := Lib.hid o6
                      clear cb hb6 o6 u6 b6 hg6 oq hbz
                      go_quiet (fail)
                      go_wp2_with fail
                      go_roundg (p - (j + 1))
                      case measure => rw [HR2.out]; omega
                      case rel => exact ⟨j + 1, _, c5, rfl, by omega, rfl, by rw [HY2.out], by rw [HBK.out]; exact OwnI.drewN HO6.out _, below_drewN HB6.out _⟩
                    · have e : p = j := by omega
                      subst e
                      rw [HAT.out]
                      have hfb : ((F : Int) != (F : Int)) = false := by simp
                      have he9 : OwnI 2 wr.heap.size (wr.alloc (.cells #[] 2)) (some ⟨wr.heap.size, 0, none⟩) 0 0 ((wback xs s t p).reverse.take 0) := World.ownsRow_lit (e := 2) (base := wr.heap.size) (size := 1) wr #[] 0 (Nat.le_refl _) (Nat.zero_le _) rfl
                      have hb9 := (Below.refl wr.heap.size wr).alloc (Nat.le_refl _) (.cells #[] 2)
                      have HLB := Lib.hid (wback_len xs s t p)
                      obtain ⟨wy, rfl⟩ : ∃ wy : World, wy = wr := ⟨_, rfl⟩
                      go_wp2_with fail
                      generalize wy.alloc (.cells #[] 2) = W9 at *
                      go_loopg [20, 21] p (fun r ov iv wi => ∃ (k : Nat) (Q5 : Option Addr) (c5 : Nat), r = p - k ∧ k ≤ p ∧ ov = .slice Q5 k c5 ∧ iv = .int .i64 (((p - k : Nat) : Int) - 1) ∧ OwnI 2 wy.heap.size wi Q5 k c5 ((wback xs s t p).reverse.take k) ∧ Below wy.heap.size wy wi)
                      case atStart => exact ⟨0, _, 0, rfl, by omega, rfl, by simp, he9, hb9⟩
                      case round =>
                        clear he9 hb9
                        obtain ⟨k2, Q5, c5, hr, hk2, rfl, rfl, o5, hb5⟩ := hrel
                        have HR5 := Lib.hid hr
                        clear hr
                        have hsz5 := hb5.size
                        by_cases hlk : k2 < p
                        · obtain ⟨u, hu⟩ : ∃ u, p - k2 = u + 1 := ⟨p - k2 - 1, by omega⟩
                          have HLS5 := Lib.hid (show (wback xs s t p).reverse.take (k2 + 1) = (wback xs s t p).reverse.take k2 ++ [(wback xs s t p).getD u 0] from by
                            rw [rev_snoc HLB.out hlk, show p - 1 - k2 = u by omega])
                          have HT := Lib.hid (show p - (k2 + 1) = u by omega)
                          have htp : u < p := by omega
                          rw [hu, show (((u + 1 : Nat) : Int) - 1) = (u : Int) by omega]
                          clear hu
                          obtain ⟨qd, rfl, _, hcu⟩ := (OwnI.ints (OwnI.below oq hb5)).at_ (k := u) (by omega)
                          generalize (wback xs s t p).getD u 0 = z at *
                          have v7 : (u : Int) < (p : Int) := by omega
                          have v8 : IntKind.i64.wrap ((u : Int) - 1) = (u : Int) - 1 := IntWalk.i64_in _ (by omega)
                          have v9 : decide ((u : Int) ≥ 0) = true := decide_eq_true (by omega)
                          go_wp2_with (at_builtin; refine wp_append_int _ _ rfl _ _ _ rfl 2 wy.heap.size Try.underlying22 info64 Q5 k2 c5 _ rfl o5 rfl (by omega) hsz5 ?_; intro g9 c9' w9 o9 u9 b9 hg9)
                          go_roundg (p - (k2 + 1))
                          case measure => rw [HR5.out]; omega
                          case rel => exact ⟨k2 + 1, _, c9', rfl, by omega, rfl, by rw [HT.out], by rw [HLS5.out]; exact o9, hb5.trans b9⟩
                        · have e7 : p = k2 := by omega
                          subst e7
                          rw [Nat.sub_self, List.take_of_length_le (by rw [List.length_reverse, HLB.out]; exact Nat.le_refl _)] at *
                          have ct9 := OwnI.cell (OwnI.below (OwnI.below HOW.out hbz) hb5) ht
                          rw [HWT.out] at ct9
                          have hle : w.heap.size ≤ wy.heap.size := by have := hbw.size; have := e1.size; have := hW.size; omega
                          have hbF := hbw.trans ((hbz.trans (hb5.mono hbz.size)).mono hbw.size)
                          clear oq hbz hb5 ct
                          go_wp2_with fail
                          go_quiet (fail)
                          go_wp2_with fail
                          go_ret3
                          exact ⟨Q5, p, c5, ret_LIBw (by rw [HV2.out]) HS3.out.symm, by rw [HV2.out]; exact OwnI.drewN (OwnI.low o5 hle) _, below_drewN (below_ext hW hW.size (below_ext e1 e1.size hbF)) _⟩
                · have HS3 := Lib.hid (show wideB N xs F t = false from HS2.out.trans (decide_eq_false h0))
                  have HV2 := Lib.hid (show wideV N xs F t = ([], 0) from HV.out.trans (if_neg (by rw [HS3.out]; decide)))
                  have hm1 : s.W.getD t 0 = -1 := by omega
                  rw [hm1] at ct
                  clear hp hm1 h0 hwt0
                  go_wp2_with fail
                  go_ret3
                  exact ⟨none, 0, 0, ret_LIBw (by rw [HV2.out]) HS3.out.symm, by rw [HV2.out]; exact OwnI.nil_ _ _ _, below_ext hW hW.size (ext_trans e1 hbw)⟩
              · have hnp : ¬ pickTo s N < 0 := by rw [p1]; omega
                obtain ⟨hkN, hcn⟩ := HCT.out (by omega)
                have HCN2 := Lib.hid hcn
                have hnx := HNX.out (by omega)
                rw [p1, Int.toNat_natCast] at hnx
                have HNX2 := Lib.hid hnx
                rw [p1]
                have hpos : ¬ (v : Int) < 0 := by omega
                have f3 := OwnC.free o3 v
                have c3 := OwnC.cell o3 (j := v) (by omega)
                rw [setB_get HOK.out.tl p2] at c3
                have o3S := OwnC.set o3 v (.bool true)
                rw [setB_set (k := k)] at o3S
                have o1S := OwnI.far o1 (p := ⟨g3, v, none⟩) (fun ad ha => by injection ha with ha; subst ha; exact h13) (.bool true)
                have o2S := OwnI.far o2 (p := ⟨g3, v, none⟩) (fun ad ha => by injection ha with ha; subst ha; exact h23) (.bool true)
                have bS := hbw.setCell (p := ⟨g3, v, none⟩) hg3w (.bool true)
                obtain ⟨s1, s2, s3⟩ := settle_ok HOK.out p2 p3 p4 p5
                have HTO := Lib.hid (fun j hj => wideTo_ok HNO.out p2 hF s1 s2 s3 j hj)
                have v1 : (v : Int) < (N : Int) := by omega
                clear hnp hcn hnx p1 p3 p4 p5 s1 s2 s3 o1 o2 o3
                obtain ⟨wk, rfl⟩ : ∃ wk : World, wk = wr := ⟨_, rfl⟩
                go_upto_region 20 with (fail)
                have q1 := (KX.out.ext bS).cell 1
                generalize wk.setCell ⟨g3, v, none⟩ (.bool true) = W3 at *
                clear f3 c3
                generalize hs1 : ({ s with T := s.T.set v (k + 1) } : WideS) = z at *
                have HZW := Lib.hid (show s.W = (wideTo xs v z 0).W by rw [← hs1]; rfl)
                have HZB := Lib.hid (show s.B = (wideTo xs v z 0).B by rw [← hs1]; rfl)
                have HZT := Lib.hid (show s.T.set v (k + 1) = (wideTo xs v z 0).T by rw [← hs1]; rfl)
                clear hs1
                rw [HZW.out] at o1S
                rw [HZB.out] at o2S
                rw [HZT.out] at o3S
                go_wp2_with fail
                clear q1
                go_loopg [87] n (fun r iv wi => ∃ (j : Nat), r = n - j ∧ j ≤ n ∧ iv = .int .i64 j ∧ OwnI 2 w1.heap.size wi (some ⟨g1, 0, none⟩) N cq (wideTo xs v z j).W ∧ OwnI 3 w1.heap.size wi (some ⟨g2, 0, none⟩) N N (wideTo xs v z j).B ∧ OwnC 4 w1.heap.size 1 wi (some ⟨g3, 0, none⟩) N N (setB (wideTo xs v z j).T) ∧ Below w1.heap.size w1 wi)
                case atStart => exact ⟨0, rfl, by omega, rfl, o1S, o2S, o3S, bS⟩
                case round =>
                  clear o1S o2S o3S bS hbw
                  obtain ⟨j, hr, hj, rfl, o1, o2, o3, hbw⟩ := hrel
                  have HR2 := Lib.hid hr
                  clear hr
                  by_cases hlj : j < n
                  · obtain ⟨ad, rfl, had, c0, c1, c2, c3⟩ := ((HARCS.out.below e1).below hbw).at_ hlj
                    have HAC := Lib.hid (fun (W : World) (hW' : Below w1.heap.size w1 W) => (show ArcCells W (ad.add (j * 4)) (xs.getD j default) from by
                      obtain ⟨ad', hA', _, hc⟩ := ((HARCS.out.below e1).below hW').at_ hlj
                      injection hA' with hA'
                      subst hA'
                      exact hc))
                    obtain ⟨⟨a0, a1⟩, ⟨b0, b1⟩, r0, r1⟩ := HNO.out j (by rw [HX.out]; exact hlj)
                    have HOKj := (HTO.out j (by rw [HX.out]; omega)).1
                    have HN1 := Lib.hid (fun hh => (show wideTo xs v z (j + 1) = wideTo xs v z j from wide_no1 hh))
                    have HN2 := Lib.hid (fun hh => (show wideTo xs v z (j + 1) = wideTo xs v z j from wide_no2 hh))
                    have HN3 := Lib.hid (fun h1 h2 => (show wideTo xs v z (j + 1) = _ from wide_yes (xs := xs) (u := v) (j := j) (s := wideTo xs v z j) h1 h2))
                    generalize xs.getD j default = x at *
                    obtain ⟨af, at_, ar, aq⟩ := x
                    have a0' : 0 ≤ af := a0
                    have a1' : af < N := a1
                    have b0' : 0 ≤ at_ := b0
                    have b1' : at_ < N := b1
                    have r0' : 0 ≤ ar := r0
                    have r1' : ar ≤ 1000000 := r1
                    clear a0 a1 b0 b1 r0 r1
                    obtain ⟨y, rfl⟩ := Int.eq_ofNat_of_zero_le b0'
                    have hyN : y < N := by omega
                    have hwb := HOKj.hw v p2
                    generalize wideTo xs v z j = q at *
                    have q1 := (KX.out.ext hbw).cell 1
                    have v4 : (y : Int) < (N : Int) := by omega
                    have v5 : 0 ≤ (y : Int) := by omega
                    go_upto_region 24 with (fail)
                    clear q1
                    have cu := OwnI.cell o1 p2
                    have cy := OwnI.cell o1 hyN
                    have fy := OwnI.free o1 y
                    obtain ⟨mm, hmm⟩ : ∃ mm, min (q.W.getD v 0) ar = mm := ⟨_, rfl⟩
                    rw [hmm] at HN2 HN3
                    have HN2' := Lib.hid (fun (hh : ¬ q.W.getD y 0 < mm) => HN2.out hh)
                    have HN3' := Lib.hid (fun (h1 : af = (v : Int)) (hh : q.W.getD y 0 < mm) => (show wideTo xs v z (j + 1) = ⟨q.W.set y mm, q.B.set y j, q.T⟩ from HN3.out h1 hh))
                    clear HN2 HN3
                    have HMM := Lib.hid hmm
                    have hmb : mm ≤ 1000000 := by omega
                    have hmb2 : -1 ≤ mm := by omega
                    clear hmm
                    generalize q.W.getD v 0 = wu at *
                    generalize q.W.getD y 0 = wy at *
                    generalize ad.add (j * 4) = pd at *
                    have HMQ := Lib.hid (fun (W : World) (m : Nat) => (show Calls Try.prog 44 #[.int .i64 wu, .int .i64 ar] (W.drewN m) fun e w'' => e = .returned (.int .i64 mm) ∧ ∃ q, w'' = W.drewN q from by
                      rw [← HMM.out]; exact quiet_here (l00MinP_any wu ar _)))
                    go_quiet ((go_at_call 44; exact HMQ.out _ _))
                    have c0D : (wr.drewN nq).cell? pd = some (.int .i64 af) := c0
                    have c1D : (wr.drewN nq).cell? ⟨pd.block, pd.off + 1, none⟩ = some (.int .i64 y) := c1
                    have cyD : (wr.drewN nq).cell? ⟨g1, y, none⟩ = some (.int .i64 wy) := cy
                    have fyD : (wr.drewN nq).frozen? ⟨g1, y, none⟩ = false := fy
                    have o1D := OwnI.drewN o1 nq
                    have o2D := OwnI.drewN o2 nq
                    have o3D := OwnC.drewN o3 nq
                    have bD := below_drewN hbw nq
                    clear c0 c1 c2 c3 cu cy fy o1 o2 o3 hbw hwb had
                    generalize wr.drewN nq = W5 at *
                    by_cases hfr : af = (v : Int)
                    · have d1 : (af == (v : Int)) = true := by rw [hfr]; exact beq_self_eq_true _
                      by_cases hgt : wy < mm
                      · have HE := Lib.hid (HN3'.out hfr hgt)
                        have o1S := OwnI.set o1D y mm
                        have o2S := OwnI.far o2D (p := ⟨g1, y, none⟩) (fun ad ha => by injection ha with ha; subst ha; exact fun e => h12 e.symm) (.int .i64 mm)
                        have o3S := OwnC.far o3D (p := ⟨g1, y, none⟩) (fun ad ha => by injection ha with ha; subst ha; exact fun e => h13 e.symm) (.int .i64 mm)
                        have bS := bD.setCell (p := ⟨g1, y, none⟩) hg1w (.int .i64 mm)
                        clear o1D o2D o3D bD hfr
                        go_upto_region 27 with (fail)
                        generalize W5.setCell ⟨g1, y, none⟩ (.int .i64 mm) = W6 at *
                        clear c0D c1D cyD fyD
                        have cx := (HAC.out W6 bS).2.1
                        have fB := OwnI.free o2S y
                        have cB := OwnI.cell o2S hyN
                        have o1T := OwnI.far o1S (p := ⟨g2, y, none⟩) (fun ad ha => by injection ha with ha; subst ha; exact h12) (.int .i64 j)
                        have o2T := OwnI.set o2S y (j : Int)
                        have o3T := OwnC.far o3S (p := ⟨g2, y, none⟩) (fun ad ha => by injection ha with ha; subst ha; exact fun e => h23 e.symm) (.int .i64 j)
                        have bT := bS.setCell (p := ⟨g2, y, none⟩) hg2w (.int .i64 j)
                        clear o1S o2S o3S bS
                        go_wp2_with fail
                        go_roundg (n - (j + 1))
                        case measure => rw [HR2.out]; omega
                        case rel => exact ⟨j + 1, rfl, by omega, by go_num, by rw [HE.out]; exact o1T, by rw [HE.out]; exact o2T, by rw [HE.out]; exact o3T, bT⟩
                      · have HE := Lib.hid (HN2'.out hgt)
                        clear hfr
                        go_wp2_with fail
                        go_roundg (n - (j + 1))
                        case measure => rw [HR2.out]; omega
                        case rel => exact ⟨j + 1, rfl, by omega, by go_num, by rw [HE.out]; exact o1D, by rw [HE.out]; exact o2D, by rw [HE.out]; exact o3D, bD⟩
                    · have d1 : (af == (v : Int)) = false := beq_eq_false_iff_ne.2 hfr
                      have HE := Lib.hid (HN1.out hfr)
                      clear hfr
                      go_wp2_with fail
                      go_roundg (n - (j + 1))
                      case measure => rw [HR2.out]; omega
                      case rel => exact ⟨j + 1, rfl, by omega, by go_num, by rw [HE.out]; exact o1D, by rw [HE.out]; exact o2D, by rw [HE.out]; exact o3D, bD⟩
                  · have e : n = j := by omega
                    subst e
                    have HNX3 := Lib.hid (HNX2.out.trans (by rw [HX.out]))
                    go_wp2_with fail
                    go_roundg (N - (k + 1))
                    case measure => rw [HR.out]; omega
                    case rel => exact ⟨k + 1, _, rfl, hkN, rfl, by rw [HNX3.out]; exact o1, by rw [HNX3.out]; exact o2, by rw [HNX3.out]; exact o3, hbw, HCN2⟩
end Go.Proofs.Ytjbmcdnnnkfhgaa
