/- CoverSides of the program: the walk. -/
import Derived.Test.YtfoelpmglmaamaaCovSPlain
import Derived.Test.YtfoelpmglmaamaaTwo
namespace Go.Proofs.Ytfoelpmglmaamaa
open Go.RowKit

theorem covOne_q {ps O : List Int} {u : Int} {j k : Nat} {s : CovS} (hk : k < s.q.length) : (covOne ps O u j s).q.getD k 0 = s.q.getD k 0 ∧ s.q.length ≤ (covOne ps O u j s).q.length := by
  unfold covOne
  split
  · split
    · refine ⟨?_, by show s.q.length ≤ (s.q ++ [_]).length; simp⟩
      show (s.q ++ [_]).getD k 0 = _
      simp [List.getD, List.getElem?_append_left hk]
    · exact ⟨rfl, Nat.le_refl _⟩
  · exact ⟨rfl, Nat.le_refl _⟩
theorem covTo_q {ps O : List Int} {u : Int} {k : Nat} {s : CovS} (hk : k < s.q.length) : ∀ j, (covTo ps O u s j).q.getD k 0 = s.q.getD k 0 ∧ s.q.length ≤ (covTo ps O u s j).q.length
  | 0 => ⟨rfl, Nat.le_refl _⟩
  | j + 1 => by
    obtain ⟨h1, h2⟩ := covTo_q (ps := ps) (O := O) (u := u) hk j
    obtain ⟨h3, h4⟩ := covOne_q (ps := ps) (O := O) (u := u) (j := j) (k := k) (s := covTo ps O u s j) (by omega)
    exact ⟨h3.trans h1, by show s.q.length ≤ (covOne ps O u j (covTo ps O u s j)).q.length; omega⟩
theorem count_le' (ks : List Bool) : ks.count false ≤ ks.length := List.count_le_length

set_option maxRecDepth 100000 in
theorem setOfB_any (base g N : Nat) (bs : List Bool) (w : World) (hN : N ≤ 1000) (hl : bs.length = N) (hown : OwnC 4 base 1 w (some ⟨g, 0, none⟩) N N (bs.map Value.bool)) :
    Calls Try.prog 30 #[.slice (some ⟨g, 0, none⟩) N N] w (RetI 2 (setTo bs N) w) := by
  have HL := Lib.hid hl
  clear hl
  go_enter Try.func30, Try.ntmps30
  go_wp2
  go_loopg [3, 8] N (fun r ov iv wr => ∃ (k : Nat) (A : Option Addr) (n c : Nat), r = N - k ∧ k ≤ N ∧ iv = .int .i64 k ∧ ov = .slice A n c ∧ n ≤ k ∧ OwnI 2 w.heap.size wr A n c (setTo bs k) ∧ Below w.heap.size w wr)
  case atStart => exact ⟨0, none, 0, 0, rfl, by omega, rfl, rfl, by omega, OwnI.nil_ _ _ _, Below.refl _ _⟩
  case round =>
    obtain ⟨k, A, n, c, hr, hk, rfl, rfl, hn, o, hb⟩ := hrel
    have HR := Lib.hid hr
    clear hr
    by_cases hlt : k < N
    · have hc := OwnC.cell (OwnC.below hown hb) (j := k) (by omega)
      rw [boolsM_get HL.out hlt] at hc
      have HS := Lib.hid (setTo_succ bs k)
      have hsz := hb.size
      cases hbv : bs.getD k false
      · rw [hbv] at hc
        have HE := Lib.hid (show setTo bs (k + 1) = setTo bs k by rw [HS.out, hbv]; rfl)
        clear hbv
        go_wp2
        go_roundg (N - (k + 1))
        case measure => rw [HR.out]; omega
        case rel => exact ⟨k + 1, A, n, c, rfl, by omega, by go_num, rfl, by omega, by rw [HE.out]; exact o, hb⟩
      · rw [hbv] at hc
        have HE := Lib.hid (show setTo bs (k + 1) = setTo bs k ++ [(k : Int)] by rw [HS.out, hbv]; rfl)
        clear hbv
        go_wp2_with (at_builtin; refine wp_append_int _ _ rfl _ _ _ rfl 2 w.heap.size Try.underlying25 info64 A n c _ rfl o rfl (by omega) hsz ?_; intro g5 c5 w6 o6 u6 b6 hg6)
        go_roundg (N - (k + 1))
        case measure => rw [HR.out]; omega
        case rel => exact ⟨k + 1, _, n + 1, c5, rfl, by omega, by go_num, rfl, by omega, by rw [HE.out]; exact o6, hb.trans b6⟩
    · have e : k = N := by omega
      subst e
      go_wp2
      go_ret
      exact ⟨A, n, c, rfl, o, hb⟩
set_option maxRecDepth 100000 in
set_option maxHeartbeats 6400000 in
theorem implCoverSides_r (l r : Int) (A : Option Addr) (n c : Nat) (ps : List Int) (w : World) (h : IntsAt w A n ps) (hn : n ≤ 1048576) :
    Calls Try.prog 13 #[.int .i64 l, .int .i64 r, .slice A n c] w (RetLLB 2 (covV l r ps).1 (covV l r ps).2 (sidesB l r ps) w) := by
  have HL := Lib.hid h.len
  cases hs : sidesB l r ps
  · have HV := Lib.hid (covV_no hs)
    go_enter Try.func13, Try.ntmps13
    go_wp2_with fail
    refine (areSides_any l r A n c ps _ h hn).mono ?_
    rw [hs]
    rintro e w1 ⟨rfl, rfl⟩
    go_wp2_with fail
    go_ret3
    exact ⟨none, 0, 0, none, 0, 0, rfl, by rw [HV.out]; exact OwnI.nil_ _ _ _, by rw [HV.out]; exact OwnI.nil_ _ _ _, sep_none, Below.refl _ _⟩
  · obtain ⟨L, R, m, rfl, rfl, l1, l2, r1, r2, hm, hm2, hps⟩ := sides_bd hs
    have HV := Lib.hid (covV_yes hs hm)
    have hnm : n = 2 * m := by rw [← HL.out]; exact hm
    have HM := Lib.hid hnm
    have HPS := Lib.hid hps
    have HC := Lib.hid (matTo_ok hps L (Nat.le_refl _)).1
    have HALL := Lib.hid (show covAll ps m L R = covR ps (matTo ps m L R L).R m (covI (matTo ps m L R L).L L R L) L from rfl)
    clear hm hps hnm
    go_enter Try.func13, Try.ntmps13
    go_wp2_with fail
    refine (areSides_any L R A n c ps _ h hn).mono ?_
    rw [hs]
    rintro e w1 ⟨rfl, rfl⟩
    clear hs
    go_wp2_with fail
    refine (matched_any L R A n c m ps _ h HM.out hm2 ⟨l1, l2⟩ ⟨r1, r2⟩ HPS.out).mono ?_
    rintro e w2 ⟨gL, gR, rfl, oL, oR, hLR, b2⟩
    generalize matTo ps m L R L = st at *
    have hp2 := h.below b2
    have hs2 := b2.size
    obtain ⟨l0, hl0, hy0, hy1, hy2⟩ := info_parts infoBM
    have hmk1 := fun (w : World) => run_make (P := Try.prog) w 29 4 l0 _ Try.underlying29 hl0 hy0 .i64 .i64 (L : Int) (L : Int) (by omega) (Int.le_refl _) (by rw [hy2]; omega) (by omega)
    have hmk2 := fun (w : World) => run_make (P := Try.prog) w 29 4 l0 _ Try.underlying29 hl0 hy0 .i64 .i64 (R : Int) (R : Int) (by omega) (Int.le_refl _) (by rw [hy2]; omega) (by omega)
    simp only [Int.toNat_natCast, hy1] at hmk1 hmk2
    have HZL := Lib.hid (boolsM_rep L)
    have HZR := Lib.hid (boolsM_rep R)
    generalize madeCells (Value.bool false).cells (L * 1) = ML at *
    generalize madeCells (Value.bool false).cells (R * 1) = MR at *
    go_wp2_with fail
    go_cut [11, 12] (fun s8 s9 wx => ∃ (g1 g2 : Nat), s8 = .slice (some ⟨g1, 0, none⟩) L L ∧ s9 = .slice (some ⟨g2, 0, none⟩) R R ∧ OwnC 4 w2.heap.size 1 wx (some ⟨g1, 0, none⟩) L L ((List.replicate L false).map Value.bool) ∧ OwnC 4 w2.heap.size 1 wx (some ⟨g2, 0, none⟩) R R ((List.replicate R false).map Value.bool) ∧ g1 ≠ g2 ∧ Below w2.heap.size w2 wx)
    case first =>
      have hx : ML.size = L * 1 := by have := congrArg List.length HZL.out; simpa using this
      have hy : MR.size = R * 1 := by have := congrArg List.length HZR.out; simpa using this
      have HOL := Lib.hid (fun (W' : World) => (show OwnC 4 W'.heap.size 1 (W'.alloc (.cells ML 4)) (some ⟨W'.heap.size, 0, none⟩) L L ((List.replicate L false).map Value.bool) from by
        have h := World.ownsRow_lit (e := 4) (base := W'.heap.size) (size := 1) W' ML L (Nat.le_refl _) (by unfold maxLen; omega) hx
        rw [HZL.out] at h
        exact h))
      have HOR := Lib.hid (fun (W' : World) => (show OwnC 4 W'.heap.size 1 (W'.alloc (.cells MR 4)) (some ⟨W'.heap.size, 0, none⟩) R R ((List.replicate R false).map Value.bool) from by
        have h := World.ownsRow_lit (e := 4) (base := W'.heap.size) (size := 1) W' MR R (Nat.le_refl _) (by unfold maxLen; omega) hy
        rw [HZR.out] at h
        exact h))
      have HOL2 := Lib.hid (show OwnC 4 w2.heap.size 1 ((w2.alloc (.cells MR 4)).alloc (.cells ML 4)) (some ⟨w2.heap.size + 1, 0, none⟩) L L ((List.replicate L false).map Value.bool) from by
        have h := HOL.out (w2.alloc (.cells MR 4))
        rw [World.size_alloc] at h
        exact OwnC.low h (by omega))
      have HOR2 := Lib.hid (show OwnC 4 w2.heap.size 1 ((w2.alloc (.cells ML 4)).alloc (.cells MR 4)) (some ⟨w2.heap.size + 1, 0, none⟩) R R ((List.replicate R false).map Value.bool) from by
        have h := HOR.out (w2.alloc (.cells ML 4))
        rw [World.size_alloc] at h
        exact OwnC.low h (by omega))
      clear hx hy
      go_region
      all_goals
        go_wp2_with fail
        go_meet
        first
          | exact ⟨w2.heap.size, w2.heap.size + 1, rfl, rfl, OwnC.drew (OwnC.alloc (HOL.out w2) _), OwnC.drew HOR2.out, by omega, (((Below.refl _ _).alloc (Nat.le_refl _) _).alloc (by simp) _).drew⟩
          | exact ⟨w2.heap.size + 1, w2.heap.size, rfl, rfl, OwnC.drew HOL2.out, OwnC.drew (OwnC.alloc (HOR.out w2) _), by omega, (((Below.refl _ _).alloc (Nat.le_refl _) _).alloc (by simp) _).drew⟩
    case rest =>
      obtain ⟨g1, g2, rfl, rfl, o1, o2, hg12, hbx⟩ := hcut
      have hg1w : w2.heap.size ≤ g1 := (OwnC.lt o1 rfl).1
      have hg2w : w2.heap.size ≤ g2 := (OwnC.lt o2 rfl).1
      have hgLl : gL < w2.heap.size := (OwnI.lt oL rfl).2
      have hgRl : gR < w2.heap.size := (OwnI.lt oR rfl).2
      have hq0 : OwnI 2 wc.heap.size wc none 0 0 (covI st.L L R 0).q := OwnI.nil_ _ _ _
      have hg1c : g1 < wc.heap.size := (OwnC.lt o1 rfl).2
      have hg2c : g2 < wc.heap.size := (OwnC.lt o2 rfl).2
      have HSL := Lib.hid HC.out.ll
      have HSR := Lib.hid HC.out.rl
      have HSX := Lib.hid HC.out.hr
      have hbx' := hbx.size
      clear hmk1 hmk2 HZL HZR hl0 hy0 hy1 hy2 HC
      obtain ⟨wm, rfl⟩ : ∃ wm : World, wm = wc := ⟨_, rfl⟩
      go_wp2_with fail
      go_loopg [13, 38] L (fun r qv iv wi => ∃ (k : Nat) (Q : Option Addr) (lq cq : Nat), r = L - k ∧ k ≤ L ∧ iv = .int .i64 k ∧ qv = .slice Q lq cq ∧ lq ≤ L ∧ OwnC 4 w2.heap.size 1 wi (some ⟨g1, 0, none⟩) L L ((covI st.L L R k).a.map Value.bool) ∧ OwnC 4 w2.heap.size 1 wi (some ⟨g2, 0, none⟩) R R ((covI st.L L R k).r.map Value.bool) ∧ OwnI 2 wm.heap.size wi Q lq cq (covI st.L L R k).q ∧ Below w2.heap.size w2 wi ∧ wm.heap.size ≤ wi.heap.size)
      case atStart => exact ⟨0, none, 0, 0, rfl, by omega, rfl, rfl, by omega, o1, o2, hq0, hbx, Nat.le_refl _⟩
      case round =>
        clear o1 o2 hq0 hbx
        obtain ⟨k, Q, lq, cq, hr, hk, rfl, rfl, hnq, o1, o2, oq, hbw, hszw⟩ := hrel
        have HR := Lib.hid hr
        clear hr
        by_cases hlt : k < L
        · have hCI := covI_ok (out := st.L) (L := L) (R := R) k (by omega)
          have cx := OwnI.cell (OwnI.below oL hbw) hlt
          have hcnt := count_le' (covI st.L L R k).a
          have HQ := Lib.hid (show lq < L by have h1 := oq.len; have h2 := hCI.2.2.2; have h3 := hCI.1; omega)
          have hk0 := hCI.2.2.1 k hlt
          rw [if_neg (by omega)] at hk0
          have ck := OwnC.cell o1 (j := k) (by omega)
          rw [boolsM_get hCI.1 hlt, hk0] at ck
          have f1 := OwnC.free o1 k
          have HNX := Lib.hid (show covI st.L L R (k + 1) = { covI st.L L R k with a := (covI st.L L R k).a.set k (decide (0 ≤ st.L.getD k 0)), q := if st.L.getD k 0 < 0 then (covI st.L L R k).q ++ [(k : Int)] else (covI st.L L R k).q } from rfl)
          clear hCI hcnt hk0
          generalize covI st.L L R k = s at *
          generalize st.L.getD k 0 = x at *
          by_cases hx : x < 0
          · have d1 : decide (x ≥ 0) = false := decide_eq_false (by omega)
            have HE := Lib.hid (show covI st.L L R (k + 1) = { s with a := s.a.set k false, q := s.q ++ [(k : Int)] } by rw [HNX.out, decide_eq_false (by omega), if_pos hx])
            have o1S := OwnC.set o1 k (.bool false)
            rw [← List.map_set] at o1S
            have o2S := OwnC.far o2 (p := ⟨g1, k, none⟩) (fun ad ha => by injection ha with ha; subst ha; exact fun e => hg12 e.symm) (.bool false)
            have oqS := OwnI.far oq (p := ⟨g1, k, none⟩) (fun ad ha => by have h1 := (OwnI.lt oq ha).1; show ad.block ≠ g1; omega) (.bool false)
            have bS := hbw.setCell (p := ⟨g1, k, none⟩) hg1w (.bool false)
            have hsS : wm.heap.size ≤ (wr.setCell ⟨g1, k, none⟩ (.bool false)).heap.size := by simpa [World.setCell] using hszw
            have HQ2 := HQ.out
            clear o1 o2 oq hbw
            go_upto_region 10 with (fail)
            generalize wr.setCell ⟨g1, k, none⟩ (.bool false) = W5 at *
            go_wp2_with (at_builtin; (refine wp_append_int _ _ rfl _ _ _ rfl 2 wm.heap.size Try.underlying25 info64 Q lq cq _ rfl oqS rfl (by omega) hsS ?_; intro g5 c5 w6 o6 u6 b6 hg6))
            have o1X := OwnC.upd o1S u6 (fun ad ha => by rintro ⟨bd, hb1, hb2⟩; have h1 := (OwnI.lt oqS hb1).1; injection ha with ha; subst ha; have h3 : bd.block = g1 := hb2; omega)
            have o2X := OwnC.upd o2S u6 (fun ad ha => by rintro ⟨bd, hb1, hb2⟩; have h1 := (OwnI.lt oqS hb1).1; injection ha with ha; subst ha; have h3 : bd.block = g2 := hb2; omega)
            have bX := bS.trans (b6.mono (by have := hs2; omega))
            have hsX := Nat.le_trans hsS b6.size
            go_roundg (L - (k + 1))
            case measure => rw [HR.out]; omega
            case rel => exact ⟨k + 1, _, lq + 1, c5, rfl, by omega, by go_num, rfl, by omega, by rw [HE.out]; exact o1X, by rw [HE.out]; exact o2X, by rw [HE.out]; exact o6, bX, hsX⟩
          · have d1 : decide (x ≥ 0) = true := decide_eq_true (by omega)
            have HE := Lib.hid (show covI st.L L R (k + 1) = { s with a := s.a.set k true } by rw [HNX.out, decide_eq_true (by omega), if_neg hx])
            have o1S := OwnC.set o1 k (.bool true)
            rw [← List.map_set] at o1S
            have o2S := OwnC.far o2 (p := ⟨g1, k, none⟩) (fun ad ha => by injection ha with ha; subst ha; exact fun e => hg12 e.symm) (.bool true)
            have oqS := OwnI.far oq (p := ⟨g1, k, none⟩) (fun ad ha => by have h1 := (OwnI.lt oq ha).1; show ad.block ≠ g1; omega) (.bool true)
            have bS := hbw.setCell (p := ⟨g1, k, none⟩) hg1w (.bool true)
            have hsS : wm.heap.size ≤ (wr.setCell ⟨g1, k, none⟩ (.bool true)).heap.size := by simpa [World.setCell] using hszw
            clear o1 o2 oq hbw
            go_wp2_with fail
            go_roundg (L - (k + 1))
            case measure => rw [HR.out]; omega
            case rel => exact ⟨k + 1, Q, lq, cq, rfl, by omega, by go_num, rfl, hnq, by rw [HE.out]; exact o1S, by rw [HE.out]; exact o2S, by rw [HE.out]; exact oqS, bS, hsS⟩
        · have e : L = k := by omega
          subst e
          have HCV := Lib.hid (covI_cov (out := st.L) (L := L) (R := R))
          have HO := Lib.hid (fun (j : Nat) (hj : j < m) => (show st.R.getD (pY ps j) 0 < L from by
            obtain ⟨_, b0, b1⟩ := HPS.out j hj
            rcases HSX.out (pY ps j) (by unfold pY; omega) with h1 | ⟨x, h1, h2, _⟩ <;> omega))
          have HS0 := Lib.hid (show covR ps st.R m (covI st.L L R L) 0 = covI st.L L R L from rfl)
          generalize covI st.L L R L = s0 at *
          rw [← HS0.out] at o1 o2 oq
          obtain ⟨wq, rfl⟩ : ∃ wq : World, wq = wr := ⟨_, rfl⟩
          go_wp2_with fail
          go_loopg [13, 16] L (fun r qv iv wi => ∃ (k : Nat) (Q : Option Addr) (lq cq : Nat), r = L - k ∧ k ≤ lq ∧ iv = .int .i64 k ∧ qv = .slice Q lq cq ∧ lq ≤ L ∧ OwnC 4 w2.heap.size 1 wi (some ⟨g1, 0, none⟩) L L ((covR ps st.R m s0 k).a.map Value.bool) ∧ OwnC 4 w2.heap.size 1 wi (some ⟨g2, 0, none⟩) R R ((covR ps st.R m s0 k).r.map Value.bool) ∧ OwnI 2 wm.heap.size wi Q lq cq (covR ps st.R m s0 k).q ∧ Below w2.heap.size w2 wi ∧ wm.heap.size ≤ wi.heap.size)
          case atStart => exact ⟨0, Q, lq, cq, rfl, by omega, rfl, rfl, hnq, o1, o2, oq, hbw, hszw⟩
          case round =>
            clear o1 o2 oq hbw hszw hnq
            obtain ⟨k, Q, lq, cq, hr, hk, rfl, rfl, hnq, o1, o2, oq, hbw, hszw⟩ := hrel
            have HR := Lib.hid hr
            clear hr
            by_cases hlt : k < lq
            · have hOK := covR_ok HCV.out HO.out k
              have hql := oq.len
              have HNX := Lib.hid (show covR ps st.R m s0 (k + 1) = covTo ps st.R ((covR ps st.R m s0 k).q.getD k 0) (covR ps st.R m s0 k) m by rw [covR, if_pos (by omega)])
              generalize covR ps st.R m s0 k = s at *
              have HQK := Lib.hid (fun j => covTo_q (ps := ps) (O := st.R) (u := s.q.getD k 0) (k := k) (s := s) (by omega) j)
              generalize s.q.getD k 0 = u at *
              have HTO := Lib.hid (fun j hj => covTo_ok (u := u) hOK HO.out j hj)
              have HT0 := Lib.hid (show covTo ps st.R u s 0 = s from rfl)
              rw [← HT0.out] at o1 o2 oq
              clear hOK hql
              obtain ⟨wo, rfl⟩ : ∃ wo : World, wo = wr := ⟨_, rfl⟩
              go_wp2_with fail
              go_loopg [13, 17] m (fun r qv iv wi => ∃ (j i : Nat) (Q : Option Addr) (lq cq : Nat), r = m - j ∧ j ≤ m ∧ k < lq ∧ iv = .int .i64 i ∧ qv = .slice Q lq cq ∧ lq ≤ L ∧ OwnC 4 w2.heap.size 1 wi (some ⟨g1, 0, none⟩) L L ((covTo ps st.R u s j).a.map Value.bool) ∧ OwnC 4 w2.heap.size 1 wi (some ⟨g2, 0, none⟩) R R ((covTo ps st.R u s j).r.map Value.bool) ∧ OwnI 2 wm.heap.size wi Q lq cq (covTo ps st.R u s j).q ∧ Below w2.heap.size w2 wi ∧ wm.heap.size ≤ wi.heap.size ∧ Hid (i = 2 * j))
              case atStart => exact ⟨0, 0, Q, lq, cq, rfl, by omega, hlt, rfl, rfl, hnq, o1, o2, oq, hbw, hszw, Lib.hid rfl⟩
              case round =>
                clear o1 o2 oq hbw hszw hnq hlt hk
                obtain ⟨j, i, Q, lq, cq, hr, hj, hkq, rfl, rfl, hnq, o1, o2, oq, hbw, hszw, HIJ⟩ := hrel
                have HR2 := Lib.hid hr
                clear hr
                have hij : i = 2 * j := HIJ.out
                have hnm : n = 2 * m := HM.out
                have hn96 : n ≤ 96 := by omega
                by_cases hlj : j < m
                · have hin : i + 1 < n := by omega
                  obtain ⟨ad, hA, had, c1⟩ := (hp2.below hbw).at_ (k := i) (by omega)
                  subst hA
                  obtain ⟨ad2, hA2, _, c2⟩ := (hp2.below hbw).at_ (k := i + 1) hin
                  injection hA2 with hA2
                  subst hA2
                  have c3 : wr.cell? ⟨ad.block, ad.off + (i + 1), none⟩ = some (.int .i64 (ps.getD (i + 1) 0)) := c2
                  obtain ⟨⟨a0, a1⟩, b0, b1⟩ := HPS.out j hlj
                  rw [← hij] at a0 a1 b0 b1
                  have HPX := Lib.hid (show pX ps j = ps.getD i 0 by unfold pX; rw [hij])
                  have HPY := Lib.hid (show pY ps j = (ps.getD (i + 1) 0).toNat by unfold pY; rw [hij])
                  have HOj := HO.out j hlj
                  have hOK := HTO.out j (by omega)
                  have hqk := (HQK.out j).1
                  have HN1 := Lib.hid (show covTo ps st.R u s (j + 1) = covOne ps st.R u j (covTo ps st.R u s j) from rfl)
                  have hcnt := count_le' (covTo ps st.R u s j).a
                  clear c2 hij hnm
                  generalize ps.getD i 0 = px at *
                  generalize ps.getD (i + 1) 0 = py at *
                  obtain ⟨y, rfl⟩ := Int.eq_ofNat_of_zero_le b0
                  rw [Int.toNat_natCast] at HPY
                  rw [HPY.out] at HOj
                  have hy : y < R := by omega
                  generalize covTo ps st.R u s j = t at *
                  obtain ⟨gq, rfl, hgq0, hgq1, _, _⟩ := oq.pos (by omega)
                  have cq1 := OwnI.cell oq hkq
                  rw [hqk] at cq1
                  have cr := OwnC.cell o2 (j := y) (by omega)
                  rw [boolsM_get hOK.rl hy] at cr
                  have co := OwnI.cell (OwnI.below oR hbw) hy
                  have v1 : (i : Int) + 1 < (n : Int) := by omega
                  have v2 : (y : Int) < (R : Int) := by omega
                  have v3 : 0 ≤ (y : Int) := by omega
                  have v4 : (k : Int) < (lq : Int) := by omega
                  have v5 : (i : Int) < (n : Int) := by omega
                  by_cases h1 : px = u
                  · have HPX2 := Lib.hid (HPX.out.trans h1)
                    clear HPX
                    subst h1
                    have d1 : (px != px) = false := by simp
                    cases hK : t.r.getD y false
                    · rw [hK] at cr
                      have HNO := Lib.hid (fun h3 => HN1.out.trans (one_only HPX2.out (by rw [HPY.out]; exact hK) h3))
                      have HYE := Lib.hid (fun h3 => HN1.out.trans (one_both HPX2.out (by rw [HPY.out]; exact hK) h3))
                      rw [HPY.out] at HNO HYE
                      have HOK := Lib.hid hOK
                      clear hK hqk hOK
                      go_wp2_with fail
                      go_quiet (fail)
                      have hb1 := below_drewN hbw nq
                      have o1N := OwnC.drewN o1 nq
                      have o2N := OwnC.drewN o2 nq
                      have oqN := OwnI.drewN oq nq
                      have hszN : wm.heap.size ≤ (wr.drewN nq).heap.size := hszw
                      clear hbw o1 o2 oq hszw c1 c3 cq1 cr co had
                      generalize wr.drewN nq = W1 at *
                      have f2 := OwnC.free o2N y
                      have ck2 := OwnC.cell o2N (j := y) (by omega)
                      rw [boolsM_get HOK.out.rl hy] at ck2
                      have o2S := OwnC.set o2N y (.bool true)
                      rw [← List.map_set] at o2S
                      have o1S := OwnC.far o1N (p := ⟨g2, y, none⟩) (fun ad ha => by injection ha with ha; subst ha; exact hg12) (.bool true)
                      have oqS := OwnI.far oqN (p := ⟨g2, y, none⟩) (fun ad ha => by have h1 := (OwnI.lt oqN ha).1; show ad.block ≠ g2; omega) (.bool true)
                      have bS := hb1.setCell (p := ⟨g2, y, none⟩) hg2w (.bool true)
                      have hsS : wm.heap.size ≤ (W1.setCell ⟨g2, y, none⟩ (.bool true)).heap.size := by simpa [World.setCell] using hszN
                      clear o1N o2N oqN hb1 hszN
                      generalize t.r.getD y false = ry at *
                      go_upto_region 22 with (fail)
                      generalize W1.setCell ⟨g2, y, none⟩ (.bool true) = W2 at *
                      clear f2 ck2
                      have co2 := OwnI.cell (OwnI.below oR bS) hy
                      generalize st.R.getD y 0 = x at *
                      by_cases hx0 : 0 ≤ x
                      · obtain ⟨x, rfl⟩ := Int.eq_ofNat_of_zero_le hx0
                        have hxL : x < L := by omega
                        have ca := OwnC.cell o1S (j := x) (by omega)
                        rw [boolsM_get HOK.out.al hxL] at ca
                        have v6 : (x : Int) < (L : Int) := by omega
                        have d2 : decide ((x : Int) ≥ 0) = true := decide_eq_true (by omega)
                        cases hA2 : t.a.getD x false
                        · rw [hA2] at ca
                          have HE := Lib.hid (HNO.out (fun h => by rw [Int.toNat_natCast, hA2] at h; cases h.2))
                          clear hA2 hcnt
                          go_wp2_with fail
                          go_roundg (m - (j + 1))
                          case measure => rw [HR2.out]; omega
                          case rel => exact ⟨j + 1, i + 2, _, lq, cq, rfl, by omega, hkq, by go_num, rfl, hnq, by rw [HE.out]; exact o1S, by rw [HE.out]; exact o2S, by rw [HE.out]; exact oqS, bS, hsS, Lib.hid (by rw [HIJ.out]; omega)⟩
                        · rw [hA2] at ca
                          have HE := Lib.hid (HYE.out ⟨by omega, by rw [Int.toNat_natCast]; exact hA2⟩)
                          rw [Int.toNat_natCast] at HE
                          have HQ := Lib.hid (show lq + 1 ≤ L by
                            have h1 := HOK.out.ql
                            have h2 := oqS.len
                            have h3 := count_down (y := x) (by rw [HOK.out.al]; exact hxL) hA2
                            have h4 := count_le' (t.a.set x false)
                            rw [List.length_set, HOK.out.al] at h4
                            omega)
                          clear hA2 hcnt
                          have f1 := OwnC.free o1S x
                          have o1T := OwnC.set o1S x (.bool false)
                          rw [← List.map_set] at o1T
                          have o2T := OwnC.far o2S (p := ⟨g1, x, none⟩) (fun ad ha => by injection ha with ha; subst ha; exact fun e => hg12 e.symm) (.bool false)
                          have oqT := OwnI.far oqS (p := ⟨g1, x, none⟩) (fun ad ha => by have h1 := (OwnI.lt oqS ha).1; show ad.block ≠ g1; omega) (.bool false)
                          have bT := bS.setCell (p := ⟨g1, x, none⟩) hg1w (.bool false)
                          have hsT : wm.heap.size ≤ (W2.setCell ⟨g1, x, none⟩ (.bool false)).heap.size := by simpa [World.setCell] using hsS
                          go_upto_region 25 with (fail)
                          clear o1S o2S oqS bS hsS co2 ca f1
                          generalize W2.setCell ⟨g1, x, none⟩ (.bool false) = W3 at *
                          have HQ2 := HQ.out
                          go_wp2_with (at_builtin; (refine wp_append_int _ _ rfl _ _ _ rfl 2 wm.heap.size Try.underlying25 info64 (some ⟨gq, 0, none⟩) lq cq _ rfl oqT rfl (by omega) hsT ?_; intro g5 c5 w6 o6 u6 b6 hg6))
                          have o1X := OwnC.upd o1T u6 (fun ad ha => by rintro ⟨bd, hb1, hb2⟩; have h1 := (OwnI.lt oqT hb1).1; injection ha with ha; subst ha; have h3 : bd.block = g1 := hb2; omega)
                          have o2X := OwnC.upd o2T u6 (fun ad ha => by rintro ⟨bd, hb1, hb2⟩; have h1 := (OwnI.lt oqT hb1).1; injection ha with ha; subst ha; have h3 : bd.block = g2 := hb2; omega)
                          have bX := bT.trans (b6.mono (by have := hbx'; omega))
                          have hsX := Nat.le_trans hsT b6.size
                          go_roundg (m - (j + 1))
                          case measure => rw [HR2.out]; omega
                          case rel => exact ⟨j + 1, i + 2, _, lq + 1, c5, rfl, by omega, by omega, by go_num, rfl, HQ2, by rw [HE.out]; exact o1X, by rw [HE.out]; exact o2X, by rw [HE.out]; exact o6, bX, hsX, Lib.hid (by rw [HIJ.out]; omega)⟩
                      · have d2 : decide (x ≥ 0) = false := decide_eq_false (by omega)
                        have HE := Lib.hid (HNO.out (fun h => hx0 h.1))
                        clear hcnt
                        go_wp2_with fail
                        go_roundg (m - (j + 1))
                        case measure => rw [HR2.out]; omega
                        case rel => exact ⟨j + 1, i + 2, _, lq, cq, rfl, by omega, hkq, by go_num, rfl, hnq, by rw [HE.out]; exact o1S, by rw [HE.out]; exact o2S, by rw [HE.out]; exact oqS, bS, hsS, Lib.hid (by rw [HIJ.out]; omega)⟩
                    · rw [hK] at cr
                      have HE := Lib.hid (HN1.out.trans (one_no2 (by rw [HPY.out]; exact hK)))
                      clear hK hqk hcnt hOK
                      go_wp2_with fail
                      go_quiet (fail)
                      go_wp2_with fail
                      go_roundg (m - (j + 1))
                      case measure => rw [HR2.out]; omega
                      case rel => exact ⟨j + 1, i + 2, _, lq, cq, rfl, by omega, hkq, by go_num, rfl, hnq, by rw [HE.out]; exact OwnC.drewN o1 _, by rw [HE.out]; exact OwnC.drewN o2 _, by rw [HE.out]; exact OwnI.drewN oq _, below_drewN hbw _, hszw, Lib.hid (by rw [HIJ.out]; omega)⟩
                  · have d1 : (px != u) = true := by simpa using h1
                    have HE := Lib.hid (HN1.out.trans (one_no1 (by rw [HPX.out]; exact h1)))
                    clear h1 hqk hcnt hOK
                    go_wp2_with fail
                    go_quiet (fail)
                    go_wp2_with fail
                    go_roundg (m - (j + 1))
                    case measure => rw [HR2.out]; omega
                    case rel => exact ⟨j + 1, i + 2, _, lq, cq, rfl, by omega, hkq, by go_num, rfl, hnq, by rw [HE.out]; exact OwnC.drewN o1 _, by rw [HE.out]; exact OwnC.drewN o2 _, by rw [HE.out]; exact OwnI.drewN oq _, below_drewN hbw _, hszw, Lib.hid (by rw [HIJ.out]; omega)⟩
                · have e : m = j := by omega
                  subst e
                  have hin : ¬ (i : Int) < (n : Int) := by omega
                  clear hij hnm
                  go_wp2_with fail
                  go_roundg (L - (k + 1))
                  case measure => rw [HR.out]; omega
                  case rel => exact ⟨k + 1, Q, lq, cq, rfl, by omega, by go_num, rfl, hnq, by rw [HNX.out]; exact o1, by rw [HNX.out]; exact o2, by rw [HNX.out]; exact oq, hbw, hszw⟩
            · have hql := oq.len
              have hfin := covR_stay (ps := ps) (O := st.R) (m := m) (s := s0) (k := k) (by omega) (L - k)
              rw [show k + (L - k) = L by omega] at hfin
              have HF := Lib.hid (HALL.out.trans hfin)
              have hOK := covR_ok HCV.out HO.out k
              have HAL := Lib.hid hOK.al
              have HRL := Lib.hid hOK.rl
              clear hfin hql hOK
              generalize covR ps st.R m s0 k = s at *
              go_wp2_with fail
              refine (setOfB_any _ g1 L s.a _ (by omega) HAL.out o1).mono ?_
              rintro e w8 ⟨A8, n8, c8, rfl, o8, b8⟩
              have s8 := fun ad (ha : A8 = some ad) => (OwnI.lt o8 ha).2
              go_wp2_with fail
              refine (setOfB_any _ g2 R s.r _ (by omega) HRL.out (OwnC.below o2 b8)).mono ?_
              rintro e w9 ⟨A9, n9, c9, rfl, o9, b9⟩
              have hsz8 := b8.size
              have hw2 := hbw.size
              go_wp2_with fail
              go_ret3
              exact ⟨A8, n8, c8, A9, n9, c9, rfl, by rw [HV.out, HF.out]; exact OwnI.low (OwnI.below o8 b9) (by omega), by rw [HV.out, HF.out]; exact OwnI.low o9 (by omega), sep_new o8 o9, (b2.trans (hbw.mono hs2)).trans ((ext_trans b8 b9).mono (by omega))⟩
end Go.Proofs.Ytfoelpmglmaamaa
