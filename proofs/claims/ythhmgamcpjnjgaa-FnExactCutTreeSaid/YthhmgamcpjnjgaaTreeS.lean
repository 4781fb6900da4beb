/- CutTree of the reference: the walk. -/
import Derived.Test.YthhmgamcpjnjgaaTree
import Derived.Test.YthhmgamcpjnjgaaCut
namespace Go.Proofs.Ythhmgamcpjnjgaa
open Go.RowKit

theorem l00Has_qb (A : Option Addr) (n c : Nat) (zs : List Int) (x : Int) (b : Bool) (w : World) (m : Nat) (hb : hasB zs x = b) (h : IntsAt w A n zs) (hl : n ≤ 1048576) :
    Calls Try.prog 40 #[.slice A n c, .int .i64 x] (w.drewN m) fun e w'' => e = .returned (.bool b) ∧ ∃ q, w'' = w.drewN q := by
  subst hb
  exact quiet_here (l00Has_any A n c zs x _ (h.drewN m) hl)
set_option maxRecDepth 100000 in
set_option maxHeartbeats 6400000 in
theorem specCutTree_r (nodes : Int) (A : Option Addr) (n c : Nat) (xs : List ArcR) (w : World) (h : ArcsAt w A n xs) (hn0 : n ≤ maxLen) :
    Calls Try.prog 17 #[.agg #[.int .i64 nodes, .slice A n c]] w (RetLLB 2 (treeV nodes xs).1 (treeV nodes xs).2 (treeB nodes xs) w) := by
  have HX := Lib.hid h.len
  have hW : Below w.heap.size w (w.alloc (.cells #[.int .i64 nodes, .slice A n c] 31)) := (Below.refl _ _).alloc (Nat.le_refl _) _
  have h3 := h.alloc (.cells #[.int .i64 nodes, .slice A n c] 31)
  have HB := Lib.hid (Blk.new w 31 #[.int .i64 nodes, .slice A n c])
  have hlt0 : w.heap.size < (w.alloc (.cells #[.int .i64 nodes, .slice A n c] 31)).heap.size := by simp
  clear h
  cases hv : validB nodes xs
  · have HS := Lib.hid (show treeB nodes xs = false by simp [treeB, hv])
    have HV := Lib.hid (treeV_no HS.out)
    go_enter Try.func17, Try.ntmps17
    go_wp2_with fail
    generalize w.alloc (.cells #[.int .i64 nodes, .slice A n c] 31) = W at *
    refine (l03Is_any _ nodes A n c xs _ HB.out h3 hn0).mono ?_
    rw [hv]
    rintro e w1 ⟨rfl, hd⟩
    have e1 := hd.below
    go_wp2_with fail
    go_ret3
    exact ⟨none, 0, 0, none, 0, 0, ret_LLB HS.out.symm, by rw [HV.out]; exact OwnI.nil_ _ _ _, by rw [HV.out]; exact OwnI.nil_ _ _ _, sep_none, below_ext hW hW.size e1⟩
  · obtain ⟨v0, v1, v2, _⟩ := valid_bd hv
    rw [HX.out] at v2
    by_cases hn24 : n ≤ 24
    · have HS := Lib.hid (show treeB nodes xs = true by simp [treeB, hv, HX.out, hn24])
      have hvv := treeV_yes HS.out
      obtain ⟨N, rfl⟩ := Int.eq_ofNat_of_zero_le (show 0 ≤ nodes by omega)
      rw [Int.toNat_natCast] at hvv
      have HV := Lib.hid hvv
      have HV2 := Lib.hid (both_valid hv (by rw [HX.out]; exact hn24))
      have HX2 := Lib.hid (show (bothL xs).length = 2 * n by rw [bothL_len, HX.out])
      go_enter Try.func17, Try.ntmps17
      go_wp2_with fail
      generalize w.alloc (.cells #[.int .i64 N, .slice A n c] 31) = W at *
      refine (l03Is_any _ N A n c xs _ HB.out h3 hn0).mono ?_
      rw [hv]
      rintro e w1 ⟨rfl, hd⟩
      have e1 := hd.below
      clear hd
      clear hv hvv
      have q0 := (HB.out.ext e1).cell 0
      have q1 := (HB.out.ext e1).cell 1
      have kb := Blk.new w1 31 #[.int .i64 N, .slice none 0 0]
      have hd := e1.alloc e1.size (.cells #[.int .i64 N, .slice none 0 0] 31)
      have q2 := (HB.out.ext hd).cell 0
      have q3 := (HB.out.ext hd).cell 1
      have hgt : ¬ (n : Int) > 24 := by omega
      have hlt1 : w1.heap.size < (w1.alloc (.cells #[.int .i64 N, .slice none 0 0] 31)).heap.size := by simp
      have hle1 := e1.size
      go_wp2_with fail
      generalize w1.alloc (.cells #[.int .i64 N, .slice none 0 0] 31) = W1 at *
      clear q0 q1 q2 q3 e1
      go_loopg [29] n (fun r iv wr => ∃ (k : Nat) (L : Option Addr) (q : Nat), r = n - k ∧ k ≤ n ∧ iv = .int .i64 k ∧ Blk wr w1.heap.size 31 #[.int .i64 N, .slice L (2 * k) q] ∧ OwnA 64 W1.heap.size wr L (2 * k) q (bothL (xs.take k)) ∧ Below W.heap.size W wr ∧ W1.heap.size ≤ wr.heap.size)
      case atStart => exact ⟨0, none, 0, rfl, by omega, rfl, kb, OwnC.nil_ _ _ _ _, hd, Nat.le_refl _⟩
      case round =>
        clear kb hd
        obtain ⟨k, L, q, hr, hk, rfl, kb, ol, hbw, hsz1⟩ := hrel
        have HR := Lib.hid hr
        clear hr
        by_cases hlt : k < n
        · obtain ⟨ad, rfl, had, c0, c1, c2, c3⟩ := (h3.below hbw).at_ hlt
          have q1 := (HB.out.below hbw hlt0).cell 1
          have HST := Lib.hid (both_step HX.out hlt rfl)
          generalize xs.getD k default = x at *
          obtain ⟨af, at_, ar, aq⟩ := x
          have ka := Blk.new wr 64 #[.int .i64 af, .int .i64 at_, .int .i64 ar, .int .i64 aq]
          have hd2 := hbw.alloc hbw.size (.cells #[.int .i64 af, .int .i64 at_, .int .i64 ar, .int .i64 aq] 64)
          have ol2 := OwnC.alloc ol (.cells #[.int .i64 af, .int .i64 at_, .int .i64 ar, .int .i64 aq] 64)
          have kb2 := kb.alloc (.cells #[.int .i64 af, .int .i64 at_, .int .i64 ar, .int .i64 aq] 64)
          have hsz2 : W1.heap.size ≤ (wr.alloc (.cells #[.int .i64 af, .int .i64 at_, .int .i64 ar, .int .i64 aq] 64)).heap.size := Nat.le_trans hsz1 (by simp)
          have s0 := ka.cell 0
          have s1 := ka.cell 1
          have s2 := ka.cell 2
          have s3 := ka.cell 3
          have q9 := kb2.cell 1
          have hszk := ka.lt
          clear ka hbw ol kb
          go_upto_region 8 with (fail)
          generalize wr.alloc (.cells #[.int .i64 af, .int .i64 at_, .int .i64 ar, .int .i64 aq] 64) = W2 at *
          have kb3 := kb2.alloc (.cells #[.int .i64 af, .int .i64 at_, .int .i64 ar, .int .i64 aq, .int .i64 at_, .int .i64 af, .int .i64 ar, .int .i64 aq] 64)
          have hd3 := hd2.alloc hd2.size (.cells #[.int .i64 af, .int .i64 at_, .int .i64 ar, .int .i64 aq, .int .i64 at_, .int .i64 af, .int .i64 ar, .int .i64 aq] 64)
          have hszz : W1.heap.size ≤ (W2.alloc (.cells #[.int .i64 af, .int .i64 at_, .int .i64 ar, .int .i64 aq, .int .i64 at_, .int .i64 af, .int .i64 ar, .int .i64 aq] 64)).heap.size := Nat.le_trans hsz2 (by simp)
          have HKB := Lib.hid (fun (w6 : World) (b6 : Below W1.heap.size (W2.alloc (.cells #[.int .i64 af, .int .i64 at_, .int .i64 ar, .int .i64 aq, .int .i64 at_, .int .i64 af, .int .i64 ar, .int .i64 aq] 64)) w6) => kb3.below b6 hlt1)
          have HSP := Lib.hid (fun (w6 : World) (A5 : Option Addr) (n5 c5 : Nat) (vs : List Value) (o6 : OwnC 64 W1.heap.size 4 w6 A5 n5 c5 vs) (v : Value) => OwnC.far o6 (p := ⟨w1.heap.size, 1, none⟩) (fun ad ha => by have := (OwnC.lt o6 ha).1; show ad.block ≠ w1.heap.size; omega) v)
          clear kb3
          go_wp2_with (at_builtin; go_must (refine wp_append_cells _ rfl _ _ _ rfl 64 W1.heap.size Try.underlying29 _ 4 32 info4 rfl (by decide) (by decide) (by decide) L (2 * k) q _ rfl (OwnC.alloc ol2 _) _ 2 2 [.int .i64 af, .int .i64 at_, .int .i64 ar, .int .i64 aq, .int .i64 at_, .int .i64 af, .int .i64 ar, .int .i64 aq] rfl rfl (src_one (w := W2) (T := 64) (cs := #[.int .i64 af, .int .i64 at_, .int .i64 ar, .int .i64 aq, .int .i64 at_, .int .i64 af, .int .i64 ar, .int .i64 aq]) 2 (by decide)) (by simp [Value.oneCell']) (by omega) hszz ?_; intro A5 c5 w6 o6 u6 b6 hg6; have kb6 := HKB.out w6 b6; have f6 := kb6.free 1; have r6 := kb6.cell 1))
          have o7 : OwnA 64 W1.heap.size (w6.setCell ⟨w1.heap.size, 1, none⟩ (.slice A5 (2 * (k + 1)) c5)) A5 (2 * (k + 1)) c5 (bothL (xs.take (k + 1))) := by
            unfold OwnA
            rw [HST.out]
            exact HSP.out _ _ _ _ _ o6 _
          have kb7 := kb6.set 1 (.slice A5 (2 * (k + 1)) c5)
          have hd7 := (hd3.trans (b6.mono (by have := hd2.size; omega))).setCell (p := ⟨w1.heap.size, 1, none⟩) hle1 (.slice A5 (2 * (k + 1)) c5)
          have hsz7 : W1.heap.size ≤ (w6.setCell ⟨w1.heap.size, 1, none⟩ (.slice A5 (2 * (k + 1)) c5)).heap.size := by have := b6.size; simp; omega
          go_roundg (n - (k + 1))
          case measure => rw [HR.out]; omega
          case rel => exact ⟨k + 1, A5, c5, rfl, by omega, by go_num, kb7, o7, hd7, hsz7⟩
        · have e : k = n := by omega
          subst e
          have hn48 : 2 * k ≤ 48 := by omega
          rw [List.take_of_length_le (by rw [HX.out]; exact Nat.le_refl _)] at ol
          generalize bothL xs = xs2 at *
          generalize 2 * k = n2 at *
          have hbx0 : Blk wr w.heap.size 31 #[.int .i64 N, .slice A k c] := HB.out.below hbw hlt0
          have q0 := hbx0.cell 0
          have HBX := Lib.hid hbx0
          have hszr := hbw.size
          have HLsep := Lib.hid (fun (g : Nat) (hg : wr.heap.size ≤ g) (ad : Addr) (ha : L = some ad) => (show ad.block ≠ g from by have := (OwnC.lt ol ha).2; omega))
          clear hbx0
          go_wp2_with (at_make; first | (refine wp_make_ints _ rfl _ _ 25 rfl 2 Try.underlying25 info64 .i64 .i64 _ _ N rfl rfl rfl rfl (by omega) ?_; intro w2 g1 o1 b2; have q2 := (HBX.out.ext b2).cell 0; have tok := Lib.hid trivial; clear q0) | (have _t := tok; refine wp_make_ints _ rfl _ _ 25 rfl 2 Try.underlying25 info64 .i64 .i64 _ _ N rfl rfl rfl rfl (by omega) ?_; intro w3 g2 o2 b3))
          have o1' := OwnI.below o1 b3
          have hg1' := (OwnI.lt o1 rfl)
          have hg2' := (OwnI.lt o2 rfl)
          have hg12 : g1 ≠ g2 := by have h1 : g1 < w2.heap.size := hg1'.2; have h2 : w2.heap.size ≤ g2 := hg2'.1; omega
          have hbx := b2.trans (b3.mono b2.size)
          have o2' := OwnI.low o2 b2.size
          have hszr' := hbx.size
          have KX := Lib.hid (HBX.out.ext hbx)
          have kb4 := kb.ext hbx
          have KB := Lib.hid kb4
          have OL := Lib.hid (OwnC.below ol hbx)
          have hw2 := hbw.trans (hbx.mono hszr)
          have hgb := kb4.lt
          have hg1b : w1.heap.size < g1 := Nat.lt_of_lt_of_le hlt1 (Nat.le_trans hsz1 hg1'.1)
          have hg2b : w1.heap.size < g2 := Nat.lt_of_lt_of_le hlt1 (Nat.le_trans hsz1 (Nat.le_trans b2.size hg2'.1))
          have hlo0 : w.heap.size ≤ wr.heap.size := Nat.le_trans hW.size hszr
          clear hg1' hg2' hbx kb4 hbw HBX h3 ol q2 kb tok o1 o2 b2 b3
          obtain ⟨wm, rfl⟩ : ∃ wm : World, wm = wr := ⟨_, rfl⟩
          go_loopg [10] (N - 1) (fun r iv wi => ∃ (i : Nat), r = N - i ∧ 1 ≤ i ∧ i ≤ N ∧ iv = .int .i64 i ∧ OwnI 2 wm.heap.size wi (some ⟨g1, 0, none⟩) N N (treeTo xs2 N (i - 1)).1 ∧ OwnI 2 wm.heap.size wi (some ⟨g2, 0, none⟩) N N (treeTo xs2 N (i - 1)).2 ∧ Below wm.heap.size w3 wi ∧ w3.heap.size ≤ wi.heap.size ∧ Blk wi w.heap.size 31 #[.int .i64 N, .slice A k c] ∧ Blk wi w1.heap.size 31 #[.int .i64 N, .slice L n2 q] ∧ OwnA 64 W1.heap.size wi L n2 q xs2)
          case atStart => exact ⟨1, rfl, by omega, by omega, rfl, o1', o2', Below.refl _ _, Nat.le_refl _, KX.out, KB.out, OL.out⟩
          case round =>
            clear o1' o2' KX KB OL
            obtain ⟨i, hr, hi1, hiN, rfl, o1, o2, hbw, hszw, kx, kb, ol⟩ := hrel
            have HR := Lib.hid hr
            clear hr
            have q0 := kx.cell 0
            by_cases hlt : i < N
            · obtain ⟨hPO, hWL⟩ := treeTo_ok (xs2 := xs2) (N := N) (i - 1) (by omega)
              obtain ⟨hp0, hp1⟩ := hPO.2 i hi1 hlt
              obtain ⟨P, hP⟩ := Int.eq_ofNat_of_zero_le hp0
              rw [hP] at hp1
              have hPi : P < i := by omega
              have HTS := Lib.hid (tree_step hi1 hP)
              have HPO := Lib.hid (fun by_ j hj => parTo_ok (by_ := by_) (i := i) (p := (P : Int)) hPO j hj)
              have HFI := Lib.hid (greatL_flow HV2.out HX2.out hlt (show P < N by omega) (show P ≠ i by omega))
              have cP := OwnI.cell o1 hlt
              rw [hP] at cP
              have HP := Lib.hid hP
              have HWL := Lib.hid hWL
              rw [HX2.out] at HTS
              clear hP hp0 hp1 hPO hWL
              generalize treeTo xs2 N (i - 1) = T at *
              obtain ⟨par, wts⟩ := T
              have HA := Lib.hid ol.arcs
              have p0 := kb.cell 0
              have p1 := kb.cell 1
              have HKB := Lib.hid kb
              have HO1 := Lib.hid o1
              clear kb o1
              go_wp2_with fail
              refine (l03Great_any w1.heap.size N L n2 q xs2 i P _ HKB.out HA.out HV2.out hlt (by omega) (by omega)).mono ?_
              rintro e wc ⟨gF, rfl, oF, bF⟩
              have kbF := HKB.out.ext bF
              have kxF := kx.ext bF
              have olF := OwnC.below ol bF
              have o1F := OwnI.below HO1.out bF
              have o2F := OwnI.below o2 bF
              have hgF := (OwnI.lt oF rfl).1
              have hg1r := (OwnI.lt HO1.out rfl).2
              have hg2r := (OwnI.lt o2 rfl).2
              have hg1m := (OwnI.lt HO1.out rfl).1
              have hg2m := (OwnI.lt o2 rfl).1
              have hgF1 : gF ≠ g1 := by have : wr.heap.size ≤ gF := hgF; have : g1 < wr.heap.size := hg1r; omega
              have hgF2 : gF ≠ g2 := by have : wr.heap.size ≤ gF := hgF; have : g2 < wr.heap.size := hg2r; omega
              have hszF : wm.heap.size ≤ wr.heap.size := Nat.le_trans hszr' hszw
              have HRO := Lib.hid (linksTo_ok (nodes := (N : Int)) (greatL xs2 N i P).1 rfl HV2.out n2 (by rw [HX2.out]; exact Nat.le_refl _))
              have HBD := Lib.hid (flowIn_bd HX2.out HV2.out HFI.out)
              have HLL := Lib.hid (linksTo_len xs2 (greatL xs2 N i P).1 n2)
              clear HFI
              generalize greatL xs2 N i P = GL at *
              obtain ⟨fl, amt⟩ := GL
              have hfr := OwnI.free o2F i
              have hci := OwnI.cell o2F hlt
              have bS := (hbw.trans (bF.mono hszF)).setCell (p := ⟨g2, i, none⟩) hg2m (.int .i64 amt)
              have kbS := kbF.far (p := ⟨g2, i, none⟩) (show w1.heap.size ≠ g2 by omega) (.int .i64 amt)
              have kxS := kxF.far (p := ⟨g2, i, none⟩) (show w.heap.size ≠ g2 by omega) (.int .i64 amt)
              have olS := OwnC.far olF (p := ⟨g2, i, none⟩) (HLsep.out g2 hg2m) (.int .i64 amt)
              have o1S := OwnI.far o1F (p := ⟨g2, i, none⟩) (fun ad ha => by injection ha with ha; subst ha; exact hg12) (.int .i64 amt)
              have oFS := OwnI.far oF (p := ⟨g2, i, none⟩) (fun ad ha => by injection ha with ha; subst ha; exact hgF2) (.int .i64 amt)
              have o2S := OwnI.set o2F i amt
              have HO1F := Lib.hid o1S
              have HO2F := Lib.hid o2S
              have HFL := Lib.hid oFS.ints
              have HAR := Lib.hid (OwnA.arcs olS)
              have HOL := Lib.hid olS
              have HKB5 := Lib.hid kbS
              have HKX5 := Lib.hid kxS
              have HB5 := Lib.hid bS
              clear HKB HA HO1 p0 p1 cP q0 kx ol o2 kbF kxF olF o1F o2F oF bF kbS kxS olS o1S o2S oFS bS hbw
              go_upto_region 15 with (fail)
              generalize wc.setCell ⟨g2, i, none⟩ (.int .i64 amt) = W5 at *
              clear hfr hci
              go_wp2_with fail
              refine (l03Cut_any w1.heap.size N L n2 q xs2 _ n2 fl i _ HKB5.out HAR.out hn48 HFL.out (by omega) (by omega) hlt HRO.out HBD.out).mono ?_
              rintro e wd ⟨A4, n4, c4, rfl, o4, bX⟩
              have hs4 := fun ad (ha : A4 = some ad) => (OwnI.lt o4 ha).1
              have o1X := OwnI.below HO1F.out bX
              have o2X := OwnI.below HO2F.out bX
              have kxX := HKX5.out.ext bX
              have kbX := HKB5.out.ext bX
              have olX := OwnC.below HOL.out bX
              have hs5 := HB5.out.size
              have bbX := HB5.out.trans (bX.mono (Nat.le_trans hszr' hs5))
              have hszX := bX.size
              have HG41 := Lib.hid (show ∀ ad, A4 = some ad → ad.block ≠ g1 from fun ad ha => by have := (OwnI.lt HO1F.out rfl).2; have h1 : g1 < W5.heap.size := this; have h2 := hs4 ad ha; omega)
              have hn4' : n4 ≤ 1048576 := by have h1 := o4.len; have h2 := cutLTo_len (reachL (linksTo xs2 fl n2) N i) N; omega
              have HRL := Lib.hid (show (reachL (linksTo xs2 fl n2) N i).length = N from (bfs_ok HRO.out hlt N).len)
              have HCB := Lib.hid (fun (j : Nat) (hj : j < N) => hasB_cut (by_ := reachL (linksTo xs2 fl n2) N i) hj)
              clear HKB5 HKX5 HO1F HO2F HFL HAR HOL HB5 HBD HLL HRO bX hs4
              generalize cutLTo (reachL (linksTo xs2 fl n2) N i) N = cl at *
              generalize reachL (linksTo xs2 fl n2) N i = by_ at *
              have HG0 := Lib.hid (show parTo par by_ i (P : Int) (i + 1 - (i + 1)) = par from by rw [Nat.sub_self]; rfl)
              rw [← HG0.out] at o1X
              have hi1N : i + 1 ≤ N := hlt
              obtain ⟨wk, rfl⟩ : ∃ wk : World, wk = wr := ⟨_, rfl⟩
              go_wp2_with fail
              go_loopg [14] (N - (i + 1)) (fun r kv wi => ∃ (j : Nat), r = N - j ∧ i + 1 ≤ j ∧ j ≤ N ∧ kv = .int .i64 j ∧ OwnI 2 wm.heap.size wi (some ⟨g1, 0, none⟩) N N (parTo par by_ i P (j - (i + 1))) ∧ OwnI 2 wm.heap.size wi (some ⟨g2, 0, none⟩) N N (wts.set i amt) ∧ OwnI 2 W5.heap.size wi A4 n4 c4 cl ∧ Below wm.heap.size w3 wi ∧ w3.heap.size ≤ wi.heap.size ∧ Blk wi w.heap.size 31 #[.int .i64 N, .slice A k c] ∧ Blk wi w1.heap.size 31 #[.int .i64 N, .slice L n2 q] ∧ OwnA 64 W1.heap.size wi L n2 q xs2)
              case atStart => exact ⟨i + 1, rfl, Nat.le_refl _, hi1N, by go_num, o1X, o2X, o4, bbX, Nat.le_trans hs5 hszX, kxX, kbX, olX⟩
              case round =>
                clear o1X o2X o4 bbX kxX kbX olX
                obtain ⟨j, hr, hj1, hjN, rfl, o1, o2, o4, hbj, hszj, kx, kb, ol⟩ := hrel
                have HR2 := Lib.hid hr
                clear hr
                have q0 := kx.cell 0
                by_cases hlj : j < N
                · have HPX := HPO.out by_ (j - (i + 1)) (by omega)
                  have cj := OwnI.cell o1 hlj
                  have ci := OwnI.cell o1 hlt
                  rw [HPX.2 i (Nat.le_refl _), HP.out] at ci
                  have HY1 := Lib.hid (fun h1 h2 => parK_yes (par := par) (by_ := by_) (p := (P : Int)) hj1 h1 h2)
                  have HY2 := Lib.hid (fun h1 => parK_no1 (par := par) (by_ := by_) (p := (P : Int)) hj1 h1)
                  have HY3 := Lib.hid (fun h1 => parK_no2 (par := par) (by_ := by_) (p := (P : Int)) hj1 h1)
                  have HH := Lib.hid (HCB.out j hlj)
                  have i4 := o4.ints
                  clear HPX
                  generalize parTo par by_ i (P : Int) (j - (i + 1)) = pj at *
                  generalize pj.getD j 0 = x at *
                  have hg1m : wm.heap.size ≤ g1 := (OwnI.lt o1 rfl).1
                  by_cases hxp : x = (P : Int)
                  · subst hxp
                    have d1 : ((P : Int) == (P : Int)) = true := beq_self_eq_true _
                    cases hb : (by_.getD j 0 != -2)
                    · have HH2 := Lib.hid (HH.out.trans hb)
                      have HE := Lib.hid (HY3.out (by simpa using hb))
                      clear hb
                      go_wp2_with fail
                      go_quiet ((go_at_call 40; exact l00Has_qb A4 n4 c4 cl j _ _ _ HH2.out i4 hn4'))
                      go_wp2_with fail
                      go_roundg (N - (j + 1))
                      case measure => rw [HR2.out]; omega
                      case rel => exact ⟨j + 1, rfl, by omega, by omega, by go_num, by rw [HE.out]; exact OwnI.drewN o1 _, OwnI.drewN o2 _, OwnI.drewN o4 _, below_drewN hbj _, hszj, kx.drewN _, kb.drewN _, OwnC.drewN ol _⟩
                    · have HH2 := Lib.hid (HH.out.trans hb)
                      have HE := Lib.hid (HY1.out rfl (by simpa using hb))
                      clear hb
                      go_wp2_with fail
                      go_quiet ((go_at_call 40; exact l00Has_qb A4 n4 c4 cl j _ _ _ HH2.out i4 hn4'))
                      have fb : (wr.drewN nq).frozen? ⟨g1, j, none⟩ = false := OwnI.free o1 j
                      have cb : (wr.drewN nq).cell? ⟨g1, j, none⟩ = some (.int .i64 P) := cj
                      have o1N := OwnI.set (OwnI.drewN o1 nq) j (i : Int)
                      have o2N := OwnI.far (OwnI.drewN o2 nq) (p := ⟨g1, j, none⟩) (fun ad ha => by injection ha with ha; subst ha; exact fun e => hg12 e.symm) (.int .i64 i)
                      have o4N := OwnI.far (OwnI.drewN o4 nq) (p := ⟨g1, j, none⟩) HG41.out (.int .i64 i)
                      have kxN := (kx.drewN nq).far (p := ⟨g1, j, none⟩) (show w.heap.size ≠ g1 by omega) (.int .i64 i)
                      have kbN := (kb.drewN nq).far (p := ⟨g1, j, none⟩) (show w1.heap.size ≠ g1 by omega) (.int .i64 i)
                      have olN := OwnC.far (OwnC.drewN ol nq) (p := ⟨g1, j, none⟩) (HLsep.out g1 hg1m) (.int .i64 i)
                      have bN := (below_drewN hbj nq).setCell (p := ⟨g1, j, none⟩) hg1m (.int .i64 i)
                      have hsN : w3.heap.size ≤ ((wr.drewN nq).setCell ⟨g1, j, none⟩ (.int .i64 i)).heap.size := by have : (wr.drewN nq).heap.size = wr.heap.size := rfl; simp [this]; omega
                      clear o1 o2 o4 kx kb ol hbj cj ci q0 i4
                      go_wp2_with fail
                      go_roundg (N - (j + 1))
                      case measure => rw [HR2.out]; omega
                      case rel => exact ⟨j + 1, rfl, by omega, by omega, by go_num, by rw [HE.out]; exact o1N, o2N, o4N, bN, hsN, kxN, kbN, olN⟩
                  · have d1 : (x == (P : Int)) = false := beq_eq_false_iff_ne.2 hxp
                    have HE := Lib.hid (HY2.out hxp)
                    clear hxp
                    go_wp2_with fail
                    go_quiet (fail)
                    go_wp2_with fail
                    go_roundg (N - (j + 1))
                    case measure => rw [HR2.out]; omega
                    case rel => exact ⟨j + 1, rfl, by omega, by omega, by go_num, by rw [HE.out]; exact OwnI.drewN o1 _, OwnI.drewN o2 _, OwnI.drewN o4 _, below_drewN hbj _, hszj, kx.drewN _, kb.drewN _, OwnC.drewN ol _⟩
                · have e : N = j := by omega
                  subst e
                  go_wp2_with fail
                  go_roundg (N - (i + 1))
                  case measure => rw [HR.out]; omega
                  case rel => exact ⟨i + 1, rfl, by omega, hi1N, by go_num, by rw [HTS.out]; exact o1, by rw [HTS.out]; exact o2, hbj, hszj, kx, kb, ol⟩
            · have e : N = i := by omega
              subst e
              go_wp2_with fail
              go_ret3
              exact ⟨_, _, _, _, _, _, ret_LLB HS.out.symm, by rw [HV.out]; exact OwnI.low o1 hlo0, by rw [HV.out]; exact OwnI.low o2 hlo0, sep_ne hg12, below_ext hW hW.size (hw2.trans (hbw.mono hszr))⟩
    · have HS := Lib.hid (show treeB nodes xs = false by simp [treeB, HX.out, hn24])
      have HV := Lib.hid (treeV_no HS.out)
      go_enter Try.func17, Try.ntmps17
      go_wp2_with fail
      generalize w.alloc (.cells #[.int .i64 nodes, .slice A n c] 31) = W at *
      refine (l03Is_any _ nodes A n c xs _ HB.out h3 hn0).mono ?_
      rw [hv]
      rintro e w1 ⟨rfl, hd⟩
      have e1 := hd.below
      have q1 := (HB.out.ext e1).cell 1
      have hgt : (n : Int) > 24 := by omega
      go_wp2_with fail
      go_ret3
      exact ⟨none, 0, 0, none, 0, 0, ret_LLB HS.out.symm, by rw [HV.out]; exact OwnI.nil_ _ _ _, by rw [HV.out]; exact OwnI.nil_ _ _ _, sep_none, below_ext hW hW.size e1⟩
end Go.Proofs.Ythhmgamcpjnjgaa
