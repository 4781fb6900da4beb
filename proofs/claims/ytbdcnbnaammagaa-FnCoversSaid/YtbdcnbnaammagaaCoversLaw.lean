/- The walk of the law FnCovers. -/
import Derived.Test.YtbdcnbnaammagaaCovL
namespace Go.Proofs.Ytbdcnbnaammagaa
open Go.RowKit

theorem shl_whole (r : Nat) (h : r ≤ 5) : wrap64 (wrap64 ((2 : Int) ^ (1 + r)) - 1) = wholeI (1 + r) := by
  have : r = 0 ∨ r = 1 ∨ r = 2 ∨ r = 3 ∨ r = 4 ∨ r = 5 := by omega
  rcases this with rfl | rfl | rfl | rfl | rfl | rfl <;> decide +kernel
theorem whole_pow (N : Nat) : (2 : Int) ^ N = wholeI N + 1 := by
  rw [wholeI]
  have := Nat.two_pow_pos N
  have e : ((2 ^ N : Nat) : Int) = 2 ^ N := by exact_mod_cast rfl
  omega
theorem shl_small (j : Nat) (h : j ≤ 6) : wrap64 ((2 : Int) ^ j) = ((2 ^ j : Nat) : Int) := by
  have : j = 0 ∨ j = 1 ∨ j = 2 ∨ j = 3 ∨ j = 4 ∨ j = 5 ∨ j = 6 := by omega
  rcases this with rfl | rfl | rfl | rfl | rfl | rfl | rfl <;> decide +kernel
theorem fillL_snoc {zs : List Int} {j : Nat} (h : j < zs.length) : (fillL zs).take (j + 1) = (fillL zs).take j ++ [max 1 (zs.getD j 0)] := by
  rw [List.take_succ_eq_append_getElem (by rw [fillL_len]; exact h)]
  simp [fillL, List.getD, List.getElem?_eq_getElem h]
theorem whole_bd {N : Nat} (h1 : 1 ≤ N) (h2 : N ≤ 6) : 1 ≤ wholeI N ∧ wholeI N ≤ 63 := by
  have : N = 1 ∨ N = 2 ∨ N = 3 ∨ N = 4 ∨ N = 5 ∨ N = 6 := by omega
  rcases this with rfl | rfl | rfl | rfl | rfl | rfl <;> decide +kernel

set_option maxRecDepth 100000 in
set_option maxHeartbeats 1600000 in
theorem walk_Covers (A0 : Option Addr) (n0 c0 : Nat) (A1 : Option Addr) (n1 c1 : Nat) (w : World) (h0 : BytesAt w A0 n0) (m0 : n0 ≤ maxLen) (h1 : BytesAt w A1 n1) (m1 : n1 ≤ maxLen) :
    Calls Try.prog 3 #[.slice A0 n0 c0, .slice A1 n1 c1] w fun e w' => e = .returned (.bool true) ∧ Below w.heap.size w w' := by
  have bb := Below.refl w.heap.size w
  by_cases hlong : (decide (48 < n0) || decide (48 < n1)) = true
  · have HX := Lib.hid hlong
    clear hlong
    go_enter Try.func3, Try.ntmps3
    go_wp2_with (go_at_call 8; refine (r8Long_any _ _ _ _ _ _ _ m0 m1).mono ?_; rw [HX.out]; rintro e w1 ⟨rfl, rfl⟩)
    go_ret
    exact ⟨rfl, bb⟩
  · rw [Bool.not_eq_true] at hlong
    have HX := Lib.hid hlong
    clear hlong
    go_enter Try.func3, Try.ntmps3
    go_wp2_with fail
    refine (r8Long_any _ _ _ _ _ _ _ m0 m1).mono ?_
    rw [HX.out]
    rintro e w1 ⟨rfl, rfl⟩
    go_wp2_with fail
    refine (r8At_any _ _ _ _ _ _ h1 m1 (by omega) (by omega)).mono ?_
    rintro e w1 ⟨⟨ra, rfl, hra⟩, rfl⟩
    go_wp2_with fail
    refine (r8At_any _ _ _ _ _ _ h1 m1 (by omega) (by omega)).mono ?_
    rintro e w1 ⟨⟨rb, rfl, hrb⟩, rfl⟩
    have ra5 : ra ≤ 5 := by omega
    have rb5 : rb ≤ 5 := by omega
    clear hra hrb
    go_wp2_with fail
    rw [shl_whole ra ra5, show (1 : Int) + (ra : Int) = ((1 + ra : Nat) : Int) by omega, show (1 : Int) + (rb : Int) = ((1 + rb : Nat) : Int) by omega]
    have hN1 : 1 ≤ 1 + ra := by omega
    have hN6 : 1 + ra ≤ 6 := by omega
    have hM1 : 1 ≤ 1 + rb := by omega
    have hM6 : 1 + rb ≤ 6 := by omega
    clear ra5 rb5
    generalize 1 + ra = N at *
    generalize 1 + rb = M at *
    obtain ⟨hW1, hW2⟩ := whole_bd hN1 hN6
    have HWW := Lib.hid (show wholeI N = ((2 ^ N - 1 : Nat) : Int) from rfl)
    have HWP := Lib.hid (whole_pow N)
    have hww : wrap64 (wholeI N + 1) = wholeI N + 1 := by unfold wrap64; omega
    rw [hww]
    clear hww
    refine (asks_any A0 n0 c0 M _ _ h0 m0 (by omega) (by omega)).mono ?_
    rintro e w1 ⟨S, sc, zs, rfl, own, hall, b⟩
    replace hall : ∀ x ∈ zs, 0 ≤ x ∧ x ≤ wholeI N := fun x hx => by have := hall x hx; omega
    have hz := own.ints
    have hzl := hz.len
    have hyes := sets_yes (n := N) (zs := zs) hN1 (by omega) (by omega) (by omega) hall
    have HYES := Lib.hid hyes
    have HALL := Lib.hid hall
    have HZL := Lib.hid hzl
    replace bb := ext_trans bb b
    clear hyes hall hzl own b h0 h1
    have HBD := Lib.hid (fun k (hk : k < zs.length) => (setsB_bd HYES.out).2.2.2.2 k hk)
    generalize hW : wholeI N = W at *
    have HW := Lib.hid hW
    clear hW
    go_wp2_with fail
    refine (implAreSets_r _ _ _ _ zs _ hz (by omega)).mono ?_
    rw [HYES.out]
    rintro e w2 ⟨rfl, b⟩
    replace bb := ext_trans bb b
    replace hz := hz.below b
    clear b
    go_wp2_with fail
    go_loop [9, 10] (fun hv iv => ∃ (j x : Nat), j ≤ M ∧ iv = .int .i64 (j : Int) ∧ hv = .int .i64 (x : Int) ∧ x ≤ 65535 ∧ Hid (orA (natL zs) j = x)) (fun _ iv => M - (intOf iv).toNat)
    case atStart => exact ⟨0, 0, by omega, rfl, rfl, by omega, Lib.hid rfl⟩
    case round =>
      obtain ⟨j, x, hj, rfl, rfl, hx, HXX⟩ := hrel
      by_cases hlt : j < M
      · obtain ⟨ad, rfl, _, hc⟩ := hz.at_ hlt
        have hv := HBD.out j (by rw [HZL.out]; exact hlt)
        have hsn := orA_succ (natL zs) j
        rw [HXX.out, natL_get (by rw [HZL.out]; exact hlt)] at hsn
        generalize zs.getD j 0 = v at *
        obtain ⟨v0, v1, _⟩ := hv
        obtain ⟨v, rfl⟩ := Int.eq_ofNat_of_zero_le v0
        rw [Int.toNat_natCast] at hsn
        have hor := i64_or_nat x v (by omega) (by omega)
        have hle : x ||| v < 2 ^ 16 := Nat.or_lt_two_pow (by omega) (by omega)
        generalize x ||| v = y at *
        have HY := Lib.hid hsn
        clear hsn
        go_wp2
        go_round
        case rel => exact ⟨j + 1, y, by omega, by go_num, rfl, by omega, HY⟩
        case measure => simp [intOf]; omega
      · obtain rfl : M = j := by omega
        obtain ⟨gk, ge⟩ := greedy_facts (n := N) (zs := zs) hN1 (by omega) (by have := HZL.out; omega) (by have := HZL.out; omega) (fun x hx => by have := HALL.out x hx; rw [← HW.out] at this; exact this)
        have ce := cover_iff (n := N) (zs := zs) hN1 (by omega) (by have := HZL.out; omega) (by have := HZL.out; omega) (fun x hx => by have := HALL.out x hx; rw [← HW.out] at this; exact this)
        rw [← ge] at ce
        rw [HZL.out, HXX.out] at ge
        have gd : ((x : Int) == W) = greedyB (N : Int) zs := by
          rw [ge, Bool.eq_iff_iff, beq_iff_eq, decide_eq_true_iff]
          have h1 := HW.out; have h2 := HWW.out
          omega
        have gq := fun (h : greedyB (N : Int) zs = true) => least_quick (n := N) (zs := zs) hN1 (by omega) (by have := HZL.out; omega) (by have := HZL.out; omega) (fun x hx => by have := HALL.out x hx; rw [← HW.out] at this; exact this) h
        have gl := fun (h : coverB (N : Int) zs = true) => cover_facts (n := N) (zs := zs) hN1 (by omega) (by have := HZL.out; omega) (by have := HZL.out; omega) (fun x hx => by have := HALL.out x hx; rw [← HW.out] at this; exact this) h
        rw [ce] at gl
        have GK := Lib.hid gk
        have GQ := Lib.hid gq
        have GL := Lib.hid gl
        clear gk gq gl ge HXX
        generalize hgb : greedyB (N : Int) zs = gb at *
        have HGB := Lib.hid hgb
        have HCB := Lib.hid ce
        clear hgb ce
        go_wp2_with fail
        refine (implGreedyCover_r _ _ _ _ zs _ hz (by omega)).mono ?_
        rw [HGB.out]
        rintro e w3 ⟨Q, qn, qc, rfl, ownQ, b⟩
        have hqn : qn ≤ 1048576 := by rw [← ownQ.len]; exact greedyV_len _ _
        replace bb := ext_trans bb b
        replace hz := hz.below b
        have hQ := ownQ.ints
        clear b ownQ
        go_wp2_with fail
        refine (implLeastCover_r _ _ _ _ zs _ hz (by omega)).mono ?_
        rw [HCB.out]
        rintro e w4 ⟨L, ln, lc, rfl, ownL, b⟩
        have hln : ln ≤ 1048576 := by rw [← ownL.len]; exact coverV_len _ _
        replace bb := ext_trans bb b
        replace hz := hz.below b
        replace hQ := hQ.below b
        have hL := ownL.ints
        clear b ownL
        have GK2 := Lib.hid (fun h => (GK.out h).2)
        go_upto_if 91 with (fail)
        go_cut [4] (fun sx wx => sx = .bool false ∧ w4 = wx)
        case first =>
          cases gb
          · go_wp2_with fail
            go_meet
            exact ⟨rfl, rfl⟩
          · have GK := GK.out rfl
            have GQ := GQ.out rfl
            obtain ⟨lb, _, _, _, l4, l5, l6⟩ := GL.out rfl
            rw [hL.len, hQ.len] at GQ
            rw [hL.len] at l6
            have G1 := Lib.hid (show heldV zs (greedyV (N : Int) zs) = W by rw [heldV, GK.2, HWW.out])
            have G2 := Lib.hid (show heldV zs (coverV (N : Int) zs) = W by rw [heldV, l5, HWW.out])
            have G3 := Lib.hid GK.1
            have L4 := Lib.hid l4
            clear l4 l5 GK GL
            go_wp2_with fail
            refine (r8Held_any _ _ _ _ _ _ _ zs _ hQ hz hqn (by omega) G3.out (fun k hk => ⟨(HBD.out k hk).1, (HBD.out k hk).2.1⟩)).mono ?_
            rw [G1.out]
            rintro e w5 ⟨rfl, rfl⟩
            go_wp2_with fail
            refine (r8Held_any _ _ _ _ _ _ _ zs _ hL hz hln (by omega) L4.out (fun k hk => ⟨(HBD.out k hk).1, (HBD.out k hk).2.1⟩)).mono ?_
            rw [G2.out]
            rintro e w5 ⟨rfl, rfl⟩
            go_wp2_with fail
            go_meet
            exact ⟨rfl, rfl⟩
        case rest =>
          obtain ⟨rfl, rfl⟩ := hcut
          clear GK GQ GL HGB HCB hQ hL
          clear gd
          have he : OwnI 2 w4.heap.size (w4.alloc (.cells #[] 2)) (some ⟨w4.heap.size, 0, none⟩) 0 0 [] := World.ownsRow_lit (e := 2) (base := w4.heap.size) (size := 1) w4 #[] 0 (Nat.le_refl _) (Nat.zero_le _) rfl
          have hW4 : Below w4.heap.size w4 (w4.alloc (.cells #[] 2)) := (Below.refl _ _).alloc (Nat.le_refl _) _
          go_upto_region 23 with (fail)
          generalize w4.alloc (.cells #[] 2) = w5 at *
          go_loopg [15, 16] N (fun r sv iv wr => ∃ (j : Nat) (Z : Option Addr) (zc : Nat), r = N - j ∧ j ≤ N ∧ iv = .int .i64 (j : Int) ∧ sv = .slice Z j zc ∧ OwnI 2 w4.heap.size wr Z j zc (singL j) ∧ Below w4.heap.size w4 wr)
          case atStart => exact ⟨0, _, 0, by omega, by omega, rfl, rfl, he, hW4⟩
          case round =>
            clear he hW4
            obtain ⟨j, Z, zc, hr, hj, rfl, rfl, hown, hb⟩ := hrel
            have HR := Lib.hid hr
            clear hr
            by_cases hlt : j < N
            · have hp := shl_small j (by omega)
              have HS := Lib.hid (singL_succ j)
              generalize ((2 ^ j : Nat) : Int) = pj at *
              have hsz := hb.size
              go_wp2_with (at_builtin; refine wp_append_int _ _ rfl _ _ _ rfl 2 w4.heap.size Try.underlying26 info64 Z j zc _ rfl hown rfl (by omega) hsz ?_; intro g4 c4 w6 o4 u4 b4 hg4)
              go_roundg (N - (j + 1))
              case measure => rw [HR.out]; omega
              case rel => exact ⟨j + 1, _, _, rfl, by omega, by go_num, rfl, by rw [HS.out]; exact o4, hb.trans b4⟩
            · obtain rfl : N = j := by omega
              have hz1 := hz.below hb
              have bb1 := ext_trans bb hb
              have hsing := sing_facts N hN1 hN6
              unfold singT at hsing
              simp only [Bool.and_eq_true, decide_eq_true_eq] at hsing
              obtain ⟨⟨⟨e1, e2⟩, e3, e4⟩, e5, e6⟩ := hsing
              have E1 := Lib.hid e1
              have E2 := Lib.hid e2
              have E3 := Lib.hid e3
              have E4 := Lib.hid e4
              have E5 := Lib.hid e5
              have E6 := Lib.hid e6
              clear e1 e2 e3 e4 e5 e6
              rw [HW.out] at E5 E6
              go_wp2_with fail
              refine (implLeastCover_r _ _ _ _ _ _ hown.ints (by omega)).mono ?_
              rw [E1.out]
              rintro e w6 ⟨Y, yn, yc, rfl, ownY, b⟩
              obtain rfl : N = yn := E2.out.symm.trans ownY.len
              clear ownY
              replace bb1 := ext_trans bb1 b
              replace hz1 := hz1.below b
              replace hown := hown.below b
              replace hb := ext_trans hb b
              clear b
              go_wp2_with fail
              refine (implExactCovers_r _ _ _ _ _ _ hown.ints (by omega)).mono ?_
              rw [E3.out, E4.out]
              rintro e w7 ⟨rfl, b⟩
              replace bb1 := ext_trans bb1 b
              replace hz1 := hz1.below b
              replace hown := hown.below b
              replace hb := ext_trans hb b
              clear b
              have hsz := hb.size
              go_wp2_with (at_builtin; refine wp_append_int _ _ rfl _ _ _ rfl 2 w4.heap.size Try.underlying26 info64 Z N zc _ rfl hown rfl (by omega) hsz ?_; intro g4 c4 w8 o4 u4 b4 hg4)
              have bb2 := hb.trans b4
              have hz2 := hz.below bb2
              replace bb2 := ext_trans bb bb2
              clear u4 b4 hg4 hown hz1 bb1 hb
              refine (implExactCovers_r _ _ _ _ _ _ o4.ints (by omega)).mono ?_
              rw [E5.out, E6.out]
              rintro e w9 ⟨rfl, b⟩
              replace bb2 := ext_trans bb2 b
              replace hz2 := hz2.below b
              clear b o4
              have he : OwnI 2 w9.heap.size (w9.alloc (.cells #[] 2)) (some ⟨w9.heap.size, 0, none⟩) 0 0 [] := World.ownsRow_lit (e := 2) (base := w9.heap.size) (size := 1) w9 #[] 0 (Nat.le_refl _) (Nat.zero_le _) rfl
              have hW9 : Below w9.heap.size w9 (w9.alloc (.cells #[] 2)) := (Below.refl _ _).alloc (Nat.le_refl _) _
              go_upto_region 33 with (fail)
              generalize w9.alloc (.cells #[] 2) = w10 at *
              go_loopg [23, 24] M (fun r sv iv wr => ∃ (j : Nat) (Z : Option Addr) (zc : Nat), r = M - j ∧ j ≤ M ∧ iv = .int .i64 (j : Int) ∧ sv = .slice Z j zc ∧ OwnI 2 w9.heap.size wr Z j zc ((fillL zs).take j) ∧ Below w9.heap.size w9 wr)
              case atStart => exact ⟨0, _, 0, by omega, by omega, rfl, rfl, he, hW9⟩
              case round =>
                clear he hW9
                obtain ⟨j, Z, zc, hr, hj, rfl, rfl, hown, hb⟩ := hrel
                have HR := Lib.hid hr
                clear hr
                by_cases hlt : j < M
                · obtain ⟨ad, rfl, _, hc⟩ := (hz2.below hb).at_ hlt
                  have HC4 := Lib.hid (fun (W4 : World) (hh : Below w9.heap.size w9 W4) => ints_cell (hz2.below hh) hlt)
                  have HS := Lib.hid (fillL_snoc (zs := zs) (j := j) (by rw [HZL.out]; exact hlt))
                  generalize zs.getD j 0 = v at *
                  have hsz := hb.size
                  by_cases hv1 : v ≤ 1
                  · have HM := Lib.hid (show max 1 v = 1 by omega)
                    go_wp2_with (at_builtin; refine wp_append_int _ _ rfl _ _ _ rfl 2 w9.heap.size Try.underlying26 info64 Z j zc _ rfl hown rfl (by omega) hsz ?_; intro g4 c4 w6 o4 u4 b4 hg4; have hc4 := HC4.out w6 (hb.trans b4))
                    go_roundg (M - (j + 1))
                    case measure => rw [HR.out]; omega
                    case rel => exact ⟨j + 1, _, _, rfl, by omega, by go_num, rfl, by rw [HS.out, HM.out]; exact o4, hb.trans b4⟩
                  · have HM := Lib.hid (show max 1 v = v by omega)
                    go_wp2_with (at_builtin; refine wp_append_int _ _ rfl _ _ _ rfl 2 w9.heap.size Try.underlying26 info64 Z j zc _ rfl hown rfl (by omega) hsz ?_; intro g4 c4 w6 o4 u4 b4 hg4; have hc4 := HC4.out w6 (hb.trans b4))
                    go_roundg (M - (j + 1))
                    case measure => rw [HR.out]; omega
                    case rel => exact ⟨j + 1, _, _, rfl, by omega, by go_num, rfl, by rw [HS.out, HM.out]; exact o4, hb.trans b4⟩
                · obtain rfl : M = j := by omega
                  have hz3 := hown.ints
                  rw [List.take_of_length_le (by rw [fillL_len, HZL.out]; exact Nat.le_refl _)] at hz3
                  have bb3 := ext_trans bb2 hb
                  clear hz2 hb hown
                  have hfl : (fillL zs).length = M := by rw [fillL_len, HZL.out]
                  have hfb := fillL_bd (n := N) (zs := zs) hN1 (fun x hx => by rw [HW.out]; exact HALL.out x hx)
                  have hfb0 : ∀ x ∈ fillL zs, 0 ≤ x ∧ x ≤ wholeI N := fun x hx => by have := hfb x hx; omega
                  obtain ⟨f1, f2⟩ := exact_count (n := N) (zs := fillL zs) hN1 (by omega) (by omega) (by omega) hfb
                  obtain ⟨f3, f4⟩ := cover_few (n := N) (zs := fillL zs) hN1 (by omega) (by omega) (by omega) hfb0
                  have hbd := fun k (hk : k < (fillL zs).length) => (setsB_bd (sets_yes (n := N) (zs := fillL zs) hN1 (by omega) (by omega) (by omega) hfb0)).2.2.2.2 k hk
                  have h2f := nat_sets hfb0
                  have hnl := natL_len (fillL zs)
                  rw [hfl] at f2 f3 f4 hbd hnl
                  generalize fillL zs = fs at *
                  have FL := Lib.hid hfl
                  have F1 := Lib.hid f1
                  have F2 := Lib.hid f2
                  have F3 := Lib.hid f3
                  have F4 := Lib.hid f4
                  have FB := Lib.hid hbd
                  have FS := Lib.hid h2f
                  have NL := Lib.hid hnl
                  clear hfl hfb hfb0 f1 f2 f3 f4 hbd h2f hnl
                  go_wp2_with fail
                  refine (implExactCovers_r _ _ _ _ _ _ hz3 (by omega)).mono ?_
                  rw [F1.out]
                  rintro e w11 ⟨rfl, b⟩
                  replace bb3 := ext_trans bb3 b
                  replace hz3 := hz3.below b
                  clear b
                  have hPM := shl_small M (by omega)
                  have hP : 2 ^ M ≤ 64 := Nat.le_trans (Nat.pow_le_pow_right (by omega) hM6) (by decide)
                  go_upto_region 40 with (fail)
                  have HF := Lib.hid (show (2 ^ N - 1 : Nat) = W by rw [HWW.out])
                  generalize hfull : 2 ^ N - 1 = full at *
                  generalize hPP : 2 ^ M = P at *
                  have HP2 := Lib.hid hPP
                  clear hPP hfull
                  go_loop [27, 28, 29] (fun cv fv mv => ∃ k : Nat, k ≤ P ∧ mv = .int .i64 (k : Int) ∧ cv = .int .i64 ((cntL (natL fs) full k : Nat) : Int) ∧ cntL (natL fs) full k ≤ k ∧ fv = .int .i64 ((fewM (natL fs) full (M + 1) k : Nat) : Int) ∧ fewM (natL fs) full (M + 1) k ≤ M + 1) (fun _ _ mv => P - (intOf mv).toNat)
                  case atStart => exact ⟨0, Nat.zero_le _, rfl, rfl, Nat.zero_le _, by show Value.int .i64 ((M : Int) + 1) = Value.int .i64 ((M + 1 : Nat) : Int); rw [Int.natCast_add]; rfl, Nat.le_refl _⟩
                  case round =>
                    obtain ⟨k, hk, rfl, rfl, hck, rfl, hfk⟩ := hrel
                    by_cases hlt : k < P
                    · have HCY := Lib.hid (show cntL (natL fs) full (k + 1) = if sumTo (natL fs) k (natL fs).length = full ∧ orTo (natL fs) k (natL fs).length = full then cntL (natL fs) full k + 1 else cntL (natL fs) full k from rfl)
                      have HFY := Lib.hid (show fewM (natL fs) full (M + 1) (k + 1) = if orM (natL fs) k = full then min (fewM (natL fs) full (M + 1) k) (ones k) else fewM (natL fs) full (M + 1) k from rfl)
                      generalize cntL (natL fs) full k = ck at *
                      generalize fewM (natL fs) full (M + 1) k = fk at *
                      go_wp2_with fail
                      go_loop [30, 31, 32, 33] (fun sv uv zv iv => ∃ (j s u z : Nat), j ≤ M ∧ iv = .int .i64 (j : Int) ∧ sv = .int .i64 (s : Int) ∧ uv = .int .i64 (u : Int) ∧ zv = .int .i64 (z : Int) ∧ s ≤ 65535 * j ∧ u ≤ 65535 ∧ z ≤ j ∧ Hid (sumTo (natL fs) k j = s) ∧ Hid (orTo (natL fs) k j = u) ∧ Hid ((digitsTo k j).length = z)) (fun _ _ _ iv => M - (intOf iv).toNat)
                      case atStart => exact ⟨0, 0, 0, 0, Nat.zero_le _, rfl, rfl, rfl, rfl, by omega, by omega, by omega, Lib.hid rfl, Lib.hid rfl, Lib.hid rfl⟩
                      case round =>
                        obtain ⟨j, s, u, z, hj, rfl, rfl, rfl, rfl, hs, hu, hzj, Hs, Hu, Hz⟩ := hrel
                        by_cases hlj : j < M
                        · obtain ⟨ad, rfl, _, hc⟩ := hz3.at_ hlj
                          have hv := FB.out j hlj
                          have e1 := sumTo_succ (natL fs) k j
                          have e2 := orTo_succ (natL fs) k j
                          have e3 := congrArg List.length (digitsTo_succ k j)
                          rw [natL_get (by rw [FL.out]; exact hlj), Hs.out] at e1
                          rw [natL_get (by rw [FL.out]; exact hlj), Hu.out] at e2
                          have hbt := bit_test k j (by omega)
                          generalize fs.getD j 0 = v at *
                          obtain ⟨v0, v1, _⟩ := hv
                          obtain ⟨v, rfl⟩ := Int.eq_ofNat_of_zero_le v0
                          rw [Int.toNat_natCast] at e1 e2
                          have hor := i64_or_nat u v (by omega) (by omega)
                          have hle : u ||| v < 2 ^ 16 := Nat.or_lt_two_pow (by omega) (by omega)
                          generalize u ||| v = y at *
                          cases hb2 : k.testBit j
                          · rw [hb2] at hbt e1 e2 e3
                            have E1 := Lib.hid e1
                            have E2 := Lib.hid e2
                            have E3 := Lib.hid e3
                            clear e1 e2 e3 hb2
                            go_wp2
                            go_round
                            case rel => exact ⟨j + 1, s, u, z, by omega, by go_num, rfl, rfl, rfl, by omega, hu, by omega, Lib.hid E1.out, Lib.hid E2.out, Lib.hid (E3.out.trans Hz.out)⟩
                            case measure => simp [intOf]; omega
                          · rw [hb2] at hbt e1 e2 e3
                            have E1 := Lib.hid e1
                            have E2 := Lib.hid e2
                            have E3 := Lib.hid e3
                            clear e1 e2 e3 hb2
                            go_wp2
                            go_round
                            case rel => exact ⟨j + 1, s + v, y, z + 1, by omega, by go_num, by go_num, rfl, by go_num, by omega, by omega, by omega, Lib.hid E1.out, Lib.hid E2.out, Lib.hid (by have h := E3.out; rw [if_pos rfl, List.length_append, Hz.out] at h; exact h)⟩
                            case measure => simp [intOf]; omega
                        · obtain rfl : M = j := by omega
                          have hones := ones_to (m := k) (k := M) (by rw [HP2.out]; exact hlt) (by omega)
                          rw [Hz.out] at hones
                          rw [NL.out, Hs.out, Hu.out] at HCY
                          rw [orM, NL.out, Hu.out, ← hones] at HFY
                          clear hones Hs Hu Hz
                          by_cases hu1 : u = full
                          · have cu : ((u : Int) == W) = true := by rw [beq_iff_eq, ← HF.out, hu1]
                            have HF2 := Lib.hid (HFY.out.trans (if_pos hu1))
                            by_cases hs1 : s = full
                            · have cs : ((s : Int) == W) = true := by rw [beq_iff_eq, ← HF.out, hs1]
                              have HC2 := Lib.hid (HCY.out.trans (if_pos ⟨hs1, hu1⟩))
                              clear hu1 hs1
                              by_cases hfz : fk ≤ z
                              · have HM := Lib.hid (show min fk z = fk from Nat.min_eq_left hfz)
                                go_wp2_with fail
                                go_round
                                case rel => exact ⟨k + 1, by omega, by go_num, by rw [HC2.out]; go_num, by rw [HC2.out]; omega, by rw [HF2.out, HM.out], by rw [HF2.out, HM.out]; exact hfk⟩
                                case measure => simp [intOf]; omega
                              · have HM := Lib.hid (show min fk z = z from Nat.min_eq_right (by omega))
                                have hzf : z < fk := by omega
                                clear hfz
                                go_wp2_with fail
                                go_round
                                case rel => exact ⟨k + 1, by omega, by go_num, by rw [HC2.out]; go_num, by rw [HC2.out]; omega, by rw [HF2.out, HM.out], by rw [HF2.out, HM.out]; omega⟩
                                case measure => simp [intOf]; omega
                            · have cs : ((s : Int) == W) = false := by rw [beq_eq_false_iff_ne, ← HF.out]; omega
                              have HC2 := Lib.hid (HCY.out.trans (if_neg (fun h => hs1 h.1)))
                              clear hu1 hs1
                              by_cases hfz : fk ≤ z
                              · have HM := Lib.hid (show min fk z = fk from Nat.min_eq_left hfz)
                                go_wp2_with fail
                                go_round
                                case rel => exact ⟨k + 1, by omega, by go_num, by rw [HC2.out], by rw [HC2.out]; omega, by rw [HF2.out, HM.out], by rw [HF2.out, HM.out]; exact hfk⟩
                                case measure => simp [intOf]; omega
                              · have HM := Lib.hid (show min fk z = z from Nat.min_eq_right (by omega))
                                have hzf : z < fk := by omega
                                clear hfz
                                go_wp2_with fail
                                go_round
                                case rel => exact ⟨k + 1, by omega, by go_num, by rw [HC2.out], by rw [HC2.out]; omega, by rw [HF2.out, HM.out], by rw [HF2.out, HM.out]; omega⟩
                                case measure => simp [intOf]; omega
                          · have cu : ((u : Int) == W) = false := by rw [beq_eq_false_iff_ne, ← HF.out]; omega
                            have HF2 := Lib.hid (HFY.out.trans (if_neg hu1))
                            have HC2 := Lib.hid (HCY.out.trans (if_neg (fun h => hu1 h.2)))
                            by_cases hs1 : s = full
                            · have cs : ((s : Int) == W) = true := by rw [beq_iff_eq, ← HF.out, hs1]
                              clear hu1 hs1
                              go_wp2_with fail
                              go_round
                              case rel => exact ⟨k + 1, by omega, by go_num, by rw [HC2.out], by rw [HC2.out]; omega, by rw [HF2.out], by rw [HF2.out]; exact hfk⟩
                              case measure => simp [intOf]; omega
                            · have cs : ((s : Int) == W) = false := by rw [beq_eq_false_iff_ne, ← HF.out]; omega
                              clear hu1 hs1
                              go_wp2_with fail
                              go_round
                              case rel => exact ⟨k + 1, by omega, by go_num, by rw [HC2.out], by rw [HC2.out]; omega, by rw [HF2.out], by rw [HF2.out]; exact hfk⟩
                              case measure => simp [intOf]; omega
                    · obtain rfl : P = k := by omega
                      go_wp2_with fail
                      refine (implLeastCover_r _ _ _ _ _ _ hz3 (by omega)).mono ?_
                      rintro e w12 ⟨Y2, y2n, y2c, rfl, ownY2, b⟩
                      replace bb3 := ext_trans bb3 b
                      have hyl := ownY2.len
                      have FF3 := F3.out
                      have FF4 := F4.out
                      have FF2 := F2.out
                      rw [hyl] at FF4
                      clear ownY2 b
                      generalize coverB (N : Int) fs = sv at *
                      generalize exactV (N : Int) fs = ev at *
                      generalize cntL (natL fs) full P = ck at *
                      generalize fewM (natL fs) full (M + 1) P = fk at *
                      have cA : (ev == (ck : Int)) = true := by rw [beq_iff_eq, FF2]
                      have d3 : decide (fk ≤ M) = sv := FF3.symm
                      have D3 := Lib.hid d3
                      clear FF2 FF3 d3
                      cases sv
                      · have d4 := D3.out
                        go_wp2_with fail
                        go_ret
                        exact ⟨rfl, bb3⟩
                      · have d4 := D3.out
                        have d5 : ((y2n : Int) == (fk : Int)) = true := by rw [beq_iff_eq, FF4 rfl]
                        clear FF4
                        go_wp2_with fail
                        go_ret
                        exact ⟨rfl, bb3⟩
end Go.Proofs.Ytbdcnbnaammagaa
