/- The walk of the law FnBestPairs. -/
import Derived.Test.YtfoelpmglmaamaaBPFacts
import Derived.Test.YtfoelpmglmaamaaAsk2
import Derived.Test.YtfoelpmglmaamaaB10
import Derived.Test.YtfoelpmglmaamaaMakeV
import Derived.Test.YtfoelpmglmaamaaCovS
namespace Go.Proofs.Ytfoelpmglmaamaa
open Go.RowKit

theorem below_drewD {B : Nat} {a w w' : World} (h : Below B a w) (k : Drew w w') : Below B a w' := by
  obtain ⟨q, rfl⟩ := k
  exact below_drewN h q

set_option maxRecDepth 100000 in
set_option maxHeartbeats 1600000 in
theorem walk_BestPairsL (A0 : Option Addr) (n0 c0 : Nat) (A1 : Option Addr) (n1 c1 : Nat) (w : World) (h0 : BytesAt w A0 n0) (m0 : n0 ≤ maxLen) (h1 : BytesAt w A1 n1) (m1 : n1 ≤ maxLen) :
    Calls Try.prog 3 #[.slice A0 n0 c0, .slice A1 n1 c1] w fun e w' => e = .returned (.bool true) ∧ Below w.heap.size w w' := by
  have bb := Below.refl w.heap.size w
  by_cases hlong : (decide (1048576 < n0) || decide (1048576 < n1)) = true
  · have HX := Lib.hid hlong
    clear hlong
    go_enter Try.func3, Try.ntmps3
    go_wp2_with (go_at_call 7; refine (b10Long_any _ _ _ _ _ _ _ m0 m1).mono ?_; rw [HX.out]; rintro e w1 ⟨rfl, rfl⟩)
    go_ret
    exact ⟨rfl, bb⟩
  · rw [Bool.not_eq_true] at hlong
    have HX := Lib.hid hlong
    clear hlong
    go_enter Try.func3, Try.ntmps3
    go_wp2_with fail
    refine (b10Long_any _ _ _ _ _ _ _ m0 m1).mono ?_
    rw [HX.out]
    rintro e w1 ⟨rfl, rfl⟩
    go_wp2_with fail
    refine (b10At_any _ _ _ _ _ _ h1 m1 (by omega) (by omega) (by omega)).mono ?_
    rintro e w1 ⟨⟨s, rfl, hs⟩, rfl⟩
    have E1 := Lib.hid (show (1 : Int) + (s : Int) = ((1 + s : Nat) : Int) by omega)
    have hS1 : 1 ≤ 1 + s := by omega
    have hS6 : 1 + s ≤ 6 := by omega
    clear hs
    go_wp2_with fail
    rw [E1.out]
    clear E1
    generalize 1 + s = S at *
    refine (costs_any A0 n0 c0 S _ h0 m0 (by omega)).mono ?_
    rintro e w2 ⟨C, cc, cs, rfl, ownC, hcb, b⟩
    have hcl : cs.length = S * S := ownC.len
    have hc := ownC.ints
    have hss : S * S ≤ 6 * 6 := Nat.mul_le_mul hS6 hS6
    have HSQ := Lib.hid (fun i (hi : i < S) k (hk : k < S) => idx_lt' hi hk)
    have HOK := Lib.hid (bp_ok hS1 (by omega) hcl hcb)
    have HBD := Lib.hid (bp_bd (S := S) (by omega) hcl hcb)
    have HVB := Lib.hid (bp_vb hS1 (by omega) hcl hcb)
    obtain ⟨v1, v2, v3, v4⟩ := bpV_yes HOK.out
    obtain ⟨σ, hF⟩ := best_facts (cs := cs) hS1
    rw [← v1, ← v2, ← v3, ← v4] at hF
    rw [← v3] at HVB
    have F := Lib.hid hF
    have V3 := Lib.hid v3
    replace bb := ext_trans bb b
    replace h1 := h1.below b
    clear hcl hcb ownC v1 v2 v3 v4 hF b h0
    generalize hsq : S * S = q at *
    clear hsq
    go_wp2_with fail
    refine (implBestPairs_r _ _ _ _ cs _ hc (by omega)).mono ?_
    rintro e w3 ⟨P, p, cp, U, u, cu, V, v, cv, rfl, oP, oU, oV, -, -, -, b⟩
    rw [HOK.out]
    obtain rfl : S = p := F.out.pl.symm.trans oP.len
    obtain rfl : S = u := F.out.ul.symm.trans oU.len
    obtain rfl : S = v := F.out.vl.symm.trans oV.len
    have hP := oP.ints
    have hU := oU.ints
    have hV := oV.ints
    replace hc := hc.below b
    replace h1 := h1.below b
    replace bb := ext_trans bb b
    clear b oP oU oV
    generalize bpPV (S : Int) cs = ps at *
    generalize bpUV (S : Int) cs = us at *
    generalize bpVV (S : Int) cs = vs at *
    generalize bpIV (S : Int) cs = cost at *
    have HW3 := Lib.hid (fun (W : World) (hB : Below w3.heap.size w3 W) => hB.size)
    go_wp2_with (at_make; refine wp_make_valsV _ rfl _ _ _ rfl (.bool false) 1 rfl (by omega) 4 Try.underlying29 infoBV .i64 .i64 _ _ S rfl rfl rfl rfl (by omega) ?_; intro w4 gI oI bI)
    rw [show List.replicate S (Value.bool false) = (flagsT S ps 0).map Value.bool by rw [flagsT_zero]; simp] at oI
    have HFL := Lib.hid (flagsT_len S ps)
    have BB := Lib.hid bb
    have HB1 := Lib.hid h1
    have HPL := Lib.hid F.out.pl
    clear bb h1 HW3
    go_loopg [13, 14, 15, 16, 73] S (fun r sv pv _ _ iv wr => ∃ (j : Nat) (sm pr : Int), r = S - j ∧ j ≤ S ∧ iv = .int .i64 (j : Int) ∧ sv = .int .i64 sm ∧ pv = .int .i64 pr ∧ Hid (sm = sumI (fun i => cs.getD (i * S + σ i) 0) j) ∧ Hid (pr = sumI (fun i => us.getD i 0 + vs.getD i 0) j) ∧ (-100 * (j : Int) ≤ sm ∧ sm ≤ 100 * (j : Int)) ∧ (-100000000000 * (j : Int) ≤ pr ∧ pr ≤ 100000000000 * (j : Int)) ∧ OwnC 4 w3.heap.size 1 wr (some ⟨gI, 0, none⟩) S S ((flagsT S ps j).map Value.bool) ∧ Below w3.heap.size w3 wr)
    case atStart => exact ⟨0, 0, 0, by omega, by omega, rfl, rfl, rfl, Lib.hid rfl, Lib.hid rfl, by omega, by omega, oI, bI⟩
    case round =>
      clear oI bI
      obtain ⟨j, sm, pr, hr, hj, rfl, rfl, rfl, HSM, HPR, ⟨sm0, sm1⟩, ⟨pr0, pr1⟩, oI, bI⟩ := hrel
      have HR := Lib.hid hr
      clear hr
      by_cases hlt : j < S
      · obtain ⟨pd, rfl, _, hcp⟩ := (hP.below bI).at_ hlt
        obtain ⟨ud, rfl, _, hcu⟩ := (hU.below bI).at_ hlt
        obtain ⟨vd, rfl, _, hcv⟩ := (hV.below bI).at_ hlt
        obtain ⟨hat, hcS⟩ := F.out.at_ j hlt
        have HN2 := Lib.hid (show sumI (fun i => cs.getD (i * S + σ i) 0) (j + 1) = sumI (fun i => cs.getD (i * S + σ i) 0) j + cs.getD (j * S + σ j) 0 from rfl)
        have HN3 := Lib.hid (show sumI (fun i => us.getD i 0 + vs.getD i 0) (j + 1) = sumI (fun i => us.getD i 0 + vs.getD i 0) j + (us.getD j 0 + vs.getD j 0) from rfl)
        have hnew : hasB (ps.take j) (σ j : Int) = false := by
          rw [hasB_not]
          intro hm
          obtain ⟨i, hi, e⟩ := List.mem_iff_getElem.1 hm
          rw [List.length_take] at hi
          rw [List.getElem_take] at e
          have h2 := F.out.at_ i (by omega)
          have h3 := F.out.new i j (by omega) hlt
          have hpl := HPL.out
          simp only [List.getD, List.getElem?_eq_getElem (show i < ps.length by omega), Option.getD_some] at h2
          omega
        have hST := flagsT_set (N := S) (cut := ps) (j := j) (v := σ j) (by rw [HPL.out]; exact hlt) hat hcS
        rw [hat] at hcp
        have hci := OwnC.cell oI (j := σ j) (by omega)
        rw [flags_cell (HFL.out j) hcS, flagsT_at hcS, hnew] at hci
        have hfi := OwnC.free oI (σ j)
        have hidx := HSQ.out j hlt (σ j) hcS
        obtain ⟨cd, rfl, _, hcc⟩ := (hc.below bI).at_ hidx
        have HCP := Lib.hid (fun (W : World) (hB : Below w3.heap.size w3 W) => ints_cell (hP.below hB) hlt)
        have HCU := Lib.hid (fun (W : World) (hB : Below w3.heap.size w3 W) => ints_cell (hU.below hB) hlt)
        have HCV := Lib.hid (fun (W : World) (hB : Below w3.heap.size w3 W) => ints_cell (hV.below hB) hlt)
        have HCC := Lib.hid (fun (W : World) (hB : Below w3.heap.size w3 W) => ints_cell (hc.below hB) hidx)
        rw [hat] at HCP
        clear hcu hcv hcc
        have hbc := HBD.out (j * S + σ j) hidx
        have hu0 := F.out.u j hlt
        have hvb := HVB.out (σ j) hcS
        have hvj := HVB.out j hlt
        have hub : -5 ≤ us.getD j 0 ∧ us.getD j 0 ≤ 10000000014 := by omega
        have HLE := Lib.hid (fun k hk => F.out.le j k hlt hk)
        have HSTT := Lib.hid hST
        clear hu0 hvb hat hnew hST
        generalize hsj : σ j = sj at *
        have HSJ := Lib.hid hsj
        clear hsj
        generalize cs.getD (j * S + sj) 0 = y at *
        generalize us.getD j 0 = uj at *
        generalize vs.getD j 0 = vj at *
        have f1 : (j : Int) * (S : Int) = ((j * S : Nat) : Int) := by push_cast; rfl
        have v1 : IntKind.i64.wrap ((j : Int) * (S : Int)) = (j : Int) * (S : Int) := IntWalk.i64_in _ (by omega)
        have v3 : 0 ≤ (j : Int) * (S : Int) := by omega
        have v4 : ((j : Int) * (S : Int) + (sj : Int)).toNat = j * S + sj := by
          rw [show (j : Int) * (S : Int) + (sj : Int) = ((j * S + sj : Nat) : Int) from by push_cast; rfl]; rfl
        have v5 : (j : Int) * (S : Int) + (sj : Int) < (q : Int) := by omega
        have v6 : (j : Int) * (S : Int) ≤ 1000 := by omega
        have d1 : decide ((sj : Int) < 0) = false := by rw [decide_eq_false_iff_not]; omega
        have d2 : decide (S ≤ sj) = false := by rw [decide_eq_false_iff_not]; omega
        have HF1 := Lib.hid f1
        clear f1
        go_upto_region 17 with (fail)
        have o5 := OwnC.set oI sj (.bool true)
        rw [← List.map_set, HSTT.out] at o5
        have b5 := bI.setCell (p := ⟨gI, sj, none⟩) ((OwnC.lt oI rfl).1) (.bool true)
        generalize wr.setCell ⟨gI, sj, none⟩ (.bool true) = W5 at *
        have O5 := Lib.hid o5
        have B5 := Lib.hid b5
        have p5 := HCP.out W5 b5
        have u5 := HCU.out W5 b5
        have v5' := HCV.out W5 b5
        have c5 := HCC.out W5 b5
        clear o5 b5 hci hfi hcp oI bI
        go_wp2_with fail
        go_quiet (fail)
        go_wp2_with fail
        obtain ⟨W6, hW6⟩ : ∃ W6, W6 = W5.drewN nq := ⟨_, rfl⟩
        have B6 := Lib.hid (show Below w3.heap.size w3 W6 by rw [hW6]; exact below_drewN B5.out nq)
        have O6 := Lib.hid (show OwnC 4 w3.heap.size 1 W6 (some ⟨gI, 0, none⟩) S S ((flagsT S ps (j + 1)).map Value.bool) by rw [hW6]; exact OwnC.drewN O5.out nq)
        rw [← hW6]
        clear hW6 p5 u5 v5' c5 B5 O5 v4 v5
        have hyd := hbc
        go_loopg [16, 130] S (fun r _ iv wi => ∃ k : Nat, r = S - k ∧ k ≤ S ∧ iv = .int .i64 (k : Int) ∧ Drew W6 wi)
        case atStart => exact ⟨0, by omega, by omega, rfl, Drew.refl _⟩
        case round =>
          obtain ⟨k, hr, hk, rfl, m, rfl⟩ := hrel
          have HRK := Lib.hid hr
          clear hr
          by_cases hlk : k < S
          · have hidk := HSQ.out j hlt k hlk
            have p5 := HCU.out W6 B6.out
            have c5 := ints_cell (hc.below B6.out) hidk
            have v5 := ints_cell (hV.below B6.out) hlk
            have hle := HLE.out k hlk
            have hvk := HVB.out k hlk
            have hbk := HBD.out (j * S + k) hidk
            generalize vs.getD k 0 = vk at *
            generalize cs.getD (j * S + k) 0 = yk at *
            have f1 := HF1.out
            have v1 : IntKind.i64.wrap ((j : Int) * (S : Int)) = (j : Int) * (S : Int) := IntWalk.i64_in _ (by omega)
            have v2 : IntKind.i64.wrap ((j : Int) * (S : Int) + (k : Int)) = (j : Int) * (S : Int) + (k : Int) := IntWalk.i64_in _ (by omega)
            have v3 : 0 ≤ (j : Int) * (S : Int) + (k : Int) := by omega
            have v4 : ((j : Int) * (S : Int) + (k : Int)).toNat = j * S + k := by
              rw [show (j : Int) * (S : Int) + (k : Int) = ((j * S + k : Nat) : Int) from by push_cast; rfl]; rfl
            have v7 : (j : Int) * (S : Int) + (k : Int) < (q : Int) := by omega
            have v8 : IntKind.i64.wrap (uj + vk) = uj + vk := IntWalk.i64_in _ (by omega)
            have d3 : decide (yk < uj + vk) = false := by rw [decide_eq_false_iff_not]; omega
            have hkS : (k : Int) < (S : Int) := by omega
            clear f1 hle
            go_wp2_with fail
            go_quiet (fail)
            go_wp2_with fail
            go_roundg (S - (k + 1))
            case measure => rw [HRK.out]; omega
            case rel => exact ⟨k + 1, rfl, by omega, by go_num, ⟨_, rfl⟩⟩
          · obtain rfl : S = k := by omega
            go_wp2_with fail
            go_roundg (S - (j + 1))
            case measure => rw [HR.out]; omega
            case rel => exact ⟨j + 1, sm + y, pr + (uj + vj), rfl, by omega, by go_num, rfl, rfl, Lib.hid (by rw [HN2.out, HSM.out]), Lib.hid (by rw [HN3.out, HPR.out]), by omega, by omega, OwnC.drewN O6.out m, below_drewN B6.out m⟩
      · obtain rfl : S = j := by omega
        have hsum := F.out.sum
        have hpri := F.out.price
        rw [← HSM.out] at hsum
        rw [← HPR.out] at hpri
        subst hsum
        subst hpri
        have h1 := HB1.out.below bI
        have bb := ext_trans BB.out bI
        clear oI hP hU hV hc HSM HPR
        go_wp2_with fail
        refine (b10At_any _ _ _ _ _ _ h1 m1 (by omega) (by omega) (by omega)).mono ?_
        rintro e w5 ⟨⟨l, rfl, hl⟩, rfl⟩
        have EL := Lib.hid (show (1 : Int) + (l : Int) = ((1 + l : Nat) : Int) by omega)
        have hL1 : 1 ≤ 1 + l := by omega
        have hL7 : 1 + l ≤ 7 := by omega
        clear hl
        go_wp2_with fail
        rw [EL.out]
        clear EL
        generalize 1 + l = Lf at *
        refine (b10At_any _ _ _ _ _ _ h1 m1 (by omega) (by omega) (by omega)).mono ?_
        rintro e w5 ⟨⟨r, rfl, hr⟩, rfl⟩
        have ER := Lib.hid (show (1 : Int) + (r : Int) = ((1 + r : Nat) : Int) by omega)
        have hR1 : 1 ≤ 1 + r := by omega
        have hR7 : 1 + r ≤ 7 := by omega
        clear hr
        go_wp2_with fail
        rw [ER.out]
        clear ER
        generalize 1 + r = Rt at *
        refine (pairs_any _ _ _ Lf Rt _ h1 m1 hL1 (by omega) hR1 (by omega)).mono ?_
        rintro e w5 ⟨D, m, dc, zs, rfl, oD, hm13, hpo, b⟩
        have hD := oD.ints
        have hzl := hD.len
        have HYES := Lib.hid (sides_yes hL1 (by omega) hR1 (by omega) hzl (by omega) hpo)
        have SF := Lib.hid (sides_facts hpo)
        have HPO := Lib.hid hpo
        have HMV := Lib.hid (show matV (Lf : Int) (Rt : Int) zs = (matTo zs m Lf Rt Lf).L by rw [matV_yes HYES.out, matS_eq hzl])
        have HCV := Lib.hid (covV_yes HYES.out hzl)
        replace bb := ext_trans bb b
        clear b oD hpo hzl h1
        go_wp2_with fail
        refine (implMatchSides_r _ _ _ _ _ zs _ hD (by omega)).mono ?_
        rw [HYES.out, HMV.out]
        rintro e w6 ⟨M, mn, mc, rfl, oM, b⟩
        obtain rfl : Lf = mn := SF.out.mat.ll.symm.trans oM.len
        have hM := oM.ints
        replace hD := hD.below b
        replace bb := ext_trans bb b
        clear b oM
        go_wp2_with fail
        refine (implCoverSides_r _ _ _ _ _ zs _ hD (by omega)).mono ?_
        rw [HYES.out, HCV.out]
        rintro e w7 ⟨XA, xn, xc, XB, yn, yc, rfl, oX, oY, -, b⟩
        have hX := oX.ints
        have hY := oY.ints
        have hXl := hX.len
        have hYl := hY.len
        replace hD := hD.below b
        replace hM := hM.below b
        replace bb := ext_trans bb b
        clear b oX oY
        have HCNT := Lib.hid (show xn + yn = cntLU (matTo zs m Lf Rt Lf).L Lf by rw [← hXl, ← hYl]; exact SF.out.cnt)
        have HCOV := Lib.hid SF.out.cov
        have hxL : xn ≤ Lf := by rw [← hXl]; exact setTo_len _ _
        have hyR : yn ≤ Rt := by rw [← hYl]; exact setTo_len _ _
        clear hXl hYl
        generalize setTo (covAll zs m Lf Rt).a Lf = xa at *
        generalize setTo (covAll zs m Lf Rt).r Rt = xb at *
        have HMAT := Lib.hid SF.out.mat
        have HREAL := Lib.hid SF.out.real
        clear SF HCV HMV
        generalize (matTo zs m Lf Rt Lf).L = ml at *
        generalize (matTo zs m Lf Rt Lf).R = mr at *
        go_wp2_with (at_make; refine wp_make_valsV _ rfl _ _ _ rfl (.bool false) 1 rfl (by omega) 4 Try.underlying29 infoBV .i64 .i64 _ _ Rt rfl rfl rfl rfl (by omega) ?_; intro w8 gT oT bT)
        rw [show List.replicate Rt (Value.bool false) = (flagsT Rt ml 0).map Value.bool by rw [flagsT_zero]; simp] at oT
        have HFT := Lib.hid (flagsT_len Rt ml)
        have HZL := Lib.hid hD.len
        have B7 := Lib.hid bb
        have hLl : (Lf : Int) ≤ 7 := by omega
        have hM2 : 2 * m ≤ 26 := by omega
        generalize hmm : 2 * m = M2 at *
        have HMM := Lib.hid hmm
        clear bb hmm
        go_loopg [25, 27, 28, 29, 202] Lf (fun r cv _ _ _ iv wr => ∃ j : Nat, r = Lf - j ∧ j ≤ Lf ∧ iv = .int .i64 (j : Int) ∧ cv = .int .i64 ((cntLU ml j : Nat) : Int) ∧ OwnC 4 w7.heap.size 1 wr (some ⟨gT, 0, none⟩) Rt Rt ((flagsT Rt ml j).map Value.bool) ∧ Below w7.heap.size w7 wr)
        case atStart => exact ⟨0, by omega, by omega, rfl, rfl, oT, bT⟩
        case round =>
          clear oT bT
          obtain ⟨j, hr, hj, rfl, rfl, oT, bT⟩ := hrel
          have HR := Lib.hid hr
          clear hr
          have HCS := Lib.hid (cntLU_succ ml j)
          have hcle := cntLU_le ml j
          generalize hct : cntLU ml j = ct at *
          have HCT := Lib.hid hct
          clear hct
          by_cases hlt : j < Lf
          · obtain ⟨md, rfl, _, hcm⟩ := (hM.below bT).at_ hlt
            have HCM := Lib.hid (fun (W : World) (hB : Below w7.heap.size w7 W) => ints_cell (hM.below hB) hlt)
            rcases HMAT.out.hl j hlt with hm1 | ⟨y, hy1, hy2, hy3⟩
            · have HSK := Lib.hid (flagsT_skip (N := Rt) (cut := ml) (j := j) (by rw [HMAT.out.ll]; exact hlt) (by rw [hm1]; decide))
              have HC2 := Lib.hid (HCS.out.trans (by rw [if_neg (show ¬ 0 ≤ ml.getD j 0 by rw [hm1]; decide)]))
              rw [hm1] at hcm
              clear hm1
              go_wp2_with fail
              go_roundg (Lf - (j + 1))
              case measure => rw [HR.out]; omega
              case rel => exact ⟨j + 1, rfl, by omega, by go_num, by rw [HC2.out]; rfl, by rw [HSK.out]; exact oT, bT⟩
            · have hnew := mat_new HMAT.out hlt (by omega)
              have HST := Lib.hid (flagsT_set (N := Rt) (cut := ml) (j := j) (v := y) (by rw [HMAT.out.ll]; exact hlt) hy1 hy2)
              have HC2 := Lib.hid (HCS.out.trans (by rw [if_pos (show 0 ≤ ml.getD j 0 by rw [hy1]; omega)]))
              have hthere : thereTo zs (j : Int) (y : Int) m = true := by
                obtain ⟨i, i1, i2, i3⟩ := HREAL.out y (by omega) (by rw [HMAT.out.rl]; exact hy2)
                have i4 := HPO.out i i1
                rw [hy3] at i2
                exact there_yes m i1 i2 (by unfold pY at i3; omega)
              have HTH := Lib.hid hthere
              rw [hy1] at hnew hcm HCM
              have hci := OwnC.cell oT (j := y) (by omega)
              rw [flags_cell (HFT.out j) hy2, flagsT_at hy2, hnew] at hci
              have hfi := OwnC.free oT y
              have d0 : ((y : Int) == -1) = false := by rw [beq_eq_false_iff_ne]; omega
              have d1 : decide ((y : Int) < 0) = false := by rw [decide_eq_false_iff_not]; omega
              have d2 : decide (Rt ≤ y) = false := by rw [decide_eq_false_iff_not]; omega
              have hyR' : (y : Int) < (Rt : Int) := by omega
              clear hy1 hy3 hthere hnew
              go_upto_region 44 with (fail)
              have o5 := OwnC.set oT y (.bool true)
              rw [← List.map_set, HST.out] at o5
              have b5 := bT.setCell (p := ⟨gT, y, none⟩) ((OwnC.lt oT rfl).1) (.bool true)
              generalize wr.setCell ⟨gT, y, none⟩ (.bool true) = W5 at *
              have O5 := Lib.hid o5
              have B5 := Lib.hid b5
              have p5 := HCM.out W5 b5
              clear o5 b5 hci hfi hcm oT bT
              go_wp2_with fail
              have HPP := Lib.hid (fun (W : World) (hB : Drew W5 W) => (HCM.out W (below_drewD B5.out hB)))
              have HDD := Lib.hid (fun (W : World) (hB : Drew W5 W) => hD.below (below_drewD B5.out hB))
              go_loopg [28, 29] m (fun rr tv kv wi => ∃ q kk : Nat, rr = m - q ∧ q ≤ m ∧ Hid (kk = 2 * q) ∧ kv = .int .i64 (kk : Int) ∧ tv = .bool (thereTo zs (j : Int) (y : Int) q) ∧ Drew W5 wi)
              case atStart => exact ⟨0, 0, by omega, by omega, Lib.hid rfl, rfl, rfl, Drew.refl _⟩
              case round =>
                obtain ⟨q', kk, hrq, hq, HK, rfl, rfl, hdw⟩ := hrel
                have HRQ := Lib.hid hrq
                clear hrq
                have HTS := Lib.hid (show thereTo zs (j : Int) (y : Int) (q' + 1) = (thereTo zs (j : Int) (y : Int) q' || (zs.getD (2 * q') 0 == (j : Int) && zs.getD (2 * q' + 1) 0 == (y : Int))) from rfl)
                rw [← HK.out] at HTS
                by_cases hlq : q' < m
                · have hkM : kk + 1 < M2 := by have := HK.out; have := HMM.out; omega
                  have hkM0 : kk < M2 := by omega
                  obtain ⟨dd, rfl, _, hd0⟩ := (HDD.out _ hdw).at_ hkM0
                  have hd1 : wr.cell? ⟨dd.block, dd.off + (kk + 1), none⟩ = some (.int .i64 (zs.getD (kk + 1) 0)) := ints_cell (HDD.out _ hdw) hkM
                  have hp0 := HPP.out _ hdw
                  have v1 : IntKind.i64.wrap ((kk : Int) + 1) = (kk : Int) + 1 := IntWalk.i64_in _ (by omega)
                  have v2 : (0 : Int) ≤ (kk : Int) + 1 := by omega
                  have v3 : ((kk : Int) + 1).toNat = kk + 1 := by omega
                  have v4 : (kk : Int) + 1 < (M2 : Int) := by omega
                  have HK2 := Lib.hid (show kk + 1 + 1 = 2 * (q' + 1) by have := HK.out; omega)
                  generalize zs.getD kk 0 = x0 at *
                  generalize zs.getD (kk + 1) 0 = x1 at *
                  generalize thereTo zs (j : Int) (y : Int) q' = th at *
                  obtain ⟨qd, rfl⟩ := hdw
                  have hdw : Drew W5 (W5.drewN qd) := ⟨qd, rfl⟩
                  generalize W5.drewN qd = W9 at *
                  have DONE := Lib.hid (fun (b : Bool) (hb : thereTo zs (j : Int) (y : Int) (q' + 1) = b) => hb)
                  cases th
                  · cases e0 : (x0 == (j : Int))
                    · have HE := Lib.hid (show thereTo zs (j : Int) (y : Int) (q' + 1) = false by rw [HTS.out, e0]; rfl)
                      go_wp2_with fail
                      go_quiet (fail)
                      go_wp2_with fail
                      go_roundg (m - (q' + 1))
                      case measure => rw [HRQ.out]; omega
                      case rel => exact ⟨q' + 1, kk + 2, rfl, by omega, Lib.hid HK2.out, by go_num, by rw [HE.out], Drew.step hdw _⟩
                    · cases e1 : (x1 == (y : Int))
                      · have HE := Lib.hid (show thereTo zs (j : Int) (y : Int) (q' + 1) = false by rw [HTS.out, e0, e1]; rfl)
                        go_wp2_with fail
                        go_quiet (fail)
                        go_wp2_with fail
                        go_roundg (m - (q' + 1))
                        case measure => rw [HRQ.out]; omega
                        case rel => exact ⟨q' + 1, kk + 2, rfl, by omega, Lib.hid HK2.out, by go_num, by rw [HE.out], Drew.step hdw _⟩
                      · have HE := Lib.hid (show thereTo zs (j : Int) (y : Int) (q' + 1) = true by rw [HTS.out, e0, e1]; rfl)
                        go_wp2_with fail
                        go_quiet (fail)
                        go_wp2_with fail
                        go_roundg (m - (q' + 1))
                        case measure => rw [HRQ.out]; omega
                        case rel => exact ⟨q' + 1, kk + 2, rfl, by omega, Lib.hid HK2.out, by go_num, by rw [HE.out], Drew.step hdw _⟩
                  · have HE := Lib.hid (show thereTo zs (j : Int) (y : Int) (q' + 1) = true by rw [HTS.out]; rfl)
                    go_wp2_with fail
                    go_quiet (fail)
                    go_wp2_with fail
                    go_roundg (m - (q' + 1))
                    case measure => rw [HRQ.out]; omega
                    case rel => exact ⟨q' + 1, kk + 2, rfl, by omega, Lib.hid HK2.out, by go_num, by rw [HE.out], Drew.step hdw _⟩
                · obtain rfl : m = q' := by omega
                  have hkM : kk = M2 := by have := HK.out; have := HMM.out; omega
                  subst hkM
                  rw [HTH.out]
                  obtain ⟨qd, rfl⟩ := hdw
                  go_wp2_with fail
                  go_roundg (Lf - (j + 1))
                  case measure => rw [HR.out]; omega
                  case rel => exact ⟨j + 1, rfl, by omega, by go_num, by rw [HC2.out]; rfl, OwnC.drewN O5.out qd, below_drewN B5.out qd⟩
          · obtain rfl : Lf = j := by omega
            have hX2 := (hX.below bT)
            have hY2 := (hY.below bT)
            have hD2 := (hD.below bT)
            have bb := ext_trans B7.out bT
            have hcnt := HCNT.out
            rw [HCT.out] at hcnt
            clear oT bT HCS
            have dc1 : (((xn : Int) + (yn : Int)) == (ct : Int)) = true := by rw [beq_iff_eq]; omega
            have DC := Lib.hid dc1
            clear hcnt dc1
            go_wp2_with fail
            go_loop [30] (fun kv => ∃ q kk : Nat, q ≤ m ∧ Hid (kk = 2 * q) ∧ kv = .int .i64 (kk : Int)) (fun kv => M2 - (intOf kv).toNat)
            case atStart => exact ⟨0, 0, by omega, Lib.hid rfl, rfl⟩
            case round =>
              obtain ⟨q', kk, hq, HK, rfl⟩ := hrel
              by_cases hlq : q' < m
              · have hkM : kk + 1 < M2 := by have := HK.out; have := HMM.out; omega
                have hkM0 : kk < M2 := by omega
                obtain ⟨dd, rfl, _, hd0⟩ := hD2.at_ hkM0
                have hd1 : wr.cell? ⟨dd.block, dd.off + (kk + 1), none⟩ = some (.int .i64 (zs.getD (kk + 1) 0)) := ints_cell hD2 hkM
                have HK2 := Lib.hid (show kk + 1 + 1 = 2 * (q' + 1) by have := HK.out; omega)
                have hcov := HCOV.out q' hlq
                have hpo := HPO.out q' hlq
                unfold pX pY at hcov
                rw [← HK.out] at hcov hpo
                generalize zs.getD kk 0 = x0 at *
                generalize zs.getD (kk + 1) 0 = x1 at *
                have hcov : hasB xa x0 = true ∨ hasB xb x1 = true := by
                  rcases hcov with h | h
                  · exact .inl (hasB_iff.2 h)
                  · right
                    rw [show ((x1.toNat : Nat) : Int) = x1 by omega] at h
                    exact hasB_iff.2 h
                have hd2 : kk + 2 ≤ M2 := by have := HK.out; have := HMM.out; omega
                clear hpo
                cases ha : hasB xa x0
                · have hb : hasB xb x1 = true := by
                    rcases hcov with h | h
                    · rw [ha] at h; cases h
                    · exact h
                  have HA := Lib.hid ha
                  have HB := Lib.hid hb
                  clear ha hb hcov
                  go_wp2_with fail
                  refine (b10Has_any _ _ _ xa _ _ hX2 (by omega)).mono ?_
                  rw [HA.out]
                  rintro e w9 ⟨rfl, rfl⟩
                  go_wp2_with fail
                  refine (b10Has_any _ _ _ xb _ _ hY2 (by omega)).mono ?_
                  rw [HB.out]
                  rintro e w9 ⟨rfl, rfl⟩
                  go_wp2_with fail
                  go_round
                  case rel => exact ⟨q' + 1, kk + 2, by omega, Lib.hid HK2.out, by go_num⟩
                  case measure => simp [intOf]; omega
                · have HA := Lib.hid ha
                  clear ha hcov
                  go_wp2_with fail
                  refine (b10Has_any _ _ _ xa _ _ hX2 (by omega)).mono ?_
                  rw [HA.out]
                  rintro e w9 ⟨rfl, rfl⟩
                  go_wp2_with fail
                  go_round
                  case rel => exact ⟨q' + 1, kk + 2, by omega, Lib.hid HK2.out, by go_num⟩
                  case measure => simp [intOf]; omega
              · obtain rfl : m = q' := by omega
                have hkM : kk = M2 := by have := HK.out; have := HMM.out; omega
                subst hkM
                have dc1 := DC.out
                go_wp2_with fail
                go_ret
                exact ⟨rfl, bb⟩
end Go.Proofs.Ytfoelpmglmaamaa
