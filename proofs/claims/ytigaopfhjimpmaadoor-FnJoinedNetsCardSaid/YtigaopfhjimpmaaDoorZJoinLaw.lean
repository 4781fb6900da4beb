/- The walk of the law FnJoinedNets. -/
import Derived.Test.YtigaopfhjimpmaaDoorJ4
import Derived.Test.YtigaopfhjimpmaaDoorZB10
import Derived.Test.YtigaopfhjimpmaaDoorZMatS
import Derived.Test.YtigaopfhjimpmaaDoorZKirT
import Derived.Test.YtigaopfhjimpmaaDoorZKruT
namespace Go.Proofs.YtigaopfhjimpmaaDoor
open Go.RowKit

set_option maxRecDepth 100000 in
set_option maxHeartbeats 3200000 in
theorem walk_JoinedNets (A0 : Option Addr) (n0 c0 : Nat) (A1 : Option Addr) (n1 c1 : Nat) (w : World) (h0 : BytesAt w A0 n0) (m0 : n0 ≤ maxLen) (h1 : BytesAt w A1 n1) (m1 : n1 ≤ maxLen) (ht : HTab w) :
    Calls Tryd.prog 4 #[.slice A0 n0 c0, .slice A1 n1 c1] w fun e w' => e = .returned (.bool true) ∧ Below w.heap.size w w' := by
  have bb := Below.refl w.heap.size w
  have HT := Lib.hid ht
  clear ht
  by_cases hlong : (decide (1048576 < n0) || decide (1048576 < n1)) = true
  · have HX := Lib.hid hlong
    clear hlong
    go_enter Tryd.func4, Tryd.ntmps4
    go_wp2_with (go_at_call 14; refine (b10Long_any _ _ _ _ _ _ _ m0 m1).mono ?_; rw [HX.out]; rintro e w1 ⟨rfl, rfl⟩)
    go_ret
    exact ⟨rfl, bb⟩
  · rw [Bool.not_eq_true] at hlong
    have HX := Lib.hid hlong
    clear hlong
    go_enter Tryd.func4, Tryd.ntmps4
    go_wp2_with fail
    refine (b10Long_any _ _ _ _ _ _ _ m0 m1).mono ?_
    rw [HX.out]
    rintro e w1 ⟨rfl, rfl⟩
    go_wp2_with fail
    refine (b10Net_any A0 n0 c0 5 _ h0 m0 (by omega) (by omega)).mono ?_
    rintro e w1 ⟨N, L, m, q, xs, rfl, own, hd, hu⟩
    have b := Upd.ext hu
    have hN2 := hd.lo
    have hN5 := hd.hi
    have hxl := (OwnA.arcs own).1
    have hm10 : m ≤ 10 := by rw [← hxl]; exact hd.len
    have hmL : m ≤ maxLen := by unfold maxLen; omega
    have HXL := Lib.hid hxl
    have HV := Lib.hid (netD_valid hd (by omega))
    replace h1 := h1.below b
    have bb1 := ext_trans bb b
    clear hd hu b hxl
    have kb := Blk.new w1 31 #[.int .i64 (N : Int), .slice L m q]
    have hx := (OwnA.arcs own).alloc (.cells #[.int .i64 (N : Int), .slice L m q] 31)
    have b2 : Below w1.heap.size w1 (w1.alloc (.cells #[.int .i64 (N : Int), .slice L m q] 31)) := (Below.refl _ _).alloc (Nat.le_refl _) _
    replace h1 := h1.below b2
    have bb2 := ext_trans bb1 b2
    have hlt := kb.lt
    have q0 := kb.cell 0
    have q1 := kb.cell 1
    clear own b2
    go_wp2_with fail
    generalize w1.alloc (.cells #[.int .i64 (N : Int), .slice L m q] 31) = w2 at *
    generalize w1.heap.size = g at *
    have HKB := Lib.hid kb
    refine (implMatchAll_r N L m q xs _ hx hmL (HT.out.below bb2)).mono ?_
    obtain ⟨mo, hmo⟩ : ∃ mo, mo = maV N xs := ⟨_, rfl⟩
    have HMO := Lib.hid hmo
    have HJ := Lib.hid (fun R (hR : R < N) => join_facts (R := R) HV.out hN2 hN5 hR)
    have hJ0 := HJ.out 0 (by omega)
    have HM := Lib.hid hJ0.mlen
    have HP := Lib.hid hJ0.pairs
    have HA := Lib.hid hJ0.arcs
    rw [← HMO.out] at HM HP HA
    rw [hJ0.maB, ← HMO.out]
    rintro e w3 ⟨M, mn, mc, rfl, oM, b⟩
    obtain rfl : N = mn := by rw [← oM.len]; exact HM.out.symm
    have hM := oM.ints
    replace hx := hx.below b
    replace h1 := h1.below b
    replace bb2 := ext_trans bb2 b
    replace HKB := Lib.hid (HKB.out.ext b)
    clear b oM q0 q1 kb hmo
    have q0 := HKB.out.cell 0
    have q1 := HKB.out.cell 1
    go_wp2_with fail
    refine (specMatchAll_r N L m q xs _ hx hmL).mono ?_
    rw [hJ0.maB, ← HMO.out]
    rintro e w4 ⟨W, wn, wc, rfl, oW, b⟩
    obtain rfl : N = wn := by rw [← oW.len]; exact HM.out.symm
    have hW := oW.ints
    replace hx := hx.below b
    replace h1 := h1.below b
    replace hM := hM.below b
    replace bb2 := ext_trans bb2 b
    replace HKB := Lib.hid (HKB.out.ext b)
    clear b oW q0 q1 hJ0
    have q0 := HKB.out.cell 0
    have q1 := HKB.out.cell 1
    go_wp2_with fail
    refine (b10Ints_any _ _ _ _ _ _ _ _ _ hM hW (by unfold maxLen; omega) (by unfold maxLen; omega)).mono ?_
    rw [decide_eq_true (rfl : mo = mo)]
    rintro e w5 ⟨rfl, hdr⟩
    have b := hdr.below
    clear hdr hW
    replace hx := hx.below b
    replace h1 := h1.below b
    replace hM := hM.below b
    replace bb2 := ext_trans bb2 b
    replace HKB := Lib.hid (HKB.out.ext b)
    clear b q0 q1
    have q0 := HKB.out.cell 0
    have q1 := HKB.out.cell 1
    go_wp2_with fail
    go_loopg [10, 64] N (fun r _ iv wr => ∃ i : Nat, r = N - i ∧ i ≤ N ∧ iv = .int .i64 (i : Int) ∧ Below w5.heap.size w5 wr)
    case atStart => exact ⟨0, by omega, by omega, rfl, Below.refl _ _⟩
    case round =>
      clear q0 q1
      obtain ⟨i, hr, hi, rfl, hb⟩ := hrel
      have HR := Lib.hid hr
      clear hr
      obtain ⟨wo, rfl⟩ : ∃ wo : World, wo = wr := ⟨_, rfl⟩
      have q0 := (HKB.out.ext hb).cell 0
      have q1 := (HKB.out.ext hb).cell 1
      by_cases hiN : i < N
      · have hii : (i : Int) < (N : Int) := Int.ofNat_lt.2 hiN
        obtain ⟨ad, rfl, _, hc1⟩ := (hM.below hb).at_ hiN
        --FAST{
        rcases HP.out i hiN with hn | ⟨k, hk, hki, e1, e2⟩
        · rw [hn] at hc1
          go_wp2_with fail
          go_roundg (N - (i + 1))
          case measure => rw [HR.out]; exact Nat.sub_lt_sub_left hiN (Nat.lt_succ_self i)
          case rel => exact ⟨i + 1, rfl, hiN, by first | rfl | go_num, hb⟩
        · rw [e1] at hc1
          obtain ⟨bd, hbd, _, hc2⟩ := (hM.below hb).at_ hk
          cases hbd
          rw [e2] at hc2
          have hkI : (k : Int) < (N : Int) := Int.ofNat_lt.2 hk
          have d0 : ((k : Int) == -1) = false := by rw [beq_eq_false_iff_ne]; omega
          have d1 : decide ((k : Int) < 0) = false := by rw [decide_eq_false_iff_not]; omega
          have d2 : decide ((k : Int) ≥ (N : Int)) = false := by rw [decide_eq_false_iff_not]; omega
          have d3 : decide ((N : Int) ≤ (k : Int)) = false := by rw [decide_eq_false_iff_not]; omega
          have d6 : decide (N ≤ k) = false := by rw [decide_eq_false_iff_not]; omega
          have d4 : ((i : Int) != (i : Int)) = false := by simp
          have d5 : ((k : Int) == (i : Int)) = false := by rw [beq_eq_false_iff_ne]; omega
          clear e1 e2
          go_wp2_with fail
          go_quiet (fail)
          go_wp2_with fail
          go_roundg (N - (i + 1))
          case measure => rw [HR.out]; exact Nat.sub_lt_sub_left hiN (Nat.lt_succ_self i)
          case rel => exact ⟨i + 1, rfl, hiN, by first | rfl | go_num, ext_drewN hb _⟩
        --FAST}
      · obtain rfl : N = i := Nat.le_antisymm (Nat.le_of_not_lt hiN) hi
        replace hx := hx.below hb
        replace h1 := h1.below hb
        replace hM := hM.below hb
        replace bb2 := ext_trans bb2 hb
        replace HKB := Lib.hid (HKB.out.ext hb)
        clear hb
        go_wp2_with fail
        go_loopg [11, 109] m (fun r _ iv wr => ∃ i : Nat, r = m - i ∧ i ≤ m ∧ iv = .int .i64 (i : Int) ∧ wr = wo)
        case atStart => exact ⟨0, by omega, by omega, rfl, rfl⟩
        case round =>
          obtain ⟨i, hr, hi, rfl, rfl⟩ := hrel
          have HR2 := Lib.hid hr
          clear hr
          by_cases him : i < m
          · have hii : (i : Int) < (m : Int) := Int.ofNat_lt.2 him
            --FAST{
            obtain ⟨f1, f2, f3⟩ := arcs_inJ HV.out i (by rw [HXL.out]; exact him)
            have HAI := Lib.hid (HA.out i (by rw [HXL.out]; exact him))
            obtain ⟨⟨a0, _⟩, ⟨t0, _⟩, _⟩ := (valid_bd HV.out).2.2.2 i (by rw [HXL.out]; exact him)
            obtain ⟨ad, rfl, had, k0, k1, _, _⟩ := hx.at_ him
            have HFR := Lib.hid (show (xs.getD i default).fr = ((frN xs i : Nat) : Int) from by unfold frN; omega)
            have HTO := Lib.hid (show (xs.getD i default).to_ = ((toN xs i : Nat) : Int) from by unfold toN; omega)
            rw [HFR.out] at k0
            rw [HTO.out] at k1
            obtain ⟨bd, rfl, _, c1⟩ := hM.at_ f1
            obtain ⟨bd', hbd, _, c2⟩ := hM.at_ f2
            cases hbd
            have hfI : (frN xs i : Int) < (N : Int) := Int.ofNat_lt.2 f1
            have htI : (toN xs i : Int) < (N : Int) := Int.ofNat_lt.2 f2
            generalize mo.getD (frN xs i) 0 = u at *
            generalize mo.getD (toN xs i) 0 = v at *
            generalize frN xs i = f at *
            generalize toN xs i = t at *
            clear a0 t0
            by_cases hu : u = -1
            · have hvn : v ≠ -1 := fun e => HAI.out ⟨hu, e⟩
              have d2 : (v == -1) = false := beq_eq_false_iff_ne.2 hvn
              rw [hu] at c1
              clear hu hvn HAI
              go_wp2_with fail
              go_roundg (m - (i + 1))
              case measure => rw [HR2.out]; exact Nat.sub_lt_sub_left him (Nat.lt_succ_self i)
              case rel => exact ⟨i + 1, rfl, him, by first | rfl | go_num, rfl⟩
            · have d2 : (u == -1) = false := beq_eq_false_iff_ne.2 hu
              clear hu HAI
              go_wp2_with fail
              go_roundg (m - (i + 1))
              case measure => rw [HR2.out]; exact Nat.sub_lt_sub_left him (Nat.lt_succ_self i)
              case rel => exact ⟨i + 1, rfl, him, by first | rfl | go_num, rfl⟩
            --FAST}
          · obtain rfl : m = i := Nat.le_antisymm (Nat.le_of_not_lt him) hi
            go_wp2_with fail
            refine (implCheapTree_r N L m q xs _ hx hmL).mono ?_
            rintro e w6 ⟨T, tn, tc, rfl, oT, b⟩
            have hT := oT.ints
            have hTl : (ctL N xs).length = tn := hT.1
            replace hx := hx.below b
            replace h1 := h1.below b
            replace bb2 := ext_trans bb2 b
            replace HKB := Lib.hid (HKB.out.ext b)
            clear b oT q0 q1 hM
            have q0 := HKB.out.cell 0
            have q1 := HKB.out.cell 1
            go_wp2_with fail
            refine (implTreesIn_r N L m q xs _ hx hmL).mono ?_
            have HTB := Lib.hid ((HJ.out 0 (by omega)).trB)
            rw [HTB.out]
            rintro e w7 ⟨rfl, b⟩
            replace hx := hx.below b
            replace h1 := h1.below b
            replace hT := hT.below b
            replace bb2 := ext_trans bb2 b
            replace HKB := Lib.hid (HKB.out.ext b)
            clear b q0 q1
            have q0 := HKB.out.cell 0
            have q1 := HKB.out.cell 1
            go_wp2_with fail
            refine (b10At_any _ _ _ _ _ _ h1 m1 (by omega) (by omega) (by omega)).mono ?_
            rintro e w8 ⟨⟨R, rfl, hR⟩, rfl⟩
            have hRN : R < N := by omega
            obtain ⟨_, _, _, _, _, j1, j2, j3, j4⟩ := HJ.out R hRN
            have J1 := Lib.hid j1
            have J2 := Lib.hid j2
            have J3 := Lib.hid j3
            have J4 := Lib.hid j4
            clear j1 j2 j3 j4 hR h1
            go_wp2_with fail
            refine (implRootTree_r N L m q xs R _ hx hmL).mono ?_
            rintro e w8 ⟨Z, zn, zc, rfl, oZ, b⟩
            have hZ := oZ.ints
            replace hx := hx.below b
            replace hT := hT.below b
            replace bb2 := ext_trans bb2 b
            replace HKB := Lib.hid (HKB.out.ext b)
            clear b oZ q0 q1
            have q0 := HKB.out.cell 0
            have q1 := HKB.out.cell 1
            go_wp2_with fail
            refine (specRootTree_r N L m q xs R _ hx hmL).mono ?_
            rintro e w9 ⟨Y, yn, yc, rfl, oY, b⟩
            have hY := oY.ints
            replace hx := hx.below b
            replace hT := hT.below b
            replace hZ := hZ.below b
            replace bb2 := ext_trans bb2 b
            replace HKB := Lib.hid (HKB.out.ext b)
            clear b oY q0 q1
            have q0 := HKB.out.cell 0
            have q1 := HKB.out.cell 1
            have hzn : zn ≤ 1048576 := by rw [← hZ.1]; exact rootV_len N xs R
            have hyn : yn ≤ 1048576 := by rw [← hY.1]; exact rootV_len N xs R
            generalize (rootV N xs R).1 = rl at *
            generalize hrp : (rootV N xs R).2 = rp at *
            generalize hfo : rootB N xs R = fo at *
            generalize hct : ctB N xs = ct at *
            generalize htr : trV N xs = tr at *
            generalize hcl : ctL N xs = tl at *
            generalize hcc : ctC N xs = cc at *
            go_upto_region 26 with (fail)
            go_cut [202] (fun sx wx => sx = .bool false ∧ Below w9.heap.size w9 wx)
            case first =>
              --FAST{
              clear HKB hx hT q0 q1
              cases ct with
              | false =>
                have hf : fo = false := by
                  cases fo with
                  | false => rfl
                  | true => exact absurd (J4.out rfl).1 (by decide)
                subst hf
                have d1 : decide (tr > 0) = false := J1.out.symm
                have d2 : ¬ tr > 0 := of_decide_eq_false d1
                go_wp2_with fail
                go_meet
                exact ⟨rfl, Below.refl _ _⟩
              | true =>
                have d1 : decide (tr > 0) = true := J1.out.symm
                have d2 : tr > 0 := of_decide_eq_true d1
                cases fo with
                | false =>
                  go_wp2_with fail
                  go_meet
                  exact ⟨rfl, Below.refl _ _⟩
                | true =>
                  have hle := (J4.out rfl).2
                  have d3 : decide (cc > rp) = false := decide_eq_false (by omega)
                  have d4 : ¬ cc > rp := by omega
                  go_wp2_with fail
                  refine (b10Ints_any _ _ _ _ _ _ _ _ _ hZ hY (by unfold maxLen; omega) (by unfold maxLen; omega)).mono ?_
                  rw [decide_eq_true (rfl : rl = rl)]
                  rintro e w10 ⟨rfl, hdr⟩
                  go_wp2_with fail
                  go_meet
                  exact ⟨rfl, hdr.below⟩
              --FAST}
            case rest =>
              obtain ⟨rfl, b⟩ := hcut
              replace hx := hx.below b
              replace hT := hT.below b
              replace bb2 := ext_trans bb2 b
              replace HKB := Lib.hid (HKB.out.ext b)
              clear b q0 q1 hZ hY hzn hyn
              have q0 := HKB.out.cell 0
              have q1 := HKB.out.cell 1
              cases ct with
              | false =>
                go_wp2_with fail
                go_ret
                exact ⟨rfl, bb2⟩
              | true =>
                have htl : (tn : Int) = (N : Int) - 1 := by rw [← hTl]; exact J2.out rfl
                obtain ⟨hok, hcs⟩ := J3.out rfl
                have HOK := Lib.hid hok
                have HCS := Lib.hid hcs
                have HTL := Lib.hid hTl
                have dl : ((tn : Int) != (N : Int) - 1) = false := by rw [htl]; simp
                have htn4 : tn ≤ 4 := by omega
                have HTN := Lib.hid htl
                clear hok hcs hTl htl hfo htr hcl hcc hct hrp
                obtain ⟨wa, rfl⟩ : ∃ wa : World, wa = wc := ⟨_, rfl⟩
                have he : OwnI 2 wa.heap.size (wa.alloc (.cells #[] 2)) (some ⟨wa.heap.size, 0, none⟩) 0 0 (seqI 0 0) := World.ownsRow_lit (e := 2) (base := wa.heap.size) (size := 1) wa #[] 0 (Nat.le_refl _) (Nat.zero_le _) rfl
                have hb0 := (Below.refl wa.heap.size wa).alloc (Nat.le_refl _) (.cells #[] 2)
                go_wp2_with fail
                generalize wa.alloc (.cells #[] 2) = W at *
                go_loopg [25, 26] N (fun r ov iv wi => ∃ (k : Nat) (B : Option Addr) (d : Nat), r = N - k ∧ k ≤ N ∧ ov = .slice B k d ∧ iv = .int .i64 (k : Int) ∧ OwnI 2 wa.heap.size wi B k d (seqI 0 k) ∧ Below wa.heap.size wa wi)
                case atStart => exact ⟨0, _, 0, rfl, by omega, rfl, rfl, he, hb0⟩
                case round =>
                  clear he hb0 q0 q1 dl
                  obtain ⟨k, B, d, hr, hk, rfl, rfl, ob, hbw⟩ := hrel
                  have HR3 := Lib.hid hr
                  clear hr
                  have hsz := hbw.size
                  obtain ⟨wb, rfl⟩ : ∃ wb : World, wb = wr := ⟨_, rfl⟩
                  have q0 := (HKB.out.ext hbw).cell 0
                  have q1 := (HKB.out.ext hbw).cell 1
                  by_cases hkN : k < N
                  · have hkk : (k : Int) < (N : Int) := Int.ofNat_lt.2 hkN
                    have HSQ := Lib.hid (seqI_next k)
                    go_wp2_with (at_builtin; (refine wp_append_int _ _ rfl _ _ _ rfl 2 wa.heap.size Tryd.underlying26 info64 B k d _ rfl ob rfl (by omega) hsz ?_; intro g5 c5 w6 o6 u6 b6 hg6))
                    rw [HSQ.out] at o6
                    go_roundg (N - (k + 1))
                    case measure => rw [HR3.out]; exact Nat.sub_lt_sub_left hkN (Nat.lt_succ_self k)
                    case rel => exact ⟨k + 1, _, c5, rfl, hkN, rfl, by first | rfl | go_num, o6, hbw.trans b6⟩
                  · obtain rfl : N = k := Nat.le_antisymm (Nat.le_of_not_lt hkN) hk
                    obtain ⟨gG, rfl, hGlo, hGhi, _, _⟩ := ob.pos (by omega)
                    have HXB := Lib.hid hx
                    have HTBX := Lib.hid hT
                    clear hkN hx hT
                    have HOK0 := Lib.hid (show okF xs (seqI 0 N) (tl.drop 0) from HOK.out)
                    go_wp2_with fail
                    go_loopg [24, 27, 224] tn (fun r sv _ iv wr => ∃ (k : Nat) (H : List Int), r = tn - k ∧ k ≤ tn ∧ sv = .int .i64 (sumC xs (tl.take k)) ∧ iv = .int .i64 (k : Int) ∧ Hid (okF xs H (tl.drop k)) ∧ OwnI 2 wa.heap.size wr (some ⟨gG, 0, none⟩) N d H ∧ Below wa.heap.size wa wr)
                    case atStart => exact ⟨0, _, rfl, Nat.zero_le _, rfl, rfl, HOK0, ob, hbw⟩
                    case round =>
                      clear ob hbw q0 q1 hsz hGhi
                      obtain ⟨k, H, hr, hk, rfl, rfl, HOKH, oH, hbw⟩ := hrel
                      have HR4 := Lib.hid hr
                      clear hr
                      obtain ⟨wb2, rfl⟩ : ∃ wb : World, wb = wr := ⟨_, rfl⟩
                      have q0 := (HKB.out.ext hbw).cell 0
                      have q1 := (HKB.out.ext hbw).cell 1
                      have HSB := Lib.hid (sumC_bd (xs := xs) (fun i h0 h1 => by
                        have := (valid_bd HV.out).2.2.2 i.toNat (by omega)
                        unfold coA; omega) tl (seqI 0 N) HOK.out)
                      by_cases hkn : k < tn
                      · have hkk : (k : Int) < (tn : Int) := Int.ofNat_lt.2 hkn
                        have hkl : k < tl.length := by rw [HTL.out]; exact hkn
                        have hdr : tl.drop k = tl.getD k 0 :: tl.drop (k + 1) := by
                          rw [List.drop_eq_getElem_cons hkl]
                          simp [List.getD, hkl]
                        have htk : tl.take (k + 1) = tl.take k ++ [tl.getD k 0] := by
                          rw [List.take_succ_eq_append_getElem hkl]
                          simp [List.getD, hkl]
                        have hok := HOKH.out
                        rw [hdr] at hok
                        obtain ⟨x0, x1, x2, x3⟩ := hok
                        have HNX := Lib.hid x3
                        have HSUM := Lib.hid (show sumC xs (tl.take (k + 1)) = sumC xs (tl.take k) + coA xs (tl.getD k 0) from by rw [htk, sumC_snoc])
                        obtain ⟨sb1, sb2⟩ := HSB.out k (by omega)
                        obtain ⟨td, rfl, htd, ct⟩ := (HTBX.out.below hbw).at_ hkn
                        clear hdr htk x3
                        generalize tl.getD k 0 = x at *
                        obtain ⟨i, rfl⟩ := Int.eq_ofNat_of_zero_le x0
                        have him : i < m := by rw [HXL.out] at x1; omega
                        have hiI : (i : Int) < (m : Int) := Int.ofNat_lt.2 him
                        rw [frA_nat, toA_nat] at x2 HNX
                        obtain ⟨f1, f2, f3⟩ := arcs_inJ HV.out i (by rw [HXL.out]; exact him)
                        obtain ⟨⟨a0, _⟩, ⟨t0, _⟩, _, _, cb⟩ := (valid_bd HV.out).2.2.2 i (by rw [HXL.out]; exact him)
                        obtain ⟨ad, hLe, had, k0, k1, k2, k3⟩ := (HXB.out.below hbw).at_ him
                        subst hLe
                        have HFR := Lib.hid (show (xs.getD i default).fr = ((frN xs i : Nat) : Int) from by unfold frN; omega)
                        have HTO := Lib.hid (show (xs.getD i default).to_ = ((toN xs i : Nat) : Int) from by unfold toN; omega)
                        have HCO := Lib.hid (show coA xs (i : Int) = (xs.getD i default).cost from by unfold coA; rw [Int.toNat_natCast])
                        rw [HCO.out] at HSUM
                        generalize xs.getD i default = y at *
                        obtain ⟨af, at_, ar, aq⟩ := y
                        replace HFR := Lib.hid (show af = ((frN xs i : Nat) : Int) from HFR.out)
                        replace HTO := Lib.hid (show at_ = ((toN xs i : Nat) : Int) from HTO.out)
                        replace HSUM := Lib.hid (show sumC xs (tl.take (k + 1)) = sumC xs (tl.take k) + aq from HSUM.out)
                        replace cb : -1000 ≤ aq ∧ aq ≤ 1000 := cb
                        obtain ⟨cb1, cb2⟩ := cb
                        replace k0 : wb2.cell? _ = some (.int .i64 af) := k0
                        replace k1 : wb2.cell? _ = some (.int .i64 at_) := k1
                        replace k2 : wb2.cell? _ = some (.int .i64 ar) := k2
                        replace k3 : wb2.cell? _ = some (.int .i64 aq) := k3
                        rw [HFR.out] at k0
                        rw [HTO.out] at k1
                        have d1 : decide ((i : Int) < 0) = false := decide_eq_false (by omega)
                        have d2 : decide ((i : Int) ≥ (m : Int)) = false := decide_eq_false (by omega)
                        have d3 : ¬ (i : Int) ≥ (m : Int) := by omega
                        generalize sumC xs (tl.take k) = sm at *
                        generalize frN xs i = f at *
                        generalize toN xs i = t at *
                        clear a0 t0 x0 x1
                        go_upto_region 41 with (fail)
                        go_quiet (fail)
                        have hbq := ext_drewN hbw nq
                        have oHq := OwnI.drewN oH nq
                        clear d1 d2 d3
                        replace q0 : (wb2.drewN nq).cell? _ = _ := q0
                        replace q1 : (wb2.drewN nq).cell? _ = _ := q1
                        replace ct : (wb2.drewN nq).cell? _ = _ := ct
                        replace k0 : (wb2.drewN nq).cell? _ = _ := k0
                        replace k1 : (wb2.drewN nq).cell? _ = _ := k1
                        replace k2 : (wb2.drewN nq).cell? _ = _ := k2
                        replace k3 : (wb2.drewN nq).cell? _ = _ := k3
                        replace htd : td.block < (wb2.drewN nq).heap.size := htd
                        replace had : ad.block < (wb2.drewN nq).heap.size := had
                        clear oH hbw
                        generalize wb2.drewN nq = w4 at *
                        have hgl := (HKB.out.ext hbq).lt
                        have HKF := Lib.hid (fun (W : World) (hB : Below w4.heap.size w4 W) => show W.cell? ⟨g, 1, none⟩ = some (.slice (some ad) m q) ∧ W.cell? (td.add k) = some (.int .i64 (i : Int)) ∧ W.cell? (ad.add (i * 4)) = some (.int .i64 (f : Int)) ∧ W.cell? { block := (ad.add (i * 4)).block, off := (ad.add (i * 4)).off + 1 } = some (.int .i64 (t : Int)) ∧ W.cell? { block := (ad.add (i * 4)).block, off := (ad.add (i * 4)).off + 2 } = some (.int .i64 ar) ∧ W.cell? { block := (ad.add (i * 4)).block, off := (ad.add (i * 4)).off + 3 } = some (.int .i64 aq) from
                          ⟨(hB.cell (p := ⟨g, 1, none⟩) hgl).trans q1, (hB.cell (p := td.add k) (by rw [block_add]; exact htd)).trans ct, (hB.cell (p := ad.add (i * 4)) (by rw [block_add]; exact had)).trans k0,
                            (hB.cell (p := { block := (ad.add (i * 4)).block, off := (ad.add (i * 4)).off + 1 }) (by show (ad.add (i * 4)).block < _; rw [block_add]; exact had)).trans k1, (hB.cell (p := { block := (ad.add (i * 4)).block, off := (ad.add (i * 4)).off + 2 }) (by show (ad.add (i * 4)).block < _; rw [block_add]; exact had)).trans k2, (hB.cell (p := { block := (ad.add (i * 4)).block, off := (ad.add (i * 4)).off + 3 }) (by show (ad.add (i * 4)).block < _; rw [block_add]; exact had)).trans k3⟩)
                        have B0 := Lib.hid (Below.drew (Below.refl w4.heap.size w4))
                        have B1 := Lib.hid (((Below.refl w4.heap.size w4).alloc (Nat.le_refl _) (.cells #[.int .i64 (f : Int), .int .i64 (t : Int), .int .i64 ar, .int .i64 aq] 42)).drew)
                        have B2 := Lib.hid (((Below.refl w4.heap.size w4).alloc (Nat.le_refl _) (.cells #[.int .i64 0, .int .i64 0, .int .i64 0, .int .i64 0] 42)).drew)
                        clear q0 q1 ct k0 k1 k2 k3
                        go_upto_region 43 with (fail)
                        go_cut [28] (fun sx wx => sx = .pointer (some ⟨w4.heap.size, 0, none⟩) ∧ Blk wx w4.heap.size 42 #[.int .i64 (f : Int), .int .i64 (t : Int), .int .i64 ar, .int .i64 aq] ∧ Below w4.heap.size w4 wx)
                        case first =>
                          go_region_held3 (fun w' => w'.cell? ⟨g, 1, none⟩ = some (.slice (some ad) m q) ∧ w'.cell? (td.add k) = some (.int .i64 (i : Int)) ∧ w'.cell? (ad.add (i * 4)) = some (.int .i64 (f : Int)) ∧ w'.cell? { block := (ad.add (i * 4)).block, off := (ad.add (i * 4)).off + 1 } = some (.int .i64 (t : Int)) ∧ w'.cell? { block := (ad.add (i * 4)).block, off := (ad.add (i * 4)).off + 2 } = some (.int .i64 ar) ∧ w'.cell? { block := (ad.add (i * 4)).block, off := (ad.add (i * 4)).off + 3 } = some (.int .i64 aq))
                            (first | exact HKF.out _ B0.out | exact HKF.out _ B1.out | exact HKF.out _ B2.out)
                            (fail)
                          all_goals
                            go_wp2_with fail
                            go_meet
                            exact ⟨rfl, (Blk.new w4 _ _).drew, B1.out⟩
                        case rest =>
                          obtain ⟨rfl, HAB, b⟩ := hcut
                          obtain ⟨w5', rfl⟩ : ∃ w5' : World, w5' = wc := ⟨_, rfl⟩
                          have oH := OwnI.below oHq b
                          have hbw := below_ext hbq hbq.size b
                          have s0 := HAB.cell 0
                          have s1 := HAB.cell 1
                          have s3 := HAB.cell 3
                          have hHl := OwnI.len oH
                          have cf := OwnI.cell oH f1
                          have ct := OwnI.cell oH f2
                          have HJT := Lib.hid (fun j (hj : j < N) => joinTo_at (G := H) (f := H.getD t 0) (t := H.getD f 0) (j := j) (by rw [hHl]; exact hj))
                          have HJS := Lib.hid (fun j (hj : j < N) h => joinTo_same (G := H) (f := H.getD t 0) (t := H.getD f 0) (j := j) (by rw [hHl]; exact hj) h)
                          have HHL := Lib.hid hHl
                          have dne : (H.getD t 0 == H.getD f 0) = false := beq_eq_false_iff_ne.2 x2
                          have hfI : (f : Int) < (N : Int) := Int.ofNat_lt.2 f1
                          have htI : (t : Int) < (N : Int) := Int.ofNat_lt.2 f2
                          clear oHq b hbq HAB B0 B1 B2 HKF htd had x2 hHl hgl
                          generalize hgf : H.getD f 0 = lf at *
                          generalize hgt : H.getD t 0 = lt at *
                          clear hgf hgt
                          go_wp2_with fail
                          go_loopg [31, 269] N (fun r _ iv wr => ∃ j : Nat, r = N - j ∧ j ≤ N ∧ iv = .int .i64 (j : Int) ∧ OwnI 2 wa.heap.size wr (some ⟨gG, 0, none⟩) N d ((H.take j).map (repl lt lf) ++ H.drop j) ∧ Below wa.heap.size wa wr)
                          case atStart => exact ⟨0, rfl, Nat.zero_le _, rfl, by simpa using oH, hbw⟩
                          case round =>
                            clear oH hbw s0 s1 s3 cf ct dne
                            obtain ⟨j, hr, hj, rfl, oH, hbw⟩ := hrel
                            have HR5 := Lib.hid hr
                            clear hr
                            obtain ⟨wj, rfl⟩ : ∃ wj : World, wj = wr := ⟨_, rfl⟩
                            by_cases hjN : j < N
                            · have hjI : (j : Int) < (N : Int) := Int.ofNat_lt.2 hjN
                              obtain ⟨t1, t2⟩ := HJT.out j hjN
                              have HT2 := Lib.hid t2
                              have HSM := Lib.hid (HJS.out j hjN)
                              have c1 := OwnI.cell oH hjN
                              rw [t1] at c1
                              have g1 := OwnI.free oH j
                              clear t1 t2
                              generalize H.getD j 0 = z at *
                              by_cases hz : z = lt
                              · have HZ := Lib.hid (show repl lt lf z = lf by unfold repl; rw [if_pos hz])
                                have o2 := OwnI.set oH j (repl lt lf z)
                                rw [HT2.out, HZ.out] at o2
                                have hb2 := hbw.setCell (p := ⟨gG, j, none⟩) hGlo (.int .i64 lf)
                                have dz : (z == lt) = true := beq_iff_eq.2 hz
                                clear hz oH hbw
                                go_wp2_with fail
                                go_roundg (N - (j + 1))
                                case measure => rw [HR5.out]; exact Nat.sub_lt_sub_left hjN (Nat.lt_succ_self j)
                                case rel => exact ⟨j + 1, rfl, hjN, by first | rfl | go_num, o2, hb2⟩
                              · have HZ := Lib.hid (HSM.out (show repl lt lf z = z by unfold repl; rw [if_neg hz]))
                                have dz : (z == lt) = false := beq_eq_false_iff_ne.2 hz
                                clear hz g1
                                go_wp2_with fail
                                go_roundg (N - (j + 1))
                                case measure => rw [HR5.out]; exact Nat.sub_lt_sub_left hjN (Nat.lt_succ_self j)
                                case rel => exact ⟨j + 1, rfl, hjN, by first | rfl | go_num, by rw [HZ.out]; exact oH, hbw⟩
                            · obtain rfl : N = j := Nat.le_antisymm (Nat.le_of_not_lt hjN) hj
                              rw [List.take_of_length_le (by rw [HHL.out]; exact Nat.le_refl _), List.drop_eq_nil_of_le (by rw [HHL.out]; exact Nat.le_refl _), List.append_nil] at oH
                              go_wp2_with fail
                              go_roundg (tn - (k + 1))
                              case measure => rw [HR4.out]; exact Nat.sub_lt_sub_left hkn (Nat.lt_succ_self k)
                              case rel => exact ⟨k + 1, _, rfl, hkn, by rw [HSUM.out], by first | rfl | go_num, HNX, oH, hbw⟩
                      · obtain rfl : tn = k := Nat.le_antisymm (Nat.le_of_not_lt hkn) hk
                        rw [List.take_of_length_le (by rw [HTL.out]; exact Nat.le_refl _), ← HCS.out]
                        go_wp2_with fail
                        go_ret
                        exact ⟨by first | rfl | (rw [beq_self_eq_true]), below_ext bb2 bb2.size (by exact hbw)⟩
end Go.Proofs.YtigaopfhjimpmaaDoor
