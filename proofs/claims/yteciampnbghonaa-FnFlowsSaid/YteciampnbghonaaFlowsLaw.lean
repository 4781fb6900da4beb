/- The walk of the law FnFlows. -/
import Derived.Test.YteciampnbghonaaFlowsP
import Derived.Test.YteciampnbghonaaNetDraw
import Derived.Test.YteciampnbghonaaB10
import Derived.Test.YteciampnbghonaaMakeV
import Derived.Test.YteciampnbghonaaNetBase
import Derived.Test.YteciampnbghonaaCut2
namespace Go.Proofs.Yteciampnbghonaa
open Go.RowKit

theorem IntsAt.lit2 (w : World) (T : Nat) (x y : Int) : IntsAt (w.alloc (.cells #[.int .i64 x, .int .i64 y] T)) (some ⟨w.heap.size, 0, none⟩) 2 [x, y] := by
  refine ⟨rfl, fun _ => ⟨_, rfl, by simp, fun j hj => ?_⟩⟩
  have := (Blk.new w T #[.int .i64 x, .int .i64 y]).cell j
  match j, hj with
  | 0, _ => exact this
  | 1, _ => exact this

theorem flags_cell {bs : List Bool} {N v : Nat} (h : bs.length = N) (hv : v < N) : (bs.map Value.bool)[v]? = some (.bool (bs.getD v false)) := by
  simp [List.getElem?_map, List.getD, List.getElem?_eq_getElem (show v < bs.length by omega)]

set_option maxRecDepth 100000 in
set_option maxHeartbeats 1600000 in
theorem walk_Flows (A0 : Option Addr) (n0 c0 : Nat) (A1 : Option Addr) (n1 c1 : Nat) (w : World) (h0 : BytesAt w A0 n0) (m0 : n0 ≤ maxLen) (h1 : BytesAt w A1 n1) (m1 : n1 ≤ maxLen) :
    Calls Try.prog 3 #[.slice A0 n0 c0, .slice A1 n1 c1] w fun e w' => e = .returned (.bool true) ∧ Below w.heap.size w w' := by
  have bb := Below.refl w.heap.size w
  by_cases hlong : (decide (1048576 < n0) || decide (1048576 < n1)) = true
  · have HX := Lib.hid hlong
    clear hlong
    go_enter Try.func3, Try.ntmps3
    go_wp2_with (go_at_call 11; refine (b10Long_any _ _ _ _ _ _ _ m0 m1).mono ?_; rw [HX.out]; rintro e w1 ⟨rfl, rfl⟩)
    go_ret
    exact ⟨rfl, bb⟩
  · rw [Bool.not_eq_true] at hlong
    have HX := Lib.hid hlong
    clear hlong
    go_enter Try.func3, Try.ntmps3
    go_wp2_with fail
    refine (b10Long_any _ _ _ _ _ _ _ m0 m1).mono ?_
    rw [HX.out]
    rintro e w1 ⟨rfl, rfl⟩
    go_wp2_with fail
    refine (b10Net_any A0 n0 c0 7 _ h0 m0 (by omega) (by omega)).mono ?_
    rintro e w1 ⟨N, L, m, q, xs, rfl, own, hd, hu⟩
    have b := Upd.ext hu
    have hN2 := hd.lo
    have hN7 := hd.hi
    have HD := Lib.hid hd
    have hxl := (OwnA.arcs own).1
    have hm10 : m ≤ 10 := by rw [← hxl]; exact hd.len
    have hmL : m ≤ maxLen := by unfold maxLen; omega
    have HXL := Lib.hid hxl
    have HV := Lib.hid (netD_valid hd (by omega))
    replace h1 := h1.below b
    have bb1 := ext_trans bb b
    clear hd hu b hxl
    have kb := Blk.new w1 26 #[.int .i64 (N : Int), .slice L m q]
    have hx := (OwnA.arcs own).alloc (.cells #[.int .i64 (N : Int), .slice L m q] 26)
    have b2 : Below w1.heap.size w1 (w1.alloc (.cells #[.int .i64 (N : Int), .slice L m q] 26)) := (Below.refl _ _).alloc (Nat.le_refl _) _
    replace h1 := h1.below b2
    have bb2 := ext_trans bb1 b2
    have hlt := kb.lt
    have q0 := kb.cell 0
    clear own b2
    go_wp2_with fail
    generalize w1.alloc (.cells #[.int .i64 (N : Int), .slice L m q] 26) = w2 at *
    generalize w1.heap.size = g at *
    refine (b10At_any _ _ _ _ _ _ h1 m1 (by omega) (by omega) (by omega)).mono ?_
    rintro e w3 ⟨⟨t, rfl, ht⟩, rfl⟩
    have ht1 : 1 ≤ 1 + t := by omega
    have htN : 1 + t < N := by omega
    have E1 := Lib.hid (show (1 : Int) + (t : Int) = ((1 + t : Nat) : Int) by omega)
    have q1 := kb.cell 1
    clear ht
    go_wp2_with fail
    rw [E1.out]
    clear E1
    generalize 1 + t = t at *
    obtain ⟨fl, a, cut, R, hF⟩ := flows_facts HV.out ht1 htN
    have F := Lib.hid hF
    clear hF
    have HKB := Lib.hid kb
    refine (implGreatFlow_r _ _ _ _ xs _ _ _ hx hmL).mono ?_
    rw [F.out.great, F.out.ends]
    rintro e w3 ⟨B, bn, bc, rfl, ownF, b⟩
    obtain rfl : m = bn := by rw [← ownF.len, ← HXL.out]; exact F.out.len.symm
    have hy := ownF.ints
    replace hx := hx.below b
    replace h1 := h1.below b
    replace bb2 := ext_trans bb2 b
    replace HKB := Lib.hid (HKB.out.ext b)
    clear b ownF q0 q1 kb
    have q0 := HKB.out.cell 0
    have q1 := HKB.out.cell 1
    go_wp2_with fail
    refine (implPushFlow_r _ _ _ _ xs _ _ _ hx hmL).mono ?_
    rw [F.out.great, F.out.ends]
    rintro e w4 ⟨rfl, b⟩
    replace hx := hx.below b
    replace hy := hy.below b
    replace h1 := h1.below b
    replace bb2 := ext_trans bb2 b
    replace HKB := Lib.hid (HKB.out.ext b)
    clear b q0 q1
    have q0 := HKB.out.cell 0
    have q1 := HKB.out.cell 1
    go_wp2_with fail
    refine (implFlowAmount_r _ _ _ _ xs _ _ _ fl _ _ hx hmL hy (by omega)).mono ?_
    rw [F.out.amt.1, F.out.amt.2]
    rintro e w5 ⟨rfl, b⟩
    replace hx := hx.below b
    replace hy := hy.below b
    replace h1 := h1.below b
    replace bb2 := ext_trans bb2 b
    replace HKB := Lib.hid (HKB.out.ext b)
    clear b q0 q1
    have q0 := HKB.out.cell 0
    have q1 := HKB.out.cell 1
    go_wp2_with fail
    refine (implCutOf_r _ _ _ _ xs _ _ _ fl _ _ hx hmL hy (by omega)).mono ?_
    rw [F.out.cutV, F.out.amt.1]
    rintro e w6 ⟨C, cn, cc, rfl, ownC, b⟩
    have hc := ownC.ints
    have hcl : cut.length = cn := hc.1
    have hcN : cn ≤ N := by rw [← hcl]; exact F.out.clen
    have HCL := Lib.hid hcl
    replace hx := hx.below b
    replace hy := hy.below b
    replace h1 := h1.below b
    replace bb2 := ext_trans bb2 b
    replace HKB := Lib.hid (HKB.out.ext b)
    clear b q0 q1 ownC hcl
    have q0 := HKB.out.cell 0
    have q1 := HKB.out.cell 1
    go_wp2_with fail
    refine (implCutRoom_r _ _ _ _ xs _ _ _ cut _ hx hmL hc (by omega)).mono ?_
    rw [F.out.room.1, F.out.room.2]
    rintro e w7 ⟨rfl, b⟩
    replace hx := hx.below b
    replace hy := hy.below b
    replace hc := hc.below b
    replace h1 := h1.below b
    replace bb2 := ext_trans bb2 b
    replace HKB := Lib.hid (HKB.out.ext b)
    clear b q0 q1
    have q0 := HKB.out.cell 0
    have q1 := HKB.out.cell 1
    go_wp2_with fail
    have ht2 := IntsAt.lit2 w7 2 (t : Int) (t : Int)
    have bA : Below w7.heap.size w7 (w7.alloc (.cells #[.int .i64 (t : Int), .int .i64 (t : Int)] 2)) := (Below.refl _ _).alloc (Nat.le_refl _) _
    have HB := Lib.hid h1
    have HBA := Lib.hid (h1.below bA)
    have HXX := Lib.hid (hx.below bA)
    have HKA := Lib.hid (HKB.out.ext bA)
    have HT2 := Lib.hid ht2
    have HBB := Lib.hid (ext_trans bb2 bA)
    have HY := Lib.hid (hy.below bA)
    have HC := Lib.hid (hc.below bA)
    have qa0 := HKA.out.cell 0
    have qa1 := HKA.out.cell 1
    have HX7 := Lib.hid hx
    have HY7 := Lib.hid hy
    have HC7 := Lib.hid hc
    have HB7 := Lib.hid bb2
    clear h1 hx ht2 hy hc bb2
    go_cut [18, 19] (fun s18 s19 wx => ∃ (SA : Option Addr) (sq : Nat), s18 = .slice SA 2 sq ∧ s19 = .bool true ∧ IntsAt wx SA 2 [a, a] ∧ Below w7.heap.size w7 wx)
    case first =>
      go_region_held3 (fun w' => w'.cell? ⟨g, 0, none⟩ = some (.int .i64 (N : Int)) ∧ w'.cell? ⟨g, 1, none⟩ = some (.slice L m q))
        (first
          | exact ⟨q0, q1⟩
          | exact ⟨qa0, qa1⟩
          | exact ⟨qb0, qb1⟩)
        (first
          | (go_at_call 13; refine (b10At_any _ _ _ _ _ _ (by first | exact HB.out.drewN 1 | exact HBA.out.drewN 1) m1 (by omega) (by omega) (by omega)).mono ?_; rintro e w8 ⟨⟨x, rfl, hx8⟩, rfl⟩)
          | (go_at_call 19; refine (implFlowsShared_r _ _ _ _ xs _ _ _ _ [(t : Int), (t : Int)] _ _ (HXX.out.drewN 1) hmL (HT2.out.drewN 1) (by omega)).mono ?_; rw [show IntKind.i64.wrap (1 + (x : Int)) = 1 + (x : Int) from IntWalk.i64_in _ (by omega), (F.out.shared _ (show (1 : Int) ≤ 1 + (x : Int) by omega) (show 1 + (x : Int) ≤ 8 by omega)).1, (F.out.shared _ (show (1 : Int) ≤ 1 + (x : Int) by omega) (show 1 + (x : Int) ≤ 8 by omega)).2]; rintro e w9 ⟨SA, sn, sq, rfl, ownS, b9⟩; have qb0 := ((HKA.out.drewN 1).ext b9).cell 0; have qb1 := ((HKA.out.drewN 1).ext b9).cell 1))
      all_goals
        go_wp2_with fail
        go_meet
        obtain rfl : 2 = sn := ownS.len
        exact ⟨SA, sq, rfl, rfl, ownS.ints, ext_trans (ext_drewN bA 1) b9⟩
    case rest =>
      obtain ⟨SA, sq, rfl, rfl, hs, b⟩ := hcut
      have hx := HX7.out.below b
      have hy := HY7.out.below b
      have hc := HC7.out.below b
      have HH := Lib.hid (HB.out.below b)
      have bb2 := ext_trans HB7.out b
      replace HKB := Lib.hid (HKB.out.ext b)
      clear b q0 q1 qa0 qa1 HBA HXX HKA HT2 HBB HY HC bA HB
      have q0 := HKB.out.cell 0
      have q1 := HKB.out.cell 1
      have hge := F.out.ge
      have d1 : decide (a < 0) = false := by rw [decide_eq_false_iff_not]; omega
      have hsame : sameNB (N : Int) (N : Int) xs xs = true := by simp [sameNB]
      have HSM := Lib.hid hsame
      clear hsame
      go_wp2_with fail
      refine (implValidNet_r _ _ _ _ xs _ hx hmL).mono ?_
      rw [HV.out]
      rintro e w8 ⟨rfl, b⟩
      replace hx := hx.below b
      replace hy := hy.below b
      replace hc := hc.below b
      replace hs := hs.below b
      replace HH := Lib.hid (HH.out.below b)
      replace bb2 := ext_trans bb2 b
      replace HKB := Lib.hid (HKB.out.ext b)
      clear b q0 q1
      have q0 := HKB.out.cell 0
      have q1 := HKB.out.cell 1
      go_wp2_with fail
      refine (implSameNet_r _ _ _ _ _ _ _ _ xs xs _ hx hx hmL).mono ?_
      rw [HSM.out]
      rintro e w9 ⟨rfl, b⟩
      replace hx := hx.below b
      replace hy := hy.below b
      replace hc := hc.below b
      replace hs := hs.below b
      replace HH := Lib.hid (HH.out.below b)
      replace bb2 := ext_trans bb2 b
      replace HKB := Lib.hid (HKB.out.ext b)
      clear b q0 q1
      have q0 := HKB.out.cell 0
      have q1 := HKB.out.cell 1
      go_wp2_with fail
      refine (specIsFlow_r _ _ _ _ xs _ _ _ fl _ _ _ hx hmL hy (by omega)).mono ?_
      rw [F.out.isF]
      rintro e w10 ⟨rfl, b⟩
      replace hx := hx.below b
      replace hy := hy.below b
      replace hc := hc.below b
      replace hs := hs.below b
      replace HH := Lib.hid (HH.out.below b)
      replace bb2 := ext_trans bb2 b
      replace HKB := Lib.hid (HKB.out.ext b)
      clear b q0 q1
      have q0 := HKB.out.cell 0
      have q1 := HKB.out.cell 1
      go_wp2_with fail
      refine (implIsFlow_r _ _ _ _ xs _ _ _ fl _ _ _ hx hmL hy (by omega)).mono ?_
      rw [F.out.isF]
      rintro e w11 ⟨rfl, b⟩
      replace hx := hx.below b
      replace hy := hy.below b
      replace hc := hc.below b
      replace hs := hs.below b
      replace HH := Lib.hid (HH.out.below b)
      replace bb2 := ext_trans bb2 b
      replace HKB := Lib.hid (HKB.out.ext b)
      clear b q0 q1
      have q0 := HKB.out.cell 0
      have q1 := HKB.out.cell 1
      have b : Below w11.heap.size w11 (w11.alloc (.cells #[.int .i64 a, .int .i64 a] 2)) := (Below.refl _ _).alloc (Nat.le_refl _) _
      have hlit := IntsAt.lit2 w11 2 a a
      replace hx := hx.below b
      replace hy := hy.below b
      replace hc := hc.below b
      replace hs := hs.below b
      replace HH := Lib.hid (HH.out.below b)
      replace bb2 := ext_trans bb2 b
      replace HKB := Lib.hid (HKB.out.ext b)
      clear b q0 q1
      have q0 := HKB.out.cell 0
      have q1 := HKB.out.cell 1
      go_wp2_with fail
      generalize w11.alloc (.cells #[.int .i64 a, .int .i64 a] 2) = w12 at *
      refine (b10Ints_any _ _ _ _ _ _ _ _ _ hs hlit (by unfold maxLen; omega) (by unfold maxLen; omega)).mono ?_
      rw [decide_eq_true (rfl : [a, a] = [a, a])]
      rintro e w13 ⟨rfl, hdr⟩
      have b := hdr.below
      clear hdr hlit hs
      replace hx := hx.below b
      replace hy := hy.below b
      replace hc := hc.below b
      replace bb2 := ext_trans bb2 b
      replace HKB := Lib.hid (HKB.out.ext b)
      clear b q0 q1 HH
      have q0 := HKB.out.cell 0
      have q1 := HKB.out.cell 1
      have HKS := Lib.hid (fun (W : World) (hB : Below w13.heap.size w13 W) => (HKB.out.ext hB).cell 0)
      go_wp2_with (at_make; refine wp_make_valsV _ rfl _ _ _ rfl (.bool false) 1 rfl (by omega) 4 Try.underlying43 infoBV .i64 .i64 _ _ N rfl rfl rfl rfl (by omega) ?_; intro w14 gI oI bI; have q14 := HKS.out w14 bI)
      clear q14 q0 q1
      rw [show List.replicate N (Value.bool false) = (flagsT N cut 0).map Value.bool by rw [flagsT_zero]; simp] at oI
      have hl0 := flagsT_len N cut
      have HFL := Lib.hid hl0
      clear hl0
      go_loopg [21, 164] cn (fun r _ iv wr => ∃ j : Nat, r = cn - j ∧ j ≤ cn ∧ iv = .int .i64 (j : Int) ∧ OwnC 4 w13.heap.size 1 wr (some ⟨gI, 0, none⟩) N N ((flagsT N cut j).map Value.bool) ∧ Below w13.heap.size w13 wr)
      case atStart => exact ⟨0, by omega, by omega, rfl, oI, bI⟩
      case round =>
        clear oI bI
        obtain ⟨j, hr, hj, rfl, oI, bI⟩ := hrel
        have HR := Lib.hid hr
        clear hr
        have q0 := (HKB.out.ext bI).cell 0
        by_cases hlt : j < cn
        · obtain ⟨ad, rfl, hadb, hcj⟩ := (hc.below bI).at_ hlt
          have hjl : j < cut.length := by rw [HCL.out]; exact hlt
          obtain ⟨v, hv1, hv2, _⟩ := F.out.cin j hjl
          have hnew := F.out.new hjl
          have HST := Lib.hid (flagsT_set hjl hv1 hv2)
          rw [hv1] at hnew hcj
          have hci := OwnC.cell oI (j := v) (by omega)
          rw [flags_cell (HFL.out j) hv2, flagsT_at hv2, hnew] at hci
          have hfi := OwnC.free oI v
          have d1 : decide ((v : Int) < 0) = false := by rw [decide_eq_false_iff_not]; omega
          have d2 : decide (N ≤ v) = false := by rw [decide_eq_false_iff_not]; omega
          have hvN : (v : Int) < (N : Int) := by omega
          have HOI := Lib.hid oI
          have HBI := Lib.hid bI
          clear hnew hv1 oI bI
          go_wp2_with fail
          go_quiet (fail)
          go_wp2_with fail
          have o2 := OwnC.set (OwnC.drewN HOI.out nq) v (.bool true)
          rw [← List.map_set, HST.out] at o2
          have b2 := (below_drewN HBI.out nq).setCell (p := ⟨gI, v, none⟩) ((OwnC.lt HOI.out rfl).1) (.bool true)
          go_roundg (cn - (j + 1))
          case measure => rw [HR.out]; omega
          case rel => exact ⟨j + 1, rfl, by omega, by go_num, o2, b2⟩
        · obtain rfl : cn = j := by omega
          have hfull : cut.take cn = cut := List.take_of_length_le (by rw [HCL.out]; exact Nat.le_refl _)
          have HFU := Lib.hid (fun (v : Nat) (hv : v < N) => show (flagsT N cut cn).getD v false = R v by rw [flagsT_at hv, hfull]; exact F.out.has hv)
          have q1 := (HKB.out.ext bI).cell 1
          have HFC := Lib.hid (HFL.out cn)
          clear hfull
          generalize flagsT N cut cn = fs at *
          go_wp2_with fail
          obtain ⟨wo, rfl⟩ : ∃ wo : World, wo = wr := ⟨_, rfl⟩
          have OI := Lib.hid oI
          have HXO := Lib.hid (hx.below bI)
          have HYO := Lib.hid (hy.below bI)
          have HKO := Lib.hid (HKB.out.ext bI)
          have BBO := Lib.hid (ext_trans bb2 bI)
          clear oI bI hx hy hc bb2 HKS HKB q0 q1
          go_loopg [22, 23, 200] m (fun r _ _ iv wr => ∃ j : Nat, r = m - j ∧ j ≤ m ∧ iv = .int .i64 (j : Int) ∧ Below wo.heap.size wo wr)
          case atStart => exact ⟨0, by omega, by omega, rfl, Below.refl _ _⟩
          case round =>
            obtain ⟨j, hr, hj, rfl, hb⟩ := hrel
            have HR := Lib.hid hr
            clear hr
            have q1 := (HKO.out.ext hb).cell 1
            by_cases hlt : j < m
            · obtain ⟨ad, rfl, hadb, k0, k1, k2, k3⟩ := (HXO.out.below hb).at_ hlt
              have hjx : j < xs.length := by rw [HXL.out]; exact hlt
              obtain ⟨⟨a0, a1⟩, t0, t1⟩ := valid_ends HV.out j hjx
              have HFUL := Lib.hid (F.out.full j hjx)
              have HZER := Lib.hid (F.out.zero j hjx)
              generalize xs.getD j default = x at *
              obtain ⟨af, at_, ar, aq⟩ := x
              replace a0 : 0 ≤ af := a0
              replace a1 : af < N := a1
              replace t0 : 0 ≤ at_ := t0
              replace t1 : at_ < N := t1
              obtain ⟨af, rfl⟩ := Int.eq_ofNat_of_zero_le a0
              obtain ⟨at_, rfl⟩ := Int.eq_ofNat_of_zero_le t0
              replace HFUL := Lib.hid (show R af = true → R at_ = false → fl.getD j 0 = ar from HFUL.out)
              replace HZER := Lib.hid (show R af = false → R at_ = true → fl.getD j 0 = 0 from HZER.out)
              have haf : af < N := by omega
              have hat : at_ < N := by omega
              have ka := Blk.new wr 45 #[.int .i64 (af : Int), .int .i64 (at_ : Int), .int .i64 ar, .int .i64 aq]
              have b3 : Below wo.heap.size wo (wr.alloc (.cells #[.int .i64 (af : Int), .int .i64 (at_ : Int), .int .i64 ar, .int .i64 aq] 45)) := hb.alloc hb.size _
              have s0 := ka.cell 0
              have s1 := ka.cell 1
              have s2 := ka.cell 2
              have o3 := OwnC.below OI.out b3
              have c1 := OwnC.cell o3 (j := af) (by omega)
              have c2 := OwnC.cell o3 (j := at_) (by omega)
              rw [flags_cell HFC.out haf, HFU.out af haf] at c1
              rw [flags_cell HFC.out hat, HFU.out at_ hat] at c2
              obtain ⟨bd, rfl, _, hcf⟩ := (HYO.out.below b3).at_ hlt
              generalize fl.getD j 0 = y at *
              clear ka o3 a0 t0
              go_upto_region 25 with (fail)
              generalize wr.alloc (.cells #[.int .i64 (af : Int), .int .i64 (at_ : Int), .int .i64 ar, .int .i64 aq] 45) = w3 at *
              cases hb1 : R af <;> cases hb2 : R at_ <;> rw [hb1] at c1 <;> rw [hb2] at c2
              · clear hb1 hb2
                go_wp2_with fail
                go_quiet (fail)
                go_wp2_with fail
                go_roundg (m - (j + 1))
                case measure => rw [HR.out]; omega
                case rel => exact ⟨j + 1, rfl, by omega, by go_num, below_drewN b3 _⟩
              · have d1 : (y != 0) = false := by rw [HZER.out hb1 hb2]; rfl
                clear hb1 hb2
                go_wp2_with fail
                go_quiet (fail)
                go_wp2_with fail
                go_roundg (m - (j + 1))
                case measure => rw [HR.out]; omega
                case rel => exact ⟨j + 1, rfl, by omega, by go_num, below_drewN b3 _⟩
              · have d1 : (y != ar) = false := by rw [HFUL.out hb1 hb2, bne_self_eq_false]
                clear hb1 hb2
                go_wp2_with fail
                go_quiet (fail)
                go_wp2_with fail
                go_roundg (m - (j + 1))
                case measure => rw [HR.out]; omega
                case rel => exact ⟨j + 1, rfl, by omega, by go_num, below_drewN b3 _⟩
              · clear hb1 hb2
                go_wp2_with fail
                go_quiet (fail)
                go_wp2_with fail
                go_roundg (m - (j + 1))
                case measure => rw [HR.out]; omega
                case rel => exact ⟨j + 1, rfl, by omega, by go_num, below_drewN b3 _⟩
            · obtain rfl : m = j := by omega
              have oE := OwnC.below OI.out hb
              have c1 := OwnC.cell oE (j := 0) (by omega)
              have c2 := OwnC.cell oE (j := t) (by omega)
              rw [flags_cell HFC.out (by omega), HFU.out 0 (by omega), F.out.r0] at c1
              rw [flags_cell HFC.out htN, HFU.out t htN, F.out.rt] at c2
              have BE := ext_trans BBO.out hb
              have htN' : (t : Int) < (N : Int) := by omega
              clear oE
              go_wp2_with fail
              go_ret
              exact ⟨rfl, BE⟩
end Go.Proofs.Yteciampnbghonaa
