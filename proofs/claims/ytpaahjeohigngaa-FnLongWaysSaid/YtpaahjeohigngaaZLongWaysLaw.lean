/- The walk of the law FnLongWays (printed by gen_longs.py). -/
import Derived.Test.YtpaahjeohigngaaJ5
import Derived.Test.YtpaahjeohigngaaZLongs2
import Derived.Test.YtpaahjeohigngaaZLongsS
import Derived.Test.YtpaahjeohigngaaZWide
import Derived.Test.YtpaahjeohigngaaZTree
import Derived.Test.YtpaahjeohigngaaZNetDraw
import Derived.Test.YtpaahjeohigngaaZB10
namespace Go.Proofs.Ytpaahjeohigngaa
open Go.RowKit

theorem IntsAt.cells {w : World} {ad : Addr} {n : Nat} {zs : List Int} (h : IntsAt w (some ad) n zs) {j : Nat} (hj : j < n) : w.cell? (ad.add j) = some (.int .i64 (zs.getD j 0)) := by
  obtain ⟨ad', e, _, hc⟩ := h.2 (by omega)
  cases e
  exact hc j hj
theorem netD_cost {N most : Nat} {xs : List ArcR} (h : NetD N most xs) : (∀ i, i < xs.length → 0 ≤ (xs.getD i default).cost) ∧ ∀ i, i < xs.length → (xs.getD i default).room ≤ 6 :=
  ⟨fun i hi => (h.arcs _ (getDL_mem (d := default) hi)).2.2.2.2.1, fun i hi => (h.arcs _ (getDL_mem (d := default) hi)).2.2.2.1.2⟩

set_option maxRecDepth 100000 in
set_option maxHeartbeats 3200000 in
theorem walk_LongWays (A0 : Option Addr) (n0 c0 : Nat) (A1 : Option Addr) (n1 c1 : Nat) (w : World) (h0 : BytesAt w A0 n0) (m0 : n0 ≤ maxLen) (h1 : BytesAt w A1 n1) (m1 : n1 ≤ maxLen) :
    Calls Try.prog 3 #[.slice A0 n0 c0, .slice A1 n1 c1] w fun e w' => e = .returned (.bool true) ∧ Below w.heap.size w w' := by
  have bb := Below.refl w.heap.size w
  by_cases hlong : (decide (1048576 < n0) || decide (1048576 < n1)) = true
  · have HX := Lib.hid hlong
    clear hlong
    go_enter Try.func3, Try.ntmps3
    go_wp2_with (go_at_call 9; refine (b10Long_any _ _ _ _ _ _ _ m0 m1).mono ?_; rw [HX.out]; rintro e w1 ⟨rfl, rfl⟩)
    go_ret
    exact ⟨rfl, bb⟩
  · rw [Bool.not_eq_true] at hlong
    have HX := Lib.hid hlong
    clear hlong
    go_enter Try.func3, Try.ntmps3
    go_wp2_with fail
    refine (b10Long_any _ _ _ _ _ _ _ m0 m1).mono ?_
    rw [HX.out]
    rintro e w1 ⟨rfl, rfl⟩
    go_wp2_with fail
    refine (b10Net_any A0 n0 c0 6 _ h0 m0 (by omega) (by omega)).mono ?_
    rintro e w1 ⟨N, L, m, q, xs, rfl, own, hd, hu⟩
    have b := Upd.ext hu
    have hN2 := hd.lo
    have hN7 := hd.hi
    have hxl := (OwnA.arcs own).1
    have hm10 : m ≤ 10 := by rw [← hxl]; exact hd.len
    have hmL : m ≤ maxLen := by unfold maxLen; omega
    have HXL := Lib.hid hxl
    have HV := Lib.hid (netD_valid hd (by omega))
    have HNC := Lib.hid (netD_cost hd)
    replace h1 := h1.below b
    have bb1 := ext_trans bb b
    clear hd hu b hxl
    have kb := Blk.new w1 26 #[.int .i64 (N : Int), .slice L m q]
    have hx := (OwnA.arcs own).alloc (.cells #[.int .i64 (N : Int), .slice L m q] 26)
    have b2 : Below w1.heap.size w1 (w1.alloc (.cells #[.int .i64 (N : Int), .slice L m q] 26)) := (Below.refl _ _).alloc (Nat.le_refl _) _
    replace h1 := h1.below b2
    have bb2 := ext_trans bb1 b2
    have hlt := kb.lt
    have q0 := kb.cell 0
    clear own b2
    go_wp2_with fail
    generalize w1.alloc (.cells #[.int .i64 (N : Int), .slice L m q] 26) = w2 at *
    generalize w1.heap.size = g at *
    refine (b10At_any _ _ _ _ _ _ h1 m1 (by omega) (by omega) (by omega)).mono ?_
    rintro e w3 ⟨⟨t, rfl, ht⟩, rfl⟩
    have ht1 : 1 ≤ 1 + t := by omega
    have htN : 1 + t < N := by omega
    have E1 := Lib.hid (show (1 : Int) + (t : Int) = ((1 + t : Nat) : Int) by omega)
    have q1 := kb.cell 1
    clear ht
    go_wp2_with fail
    rw [E1.out]
    clear E1
    generalize 1 + t = t at *
    obtain ⟨D, ps, ws, am, hF⟩ := long_facts HV.out hN2 ht1 htN (by rw [HXL.out]; omega) HNC.out.1
    have F := Lib.hid hF
    clear hF HNC h1
    have HKB := Lib.hid kb
    clear kb
    refine (implLeastLongs_r _ _ _ _ xs _ _ hx hmL).mono ?_
    rw [F.out.longs.1, F.out.longs.2]
    rintro e w3 ⟨B, bn, bc, rfl, ownD, b⟩
    obtain rfl : N = bn := by rw [← ownD.len]; exact F.out.dlen.symm
    have hD := ownD.ints
    obtain ⟨dd, rfl, hdlt, _⟩ := hD.2 (by omega)
    clear ownD
    replace hx := hx.below b
    replace bb2 := ext_trans bb2 b
    replace HKB := Lib.hid (HKB.out.ext b)
    clear b q0 q1
    have q0 := HKB.out.cell 0
    have q1 := HKB.out.cell 1
    go_wp2_with fail
    refine (specLeastLongs_r _ _ _ _ xs _ _ hx hmL).mono ?_
    rw [F.out.longs.1, F.out.longs.2]
    rintro e w4 ⟨B2, bn2, bc2, rfl, ownD2, b⟩
    obtain rfl : N = bn2 := by rw [← ownD2.len]; exact F.out.dlen.symm
    have hD2 := ownD2.ints
    clear ownD2
    replace hx := hx.below b
    replace hD := hD.below b
    replace bb2 := ext_trans bb2 b
    replace HKB := Lib.hid (HKB.out.ext b)
    clear b q0 q1
    have q0 := HKB.out.cell 0
    have q1 := HKB.out.cell 1
    go_wp2_with fail
    refine (b10Ints_any _ _ _ _ _ _ _ _ _ hD hD2 (by unfold maxLen; omega) (by unfold maxLen; omega)).mono ?_
    rw [decide_eq_true (rfl : D = D)]
    rintro e w5 ⟨rfl, hdr⟩
    have b := hdr.below
    clear hdr hD2
    replace hx := hx.below b
    replace hD := hD.below b
    replace bb2 := ext_trans bb2 b
    replace HKB := Lib.hid (HKB.out.ext b)
    clear b q0 q1
    have q0 := HKB.out.cell 0
    have q1 := HKB.out.cell 1
    have hc0 := hD.cells (j := 0) (by omega)
    rw [F.out.d0, show dd.add 0 = dd from rfl] at hc0
    go_wp2_with fail
    go_loopg [11, 12, 68] m (fun r _ _ iv wr => ∃ j : Nat, r = m - j ∧ j ≤ m ∧ iv = .int .i64 (j : Int) ∧ Below w5.heap.size w5 wr)
    case atStart => exact ⟨0, by omega, by omega, rfl, Below.refl _ _⟩
    case round =>
      obtain ⟨j, hr, hj, rfl, hb⟩ := hrel
      have HR := Lib.hid hr
      clear hr q0 q1 hc0
      obtain ⟨wo, rfl⟩ : ∃ wo : World, wo = wr := ⟨_, rfl⟩
      have q0 := (HKB.out.ext hb).cell 0
      have q1 := (HKB.out.ext hb).cell 1
      by_cases hlt : j < m
      · obtain ⟨ad, rfl, hadb, k0, k1, k2, k3⟩ := (hx.below hb).at_ hlt
        have hjx : j < xs.length := by rw [HXL.out]; exact hlt
        obtain ⟨⟨a0, a1⟩, t0, t1⟩ := valid_ends HV.out j hjx
        have HTR := Lib.hid (F.out.tri j hjx)
        have hco := (valid_bd HV.out).2.2.2 j hjx
        have hco2 := hco.2.2.2.2
        clear hco
        generalize xs.getD j default = x at *
        obtain ⟨af, at_, ar, aq⟩ := x
        replace a0 : 0 ≤ af := a0
        replace a1 : af < N := a1
        replace t0 : 0 ≤ at_ := t0
        replace t1 : at_ < N := t1
        have hq1 : -1000 ≤ aq := hco2.1
        have hq2 : aq ≤ 1000 := hco2.2
        clear hco2
        obtain ⟨af, rfl⟩ := Int.eq_ofNat_of_zero_le a0
        obtain ⟨at_, rfl⟩ := Int.eq_ofNat_of_zero_le t0
        replace HTR := Lib.hid (show 0 ≤ D.getD af 0 → 0 ≤ D.getD at_ 0 ∧ D.getD at_ 0 ≤ D.getD af 0 + aq from HTR.out)
        have haf : af < N := by omega
        have hat : at_ < N := by omega
        have ka := Blk.new wo 34 #[.int .i64 (af : Int), .int .i64 (at_ : Int), .int .i64 ar, .int .i64 aq]
        have b3 : Below w5.heap.size w5 (wo.alloc (.cells #[.int .i64 (af : Int), .int .i64 (at_ : Int), .int .i64 ar, .int .i64 aq] 34)) := hb.alloc hb.size _
        have s0 := ka.cell 0
        have s1 := ka.cell 1
        have s2 := ka.cell 2
        have s3 := ka.cell 3
        have e1 := (hD.below b3).cells haf
        have e2 := (hD.below b3).cells hat
        have x1 := F.out.dbd af haf
        have x2 := F.out.dbd at_ hat
        generalize D.getD af 0 = x at *
        generalize D.getD at_ 0 = y at *
        clear ka a0 t0
        go_upto_region 13 with (fail)
        generalize wo.alloc (.cells #[.int .i64 (af : Int), .int .i64 (at_ : Int), .int .i64 ar, .int .i64 aq] 34) = w6 at *
        by_cases hx0 : 0 ≤ x
        · obtain ⟨hy0, hy1⟩ := HTR.out hx0
          have d1 : decide (x ≥ 0) = true := decide_eq_true hx0
          have d2 : decide (y < 0) = false := decide_eq_false (by omega)
          have wr1 : IntKind.i64.wrap (x + aq) = x + aq := IntWalk.i64_in _ (by omega)
          have d3 : decide (x + aq < y) = false := decide_eq_false (by omega)
          have d4 : decide (y > x + aq) = false := decide_eq_false (by omega)
          clear hx0
          go_wp2_with fail
          go_quiet (fail)
          go_wp2_with fail
          go_roundg (m - (j + 1))
          case measure => rw [HR.out]; omega
          case rel => exact ⟨j + 1, rfl, by omega, by go_num, below_drewN b3 _⟩
        · have d1 : decide (x ≥ 0) = false := decide_eq_false (by omega)
          clear hx0
          go_wp2_with fail
          go_quiet (fail)
          go_wp2_with fail
          go_roundg (m - (j + 1))
          case measure => rw [HR.out]; omega
          case rel => exact ⟨j + 1, rfl, by omega, by go_num, below_drewN b3 _⟩
      · obtain rfl : m = j := by omega
        have b := hb
        clear hb
        replace hx := hx.below b
        replace hD := hD.below b
        replace bb2 := ext_trans bb2 b
        replace HKB := Lib.hid (HKB.out.ext b)
        clear b q0 q1
        have q0 := HKB.out.cell 0
        have q1 := HKB.out.cell 1
        go_wp2_with fail
        refine (implWideWay_r _ _ _ _ xs _ _ _ hx hmL).mono ?_
        rintro e w6 ⟨WB, wn, wc_, rfl, ownW, b⟩
        have hWl : (wideV N xs 0 (t : Int)).1.length = wn := ownW.len
        have hW := ownW.ints
        have HWY := Lib.hid F.out.way
        have hwb := F.out.wide
        clear ownW
        replace hx := hx.below b
        replace hD := hD.below b
        replace bb2 := ext_trans bb2 b
        replace HKB := Lib.hid (HKB.out.ext b)
        clear b q0 q1
        have q0 := HKB.out.cell 0
        have q1 := HKB.out.cell 1
        have ct := hD.cells htN
        generalize wideV N xs 0 (t : Int) = wv at *
        obtain ⟨way, wid⟩ := wv
        replace hWl : way.length = wn := hWl
        replace hW : IntsAt _ WB wn way := hW
        replace HWY := Lib.hid (show wideB N xs 0 (t : Int) = true → ∃ c W, WayArcs N t xs way wid c W from HWY.out)
        generalize wideB N xs 0 (t : Int) = bw at *
        replace hwb : bw = decide (D.getD t 0 ≥ 0) := hwb
        generalize D.getD t 0 = dt at *
        cases bw
        · have d0 : decide (dt ≥ 0) = false := hwb.symm
          clear HWY hW hwb
          go_wp2_with fail
          refine (implCutTree_r _ _ _ _ xs _ hx hmL).mono ?_
          rw [F.out.tree.1, F.out.tree.2.1, F.out.tree.2.2]
          rintro e w8 ⟨P1, pn, pc, P2, wn2, wc2, rfl, oP, oW, _, b⟩
          obtain rfl : N = pn := by rw [← oP.len]; exact F.out.plen.1.symm
          obtain rfl : N = wn2 := by rw [← oW.len]; exact F.out.plen.2.symm
          have hP := oP.ints
          have hWt := oW.ints
          obtain ⟨pp, rfl, _, _⟩ := hP.2 (by omega)
          obtain ⟨pw, rfl, _, _⟩ := hWt.2 (by omega)
          clear oP oW
          replace hx := hx.below b
          replace hD := hD.below b
          replace bb2 := ext_trans bb2 b
          replace HKB := Lib.hid (HKB.out.ext b)
          clear b q0 q1
          have q0 := HKB.out.cell 0
          have q1 := HKB.out.cell 1
          have kb := Blk.new w8 26 #[.int .i64 N, .slice none 0 0]
          have hd := (Below.refl w8.heap.size w8).alloc (Nat.le_refl _) (.cells #[.int .i64 N, .slice none 0 0] 26)
          have q2 := (HKB.out.ext hd).cell 0
          have q3 := (HKB.out.ext hd).cell 1
          have hlt1 : w8.heap.size < (w8.alloc (.cells #[.int .i64 N, .slice none 0 0] 26)).heap.size := by simp
          have HX8 := Lib.hid hx
          have HP8 := Lib.hid hP
          have HW8 := Lib.hid hWt
          have BB8 := Lib.hid bb2
          clear hx hP hWt hD bb2
          go_wp2_with fail
          generalize w8.alloc (.cells #[.int .i64 N, .slice none 0 0] 26) = W1 at *
          clear q0 q1 q2 q3
          go_loopg [23, 24, 212] m (fun r _ _ iv wr => ∃ (k : Nat) (L2 : Option Addr) (q2 : Nat), r = m - k ∧ k ≤ m ∧ iv = .int .i64 k ∧ Blk wr w8.heap.size 26 #[.int .i64 N, .slice L2 (2 * k) q2] ∧ OwnA 34 W1.heap.size wr L2 (2 * k) q2 (bothL (xs.take k)) ∧ Below w8.heap.size w8 wr ∧ W1.heap.size ≤ wr.heap.size)
          case atStart => exact ⟨0, none, 0, rfl, by omega, rfl, kb, OwnC.nil_ _ _ _ _, hd, Nat.le_refl _⟩
          case round =>
            clear kb hd
            obtain ⟨k, L2, q2, hr, hk, rfl, kb, ol, hbw, hsz1⟩ := hrel
            have HR := Lib.hid hr
            clear hr
            obtain ⟨wo, rfl⟩ : ∃ wo : World, wo = wr := ⟨_, rfl⟩
            have qq0 := (HKB.out.ext hbw).cell 0
            have qq1 := (HKB.out.ext hbw).cell 1
            by_cases hlt : k < m
            · obtain ⟨ad, rfl, had, c0, c1, c2, c3⟩ := (HX8.out.below hbw).at_ hlt
              have HST := Lib.hid (both_step HXL.out hlt rfl)
              generalize xs.getD k default = x at *
              obtain ⟨af, at_, ar, aq⟩ := x
              have ka := Blk.new wo 34 #[.int .i64 af, .int .i64 at_, .int .i64 ar, .int .i64 aq]
              have hd2 := hbw.alloc hbw.size (.cells #[.int .i64 af, .int .i64 at_, .int .i64 ar, .int .i64 aq] 34)
              have ol2 := OwnC.alloc ol (.cells #[.int .i64 af, .int .i64 at_, .int .i64 ar, .int .i64 aq] 34)
              have kb2 := kb.alloc (.cells #[.int .i64 af, .int .i64 at_, .int .i64 ar, .int .i64 aq] 34)
              have hsz2 : W1.heap.size ≤ (wo.alloc (.cells #[.int .i64 af, .int .i64 at_, .int .i64 ar, .int .i64 aq] 34)).heap.size := Nat.le_trans hsz1 (by simp)
              have s0 := ka.cell 0
              have s1 := ka.cell 1
              have s2 := ka.cell 2
              have s3 := ka.cell 3
              have q1 := kb2.cell 1
              have hszk := ka.lt
              clear ka hbw ol kb
              go_upto_region 40 with (fail)
              generalize wo.alloc (.cells #[.int .i64 af, .int .i64 at_, .int .i64 ar, .int .i64 aq] 34) = W2 at *
              have kb3 := kb2.alloc (.cells #[.int .i64 af, .int .i64 at_, .int .i64 ar, .int .i64 aq, .int .i64 at_, .int .i64 af, .int .i64 ar, .int .i64 aq] 34)
              have hd3 := hd2.alloc hd2.size (.cells #[.int .i64 af, .int .i64 at_, .int .i64 ar, .int .i64 aq, .int .i64 at_, .int .i64 af, .int .i64 ar, .int .i64 aq] 34)
              have hszz : W1.heap.size ≤ (W2.alloc (.cells #[.int .i64 af, .int .i64 at_, .int .i64 ar, .int .i64 aq, .int .i64 at_, .int .i64 af, .int .i64 ar, .int .i64 aq] 34)).heap.size := Nat.le_trans hsz2 (by simp)
              have HKW := Lib.hid (fun (w6 : World) (b6 : Below W1.heap.size (W2.alloc (.cells #[.int .i64 af, .int .i64 at_, .int .i64 ar, .int .i64 aq, .int .i64 at_, .int .i64 af, .int .i64 ar, .int .i64 aq] 34)) w6) => kb3.below b6 hlt1)
              have HSP := Lib.hid (fun (w6 : World) (A5 : Option Addr) (n5 c5 : Nat) (vs : List Value) (o6 : OwnC 34 W1.heap.size 4 w6 A5 n5 c5 vs) (v : Value) => OwnC.far o6 (p := ⟨w8.heap.size, 1, none⟩) (fun ad ha => by have := (OwnC.lt o6 ha).1; show ad.block ≠ w8.heap.size; omega) v)
              clear kb3
              go_wp2_with (at_builtin; go_must (refine wp_append_cells _ rfl _ _ _ rfl 34 W1.heap.size Try.underlying24 _ 4 32 info4 rfl (by decide) (by decide) (by decide) L2 (2 * k) q2 _ rfl (OwnC.alloc ol2 _) _ 2 2 [.int .i64 af, .int .i64 at_, .int .i64 ar, .int .i64 aq, .int .i64 at_, .int .i64 af, .int .i64 ar, .int .i64 aq] rfl rfl (src_one (w := W2) (T := 34) (cs := #[.int .i64 af, .int .i64 at_, .int .i64 ar, .int .i64 aq, .int .i64 at_, .int .i64 af, .int .i64 ar, .int .i64 aq]) 2 (by decide)) (by simp [Value.oneCell']) (by omega) hszz ?_; intro A5 c5 w6 o6 u6 b6 hg6; have kb6 := HKW.out w6 b6; have f6 := kb6.free 1; have r6 := kb6.cell 1))
              have o7 : OwnA 34 W1.heap.size (w6.setCell ⟨w8.heap.size, 1, none⟩ (.slice A5 (2 * (k + 1)) c5)) A5 (2 * (k + 1)) c5 (bothL (xs.take (k + 1))) := by
                unfold OwnA
                rw [HST.out]
                exact HSP.out _ _ _ _ _ o6 _
              have kb7 := kb6.set 1 (.slice A5 (2 * (k + 1)) c5)
              have hd7 := (hd3.trans (b6.mono (by have := hd2.size; omega))).setCell (p := ⟨w8.heap.size, 1, none⟩) (Nat.le_refl _) (.slice A5 (2 * (k + 1)) c5)
              have hsz7 : W1.heap.size ≤ (w6.setCell ⟨w8.heap.size, 1, none⟩ (.slice A5 (2 * (k + 1)) c5)).heap.size := by have := b6.size; simp; omega
              go_roundg (m - (k + 1))
              case measure => rw [HR.out]; omega
              case rel => exact ⟨k + 1, A5, c5, rfl, by omega, by go_num, kb7, o7, hd7, hsz7⟩
            · obtain rfl : m = k := by omega
              rw [List.take_of_length_le (by rw [HXL.out]; exact Nat.le_refl _)] at ol
              have hw2' := OwnA.arcs ol
              have bb9 := ext_trans BB8.out hbw
              have hP9 := HP8.out.below hbw
              have hW9 := HW8.out.below hbw
              have kb9 := HKB.out.ext hbw
              have u0 := kb.cell 0
              have u1 := kb.cell 1
              clear ol hbw
              go_wp2_with fail
              refine (specPushFlow_r _ _ _ _ (bothL xs) _ _ _ hw2' (by unfold maxLen; omega)).mono ?_
              rw [F.out.great.1, F.out.great.2]
              rintro e w10 ⟨rfl, b⟩
              replace bb9 := ext_trans bb9 b
              replace hP9 := hP9.below b
              replace hW9 := hW9.below b
              replace kb9 := kb9.ext b
              have HLE := Lib.hid F.out.least
              have HPR := Lib.hid F.out.par
              clear hw2' kb u0 u1 qq0 qq1 b
              go_wp2_with fail
              go_loopg [27, 28, 29] t (fun r s27 s28 s29 wr => ∃ (f v k : Nat) (l : Int), r = f ∧ v ≤ f ∧ v < N ∧ k + f ≤ t ∧ s27 = .int .i64 l ∧ s28 = .int .i64 (v : Int) ∧ s29 = .int .i64 (k : Int) ∧ Hid (minC (fun c => (ps.getD c 0).toNat) (fun c => ws.getD c 0) f v l = am) ∧ wr = w10)
              case atStart => exact ⟨t, t, 0, 100000000, rfl, Nat.le_refl _, htN, by omega, rfl, rfl, rfl, Lib.hid HLE.out, rfl⟩
              case round =>
                obtain ⟨f, v, k, l, hr, hvr, hvN, hkr, rfl, rfl, rfl, HM, rfl⟩ := hrel
                have HR := Lib.hid hr
                clear hr
                have g0 := kb9.cell 0
                by_cases hv0 : 0 < v
                · obtain ⟨f, rfl⟩ : ∃ r', f = r' + 1 := ⟨f - 1, by omega⟩
                  obtain ⟨p, hp1, hp2⟩ := HPR.out v hv0 hvN
                  have x1 := hP9.cells hvN
                  have x2 := hW9.cells hvN
                  rw [hp1] at x1
                  have HMN := Lib.hid (show minC (fun c => (ps.getD c 0).toNat) (fun c => ws.getD c 0) f p (min l (ws.getD v 0)) = am from by
                    have h := HM.out
                    rw [minC, if_neg (by omega)] at h
                    show minC _ _ f p _ = am
                    rw [hp1, Int.toNat_natCast] at h
                    exact h)
                  have d0 : ((v : Int) != 0) = true := by rw [bne_iff_ne]; omega
                  have d1 : decide ((v : Int) < 0) = false := decide_eq_false (by omega)
                  have d2 : decide ((v : Int) ≥ (N : Int)) = false := decide_eq_false (by omega)
                  have d3 : decide ((k : Int) > (N : Int)) = false := decide_eq_false (by omega)
                  clear hp1 HM
                  generalize ws.getD v 0 = y at *
                  by_cases hmin : y < l
                  · have HM2 := Lib.hid (show min l y = y by omega)
                    go_wp2_with fail
                    go_roundg f
                    case measure => rw [HR.out]; omega
                    case rel => exact ⟨f, p, k + 1, y, rfl, by omega, by omega, by omega, rfl, rfl, by go_num, Lib.hid (by rw [← HM2.out]; exact HMN.out), rfl⟩
                  · have HM2 := Lib.hid (show min l y = l by omega)
                    go_wp2_with fail
                    go_roundg f
                    case measure => rw [HR.out]; omega
                    case rel => exact ⟨f, p, k + 1, l, rfl, by omega, by omega, by omega, rfl, rfl, by go_num, Lib.hid (by rw [← HM2.out]; exact HMN.out), rfl⟩
                · obtain rfl : v = 0 := by omega
                  have hl : l = am := by have := HM.out; rw [minC_zero] at this; exact this
                  subst hl
                  have d1 : (l == l) = true := beq_self_eq_true l
                  go_wp2_with fail
                  go_ret
                  exact ⟨rfl, bb9⟩
        · have d0 : decide (dt ≥ 0) = true := hwb.symm
          obtain ⟨c, W, hwa⟩ := HWY.out rfl
          have WA := Lib.hid hwa
          have hwn : wn ≤ N := by rw [← hWl]; exact hwa.len
          have hc0 := hwa.c0
          have hW0 := hwa.W0
          have HWL := Lib.hid hWl
          clear hwa HWY hWl hwb
          go_wp2_with fail
          go_loopg [16, 17, 18, 124] wn (fun r s16 s17 _ iv wr => ∃ k : Nat, r = wn - k ∧ k ≤ wn ∧ iv = .int .i64 (k : Int) ∧ s16 = .int .i64 (c k : Int) ∧ s17 = .int .i64 (W k) ∧ Below w6.heap.size w6 wr)
          case atStart => exact ⟨0, by omega, by omega, rfl, by rw [hc0]; rfl, by rw [hW0], Below.refl _ _⟩
          case round =>
            obtain ⟨k, hr, hk, rfl, rfl, rfl, hb⟩ := hrel
            have HR := Lib.hid hr
            clear hr q0 q1 ct
            obtain ⟨wo, rfl⟩ : ∃ wo : World, wo = wr := ⟨_, rfl⟩
            have q0 := (HKB.out.ext hb).cell 0
            have q1 := (HKB.out.ext hb).cell 1
            by_cases hlt : k < wn
            · obtain ⟨b, b1, b2, b3, b4, b5⟩ := WA.out.step k (by rw [HWL.out]; exact hlt)
              have hbm : b < m := by rw [← HXL.out]; exact b2
              obtain ⟨wd, rfl, _, hwc⟩ := (hW.below hb).at_ hlt
              obtain ⟨ad, rfl, hadb, k0, k1, k2, k3⟩ := (hx.below hb).at_ hbm
              rw [b1] at hwc
              have HB4 := Lib.hid b4
              have HB5 := Lib.hid b5
              have HB3 := Lib.hid b3
              generalize xs.getD b default = x at *
              obtain ⟨af, at_, ar, aq⟩ := x
              replace HB3 := Lib.hid (show af = (c k : Int) from HB3.out)
              replace HB4 := Lib.hid (show at_ = (c (k + 1) : Int) from HB4.out)
              replace HB5 := Lib.hid (show min (W k) ar = W (k + 1) from HB5.out)
              replace k0 : wo.cell? _ = some (.int .i64 af) := k0
              replace k1 : wo.cell? _ = some (.int .i64 at_) := k1
              rw [HB3.out] at k0
              rw [HB4.out] at k1
              clear b1 b2 b3 b4 b5 k3
              have d1 : decide ((b : Int) < 0) = false := decide_eq_false (by omega)
              have d2 : decide ((b : Int) ≥ (m : Int)) = false := decide_eq_false (by omega)
              have d3 : ((c k : Int) != (c k : Int)) = false := bne_self_eq_false _
              generalize hcn : c (k + 1) = cn at *
              generalize hWn : W (k + 1) = wn1 at *
              have HCN := Lib.hid hcn
              have HWN := Lib.hid hWn
              clear hcn hWn
              generalize W k = wk at *
              generalize c k = ck at *
              go_wp2_with fail
              go_quiet (fail)
              go_wp2_with fail
              go_quiet (fail)
              go_wp2_with fail
              by_cases hmin : ar < wk
              · have HM2 := Lib.hid (show wn1 = ar by have := HB5.out; omega)
                go_quiet (fail)
                go_wp2_with fail
                go_roundg (wn - (k + 1))
                case measure => rw [HR.out]; omega
                case rel => exact ⟨k + 1, rfl, by omega, by go_num, by rw [HCN.out], by rw [HWN.out, HM2.out], below_drewN hb _⟩
              · have HM2 := Lib.hid (show wn1 = wk by have := HB5.out; omega)
                go_quiet (fail)
                go_wp2_with fail
                go_roundg (wn - (k + 1))
                case measure => rw [HR.out]; omega
                case rel => exact ⟨k + 1, rfl, by omega, by go_num, by rw [HCN.out], by rw [HWN.out, HM2.out], below_drewN hb _⟩
            · obtain rfl : wn = k := by omega
              have hct : c wn = t := by rw [← HWL.out]; exact WA.out.ct
              have hWt2 : W wn = wid := by rw [← HWL.out]; exact WA.out.Wt
              rw [hct, hWt2]
              clear hct hWt2 hc0 hW0
              have d1 : ((t : Int) != (t : Int)) = false := bne_self_eq_false _
              have d2 : (wid != wid) = false := bne_self_eq_false _
              have b := hb
              clear hb hW
              replace hx := hx.below b
              replace hD := hD.below b
              replace bb2 := ext_trans bb2 b
              replace HKB := Lib.hid (HKB.out.ext b)
              clear b q0 q1
              have q0 := HKB.out.cell 0
              have q1 := HKB.out.cell 1
              go_wp2_with fail
              refine (implCutTree_r _ _ _ _ xs _ hx hmL).mono ?_
              rw [F.out.tree.1, F.out.tree.2.1, F.out.tree.2.2]
              rintro e w8 ⟨P1, pn, pc, P2, wn2, wc2, rfl, oP, oW, _, b⟩
              obtain rfl : N = pn := by rw [← oP.len]; exact F.out.plen.1.symm
              obtain rfl : N = wn2 := by rw [← oW.len]; exact F.out.plen.2.symm
              have hP := oP.ints
              have hWt := oW.ints
              obtain ⟨pp, rfl, _, _⟩ := hP.2 (by omega)
              obtain ⟨pw, rfl, _, _⟩ := hWt.2 (by omega)
              clear oP oW
              replace hx := hx.below b
              replace hD := hD.below b
              replace bb2 := ext_trans bb2 b
              replace HKB := Lib.hid (HKB.out.ext b)
              clear b q0 q1
              have q0 := HKB.out.cell 0
              have q1 := HKB.out.cell 1
              have kb := Blk.new w8 26 #[.int .i64 N, .slice none 0 0]
              have hd := (Below.refl w8.heap.size w8).alloc (Nat.le_refl _) (.cells #[.int .i64 N, .slice none 0 0] 26)
              have q2 := (HKB.out.ext hd).cell 0
              have q3 := (HKB.out.ext hd).cell 1
              have hlt1 : w8.heap.size < (w8.alloc (.cells #[.int .i64 N, .slice none 0 0] 26)).heap.size := by simp
              have HX8 := Lib.hid hx
              have HP8 := Lib.hid hP
              have HW8 := Lib.hid hWt
              have BB8 := Lib.hid bb2
              clear hx hP hWt hD bb2
              go_wp2_with fail
              generalize w8.alloc (.cells #[.int .i64 N, .slice none 0 0] 26) = W1 at *
              clear q0 q1 q2 q3
              go_loopg [23, 24, 212] m (fun r _ _ iv wr => ∃ (k : Nat) (L2 : Option Addr) (q2 : Nat), r = m - k ∧ k ≤ m ∧ iv = .int .i64 k ∧ Blk wr w8.heap.size 26 #[.int .i64 N, .slice L2 (2 * k) q2] ∧ OwnA 34 W1.heap.size wr L2 (2 * k) q2 (bothL (xs.take k)) ∧ Below w8.heap.size w8 wr ∧ W1.heap.size ≤ wr.heap.size)
              case atStart => exact ⟨0, none, 0, rfl, by omega, rfl, kb, OwnC.nil_ _ _ _ _, hd, Nat.le_refl _⟩
              case round =>
                clear kb hd
                obtain ⟨k, L2, q2, hr, hk, rfl, kb, ol, hbw, hsz1⟩ := hrel
                have HR := Lib.hid hr
                clear hr
                obtain ⟨wo, rfl⟩ : ∃ wo : World, wo = wr := ⟨_, rfl⟩
                have qq0 := (HKB.out.ext hbw).cell 0
                have qq1 := (HKB.out.ext hbw).cell 1
                by_cases hlt : k < m
                · obtain ⟨ad, rfl, had, c0, c1, c2, c3⟩ := (HX8.out.below hbw).at_ hlt
                  have HST := Lib.hid (both_step HXL.out hlt rfl)
                  generalize xs.getD k default = x at *
                  obtain ⟨af, at_, ar, aq⟩ := x
                  have ka := Blk.new wo 34 #[.int .i64 af, .int .i64 at_, .int .i64 ar, .int .i64 aq]
                  have hd2 := hbw.alloc hbw.size (.cells #[.int .i64 af, .int .i64 at_, .int .i64 ar, .int .i64 aq] 34)
                  have ol2 := OwnC.alloc ol (.cells #[.int .i64 af, .int .i64 at_, .int .i64 ar, .int .i64 aq] 34)
                  have kb2 := kb.alloc (.cells #[.int .i64 af, .int .i64 at_, .int .i64 ar, .int .i64 aq] 34)
                  have hsz2 : W1.heap.size ≤ (wo.alloc (.cells #[.int .i64 af, .int .i64 at_, .int .i64 ar, .int .i64 aq] 34)).heap.size := Nat.le_trans hsz1 (by simp)
                  have s0 := ka.cell 0
                  have s1 := ka.cell 1
                  have s2 := ka.cell 2
                  have s3 := ka.cell 3
                  have q1 := kb2.cell 1
                  have hszk := ka.lt
                  clear ka hbw ol kb
                  go_upto_region 40 with (fail)
                  generalize wo.alloc (.cells #[.int .i64 af, .int .i64 at_, .int .i64 ar, .int .i64 aq] 34) = W2 at *
                  have kb3 := kb2.alloc (.cells #[.int .i64 af, .int .i64 at_, .int .i64 ar, .int .i64 aq, .int .i64 at_, .int .i64 af, .int .i64 ar, .int .i64 aq] 34)
                  have hd3 := hd2.alloc hd2.size (.cells #[.int .i64 af, .int .i64 at_, .int .i64 ar, .int .i64 aq, .int .i64 at_, .int .i64 af, .int .i64 ar, .int .i64 aq] 34)
                  have hszz : W1.heap.size ≤ (W2.alloc (.cells #[.int .i64 af, .int .i64 at_, .int .i64 ar, .int .i64 aq, .int .i64 at_, .int .i64 af, .int .i64 ar, .int .i64 aq] 34)).heap.size := Nat.le_trans hsz2 (by simp)
                  have HKW := Lib.hid (fun (w6 : World) (b6 : Below W1.heap.size (W2.alloc (.cells #[.int .i64 af, .int .i64 at_, .int .i64 ar, .int .i64 aq, .int .i64 at_, .int .i64 af, .int .i64 ar, .int .i64 aq] 34)) w6) => kb3.below b6 hlt1)
                  have HSP := Lib.hid (fun (w6 : World) (A5 : Option Addr) (n5 c5 : Nat) (vs : List Value) (o6 : OwnC 34 W1.heap.size 4 w6 A5 n5 c5 vs) (v : Value) => OwnC.far o6 (p := ⟨w8.heap.size, 1, none⟩) (fun ad ha => by have := (OwnC.lt o6 ha).1; show ad.block ≠ w8.heap.size; omega) v)
                  clear kb3
                  go_wp2_with (at_builtin; go_must (refine wp_append_cells _ rfl _ _ _ rfl 34 W1.heap.size Try.underlying24 _ 4 32 info4 rfl (by decide) (by decide) (by decide) L2 (2 * k) q2 _ rfl (OwnC.alloc ol2 _) _ 2 2 [.int .i64 af, .int .i64 at_, .int .i64 ar, .int .i64 aq, .int .i64 at_, .int .i64 af, .int .i64 ar, .int .i64 aq] rfl rfl (src_one (w := W2) (T := 34) (cs := #[.int .i64 af, .int .i64 at_, .int .i64 ar, .int .i64 aq, .int .i64 at_, .int .i64 af, .int .i64 ar, .int .i64 aq]) 2 (by decide)) (by simp [Value.oneCell']) (by omega) hszz ?_; intro A5 c5 w6 o6 u6 b6 hg6; have kb6 := HKW.out w6 b6; have f6 := kb6.free 1; have r6 := kb6.cell 1))
                  have o7 : OwnA 34 W1.heap.size (w6.setCell ⟨w8.heap.size, 1, none⟩ (.slice A5 (2 * (k + 1)) c5)) A5 (2 * (k + 1)) c5 (bothL (xs.take (k + 1))) := by
                    unfold OwnA
                    rw [HST.out]
                    exact HSP.out _ _ _ _ _ o6 _
                  have kb7 := kb6.set 1 (.slice A5 (2 * (k + 1)) c5)
                  have hd7 := (hd3.trans (b6.mono (by have := hd2.size; omega))).setCell (p := ⟨w8.heap.size, 1, none⟩) (Nat.le_refl _) (.slice A5 (2 * (k + 1)) c5)
                  have hsz7 : W1.heap.size ≤ (w6.setCell ⟨w8.heap.size, 1, none⟩ (.slice A5 (2 * (k + 1)) c5)).heap.size := by have := b6.size; simp; omega
                  go_roundg (m - (k + 1))
                  case measure => rw [HR.out]; omega
                  case rel => exact ⟨k + 1, A5, c5, rfl, by omega, by go_num, kb7, o7, hd7, hsz7⟩
                · obtain rfl : m = k := by omega
                  rw [List.take_of_length_le (by rw [HXL.out]; exact Nat.le_refl _)] at ol
                  have hw2' := OwnA.arcs ol
                  have bb9 := ext_trans BB8.out hbw
                  have hP9 := HP8.out.below hbw
                  have hW9 := HW8.out.below hbw
                  have kb9 := HKB.out.ext hbw
                  have u0 := kb.cell 0
                  have u1 := kb.cell 1
                  clear ol hbw
                  go_wp2_with fail
                  refine (specPushFlow_r _ _ _ _ (bothL xs) _ _ _ hw2' (by unfold maxLen; omega)).mono ?_
                  rw [F.out.great.1, F.out.great.2]
                  rintro e w10 ⟨rfl, b⟩
                  replace bb9 := ext_trans bb9 b
                  replace hP9 := hP9.below b
                  replace hW9 := hW9.below b
                  replace kb9 := kb9.ext b
                  have HLE := Lib.hid F.out.least
                  have HPR := Lib.hid F.out.par
                  clear hw2' kb u0 u1 qq0 qq1 b
                  go_wp2_with fail
                  go_loopg [27, 28, 29] t (fun r s27 s28 s29 wr => ∃ (f v k : Nat) (l : Int), r = f ∧ v ≤ f ∧ v < N ∧ k + f ≤ t ∧ s27 = .int .i64 l ∧ s28 = .int .i64 (v : Int) ∧ s29 = .int .i64 (k : Int) ∧ Hid (minC (fun c => (ps.getD c 0).toNat) (fun c => ws.getD c 0) f v l = am) ∧ wr = w10)
                  case atStart => exact ⟨t, t, 0, 100000000, rfl, Nat.le_refl _, htN, by omega, rfl, rfl, rfl, Lib.hid HLE.out, rfl⟩
                  case round =>
                    obtain ⟨f, v, k, l, hr, hvr, hvN, hkr, rfl, rfl, rfl, HM, rfl⟩ := hrel
                    have HR := Lib.hid hr
                    clear hr
                    have g0 := kb9.cell 0
                    by_cases hv0 : 0 < v
                    · obtain ⟨f, rfl⟩ : ∃ r', f = r' + 1 := ⟨f - 1, by omega⟩
                      obtain ⟨p, hp1, hp2⟩ := HPR.out v hv0 hvN
                      have x1 := hP9.cells hvN
                      have x2 := hW9.cells hvN
                      rw [hp1] at x1
                      have HMN := Lib.hid (show minC (fun c => (ps.getD c 0).toNat) (fun c => ws.getD c 0) f p (min l (ws.getD v 0)) = am from by
                        have h := HM.out
                        rw [minC, if_neg (by omega)] at h
                        show minC _ _ f p _ = am
                        rw [hp1, Int.toNat_natCast] at h
                        exact h)
                      have d0 : ((v : Int) != 0) = true := by rw [bne_iff_ne]; omega
                      have d1 : decide ((v : Int) < 0) = false := decide_eq_false (by omega)
                      have d2 : decide ((v : Int) ≥ (N : Int)) = false := decide_eq_false (by omega)
                      have d3 : decide ((k : Int) > (N : Int)) = false := decide_eq_false (by omega)
                      clear hp1 HM
                      generalize ws.getD v 0 = y at *
                      by_cases hmin : y < l
                      · have HM2 := Lib.hid (show min l y = y by omega)
                        go_wp2_with fail
                        go_roundg f
                        case measure => rw [HR.out]; omega
                        case rel => exact ⟨f, p, k + 1, y, rfl, by omega, by omega, by omega, rfl, rfl, by go_num, Lib.hid (by rw [← HM2.out]; exact HMN.out), rfl⟩
                      · have HM2 := Lib.hid (show min l y = l by omega)
                        go_wp2_with fail
                        go_roundg f
                        case measure => rw [HR.out]; omega
                        case rel => exact ⟨f, p, k + 1, l, rfl, by omega, by omega, by omega, rfl, rfl, by go_num, Lib.hid (by rw [← HM2.out]; exact HMN.out), rfl⟩
                    · obtain rfl : v = 0 := by omega
                      have hl : l = am := by have := HM.out; rw [minC_zero] at this; exact this
                      subst hl
                      have d1 : (l == l) = true := beq_self_eq_true l
                      go_wp2_with fail
                      go_ret
                      exact ⟨rfl, bb9⟩
end Go.Proofs.Ytpaahjeohigngaa
