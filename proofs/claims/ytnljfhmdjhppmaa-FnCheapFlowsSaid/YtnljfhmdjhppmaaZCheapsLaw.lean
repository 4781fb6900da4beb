/- The walk of the law FnCheapFlows (printed by gen_cheaps.py). -/
import Derived.Test.YtnljfhmdjhppmaaJ5
import Derived.Test.YtnljfhmdjhppmaaZCheapI
import Derived.Test.YtnljfhmdjhppmaaZNetDraw
import Derived.Test.YtnljfhmdjhppmaaZB10
import Derived.Test.YtnljfhmdjhppmaaZWayS
namespace Go.Proofs.Ytnljfhmdjhppmaa
open Go.RowKit

theorem b10Ints_q (A B : Option Addr) (n c m d : Nat) (zs : List Int) (w : World) (k : Nat) (hx : IntsAt w A n zs) (hy : IntsAt w B m zs) (hn : n ≤ maxLen) (hm : m ≤ maxLen) :
    Calls Try.prog 24 #[.slice A n c, .slice B m d] (w.drewN k) fun e w'' => e = .returned (.bool true) ∧ ∃ q, w'' = w.drewN q := by
  refine (b10Ints_any A B n c m d zs zs _ (hx.drewN k) (hy.drewN k) hn hm).mono ?_
  rintro e w'' ⟨h1, q, h2⟩
  exact ⟨by rw [h1, decide_eq_true (rfl : zs = zs)], k + q, by rw [h2, World.drewN_drewN]⟩
theorem netD_cost {N most : Nat} {xs : List ArcR} (h : NetD N most xs) : (∀ i, i < xs.length → 0 ≤ (xs.getD i default).cost) ∧ ∀ i, i < xs.length → (xs.getD i default).room ≤ 6 :=
  ⟨fun i hi => (h.arcs _ (getDL_mem (d := default) hi)).2.2.2.2.1, fun i hi => (h.arcs _ (getDL_mem (d := default) hi)).2.2.2.1.2⟩

set_option maxRecDepth 100000 in
set_option maxHeartbeats 1600000 in
theorem walk_CheapFlows (A0 : Option Addr) (n0 c0 : Nat) (A1 : Option Addr) (n1 c1 : Nat) (w : World) (h0 : BytesAt w A0 n0) (m0 : n0 ≤ maxLen) (h1 : BytesAt w A1 n1) (m1 : n1 ≤ maxLen) :
    Calls Try.prog 3 #[.slice A0 n0 c0, .slice A1 n1 c1] w fun e w' => e = .returned (.bool true) ∧ Below w.heap.size w w' := by
  have bb := Below.refl w.heap.size w
  by_cases hlong : (decide (1048576 < n0) || decide (1048576 < n1)) = true
  · have HX := Lib.hid hlong
    clear hlong
    go_enter Try.func3, Try.ntmps3
    go_wp2_with (go_at_call 11; refine (b10Long_any _ _ _ _ _ _ _ m0 m1).mono ?_; rw [HX.out]; rintro e w1 ⟨rfl, rfl⟩)
    go_ret
    exact ⟨rfl, bb⟩
  · rw [Bool.not_eq_true] at hlong
    have HX := Lib.hid hlong
    clear hlong
    go_enter Try.func3, Try.ntmps3
    go_wp2_with fail
    refine (b10Long_any _ _ _ _ _ _ _ m0 m1).mono ?_
    rw [HX.out]
    rintro e w1 ⟨rfl, rfl⟩
    go_wp2_with fail
    refine (b10Net_any A0 n0 c0 6 _ h0 m0 (by omega) (by omega)).mono ?_
    rintro e w1 ⟨N, L, m, q, xs, rfl, own, hd, hu⟩
    have b := Upd.ext hu
    have hN2 := hd.lo
    have hN7 := hd.hi
    have hxl := (OwnA.arcs own).1
    have hm10 : m ≤ 10 := by rw [← hxl]; exact hd.len
    have hmL : m ≤ maxLen := by unfold maxLen; omega
    have HXL := Lib.hid hxl
    have HV := Lib.hid (netD_valid hd (by omega))
    have HNC := Lib.hid (netD_cost hd)
    replace h1 := h1.below b
    have bb1 := ext_trans bb b
    clear hd hu b hxl
    have kb := Blk.new w1 26 #[.int .i64 (N : Int), .slice L m q]
    have hx := (OwnA.arcs own).alloc (.cells #[.int .i64 (N : Int), .slice L m q] 26)
    have b2 : Below w1.heap.size w1 (w1.alloc (.cells #[.int .i64 (N : Int), .slice L m q] 26)) := (Below.refl _ _).alloc (Nat.le_refl _) _
    replace h1 := h1.below b2
    have bb2 := ext_trans bb1 b2
    have hlt := kb.lt
    have q0 := kb.cell 0
    clear own b2
    go_wp2_with fail
    generalize w1.alloc (.cells #[.int .i64 (N : Int), .slice L m q] 26) = w2 at *
    generalize w1.heap.size = g at *
    refine (b10At_any _ _ _ _ _ _ h1 m1 (by omega) (by omega) (by omega)).mono ?_
    rintro e w3 ⟨⟨t, rfl, ht⟩, rfl⟩
    have ht1 : 1 ≤ 1 + t := by omega
    have htN : 1 + t < N := by omega
    have E1 := Lib.hid (show (1 : Int) + (t : Int) = ((1 + t : Nat) : Int) by omega)
    have q1 := kb.cell 1
    clear ht
    go_wp2_with fail
    rw [E1.out]
    clear E1
    generalize 1 + t = t at *
    obtain ⟨G, a, cG, hF⟩ := cheap_facts HV.out ht1 htN HNC.out.1 HNC.out.2
    have F := Lib.hid hF
    clear hF HNC
    have HKB := Lib.hid kb
    clear kb
    refine (specGreatFlow_r _ _ _ _ xs _ _ _ hx hmL).mono ?_
    rw [F.out.great, F.out.ends]
    rintro e w3 ⟨B, bn, bc, rfl, ownF, b⟩
    obtain rfl : m = bn := by rw [← ownF.len, ← HXL.out]; exact F.out.len.symm
    have hg := ownF.ints
    have hge := F.out.ge
    have hle := F.out.le
    clear ownF
    replace hx := hx.below b
    replace h1 := h1.below b
    replace bb2 := ext_trans bb2 b
    replace HKB := Lib.hid (HKB.out.ext b)
    clear b q0 q1
    have q0 := HKB.out.cell 0
    have q1 := HKB.out.cell 1
    go_wp2_with fail
    refine (b10At_any _ _ _ _ _ _ h1 m1 (by omega) (by omega) (by omega)).mono ?_
    rintro e w4 ⟨⟨am, rfl, ham⟩, rfl⟩
    have hamle : (am : Int) ≤ a := by omega
    obtain ⟨fl, pc, hC⟩ := F.out.one am (by omega) hamle
    have C := Lib.hid hC
    clear hC ham hamle
    go_wp2_with fail
    refine (implCheapFlow_r _ _ _ _ xs _ _ _ _ hx hmL).mono ?_
    rw [C.out.val]
    rintro e w5 ⟨B2, bn2, bc2, rfl, ownF2, b⟩
    obtain rfl : m = bn2 := by rw [← ownF2.len, ← HXL.out]; exact C.out.len.symm
    have hf := ownF2.ints
    replace hf : IntsAt w5 B2 m fl := hf
    clear ownF2
    clear h1
    replace hx := hx.below b
    replace hg := hg.below b
    replace bb2 := ext_trans bb2 b
    replace HKB := Lib.hid (HKB.out.ext b)
    clear b q0 q1
    have q0 := HKB.out.cell 0
    have q1 := HKB.out.cell 1
    rw [show cheapC xs (some fl) = pc from C.out.cost.2.2]
    go_wp2_with fail
    refine (specIsFlow_r _ _ _ _ xs _ _ _ fl _ _ _ hx hmL hf (by omega)).mono ?_
    rw [C.out.isF]
    rintro e w6 ⟨rfl, b⟩
    replace hx := hx.below b
    replace hg := hg.below b
    replace hf := hf.below b
    replace bb2 := ext_trans bb2 b
    replace HKB := Lib.hid (HKB.out.ext b)
    clear b q0 q1
    have q0 := HKB.out.cell 0
    have q1 := HKB.out.cell 1
    go_wp2_with fail
    refine (implFlowCost_r _ _ _ _ xs _ _ _ fl _ hx hmL hf (by omega)).mono ?_
    rw [C.out.cost.1, C.out.cost.2.1]
    rintro e w6 ⟨rfl, b⟩
    replace hx := hx.below b
    replace hg := hg.below b
    replace hf := hf.below b
    replace bb2 := ext_trans bb2 b
    replace HKB := Lib.hid (HKB.out.ext b)
    clear b q0 q1
    have q0 := HKB.out.cell 0
    have q1 := HKB.out.cell 1
    go_wp2_with fail
    refine (specFlowAmount_r _ _ _ _ xs _ _ _ fl _ _ hx hmL hf (by omega)).mono ?_
    rw [C.out.amt.1, C.out.amt.2]
    rintro e w6 ⟨rfl, b⟩
    replace hx := hx.below b
    replace hg := hg.below b
    replace hf := hf.below b
    replace bb2 := ext_trans bb2 b
    replace HKB := Lib.hid (HKB.out.ext b)
    clear b q0 q1
    have q0 := HKB.out.cell 0
    have q1 := HKB.out.cell 1
    go_wp2_with fail
    refine (implLossRound_r _ _ _ _ xs _ _ _ fl _ hx hmL hf (by omega)).mono ?_
    rw [C.out.loss.1, C.out.loss.2]
    rintro e w6 ⟨B3, bn3, bc3, rfl, own3, b⟩
    clear own3
    replace hx := hx.below b
    replace hg := hg.below b
    replace hf := hf.below b
    replace bb2 := ext_trans bb2 b
    replace HKB := Lib.hid (HKB.out.ext b)
    clear b q0 q1
    have q0 := HKB.out.cell 0
    have q1 := HKB.out.cell 1
    go_wp2_with fail
    refine (specLossRound_r _ _ _ _ xs _ _ _ fl _ hx hmL hf (by omega)).mono ?_
    rw [C.out.loss.1, C.out.loss.2]
    rintro e w6 ⟨B4, bn4, bc4, rfl, own4, b⟩
    clear own4 hf
    replace hx := hx.below b
    replace hg := hg.below b
    replace bb2 := ext_trans bb2 b
    replace HKB := Lib.hid (HKB.out.ext b)
    clear b q0 q1
    have q0 := HKB.out.cell 0
    have q1 := HKB.out.cell 1
    have d1 : (pc != pc) = false := bne_self_eq_false pc
    have d2 : ((am : Int) != (am : Int)) = false := bne_self_eq_false _
    obtain ⟨fl2, pc2, hC2, hpc2⟩ := F.out.all_
    have C2 := Lib.hid hC2
    have d3 : decide (cG < pc2) = false := by rw [decide_eq_false_iff_not]; omega
    clear hC2
    go_wp2_with fail
    refine (implCheapFlow_r _ _ _ _ xs _ _ _ _ hx hmL).mono ?_
    rw [C2.out.val]
    rintro e w7 ⟨B5, bn5, bc5, rfl, ownF5, b⟩
    obtain rfl : m = bn5 := by rw [← ownF5.len, ← HXL.out]; exact C2.out.len.symm
    clear ownF5
    replace hx := hx.below b
    replace hg := hg.below b
    replace bb2 := ext_trans bb2 b
    replace HKB := Lib.hid (HKB.out.ext b)
    clear b q0 q1
    have q0 := HKB.out.cell 0
    have q1 := HKB.out.cell 1
    rw [show cheapC xs (some fl2) = pc2 from C2.out.cost.2.2]
    go_wp2_with fail
    refine (specFlowCost_r _ _ _ _ xs _ _ _ G _ hx hmL hg (by omega)).mono ?_
    rw [F.out.cost.1, F.out.cost.2]
    rintro e w6 ⟨rfl, b⟩
    replace hx := hx.below b
    replace hg := hg.below b
    replace bb2 := ext_trans bb2 b
    replace HKB := Lib.hid (HKB.out.ext b)
    clear b q0 q1
    have q0 := HKB.out.cell 0
    have q1 := HKB.out.cell 1
    go_wp2_with fail
    refine (implCheapFlow_r _ _ _ _ xs _ _ _ _ hx hmL).mono ?_
    rw [F.out.over]
    rintro e w8 ⟨B6, bn6, bc6, rfl, ownF6, b⟩
    clear ownF6
    replace hx := hx.below b
    replace hg := hg.below b
    replace bb2 := ext_trans bb2 b
    replace HKB := Lib.hid (HKB.out.ext b)
    clear b q0 q1
    have q0 := HKB.out.cell 0
    have q1 := HKB.out.cell 1
    go_wp2_with fail
    refine (specWayOfFlow_r _ _ _ _ xs _ _ _ G _ _ _ hx hmL hg (by omega)).mono ?_
    rintro e w9 ⟨O1, oc1, vs1, rfl, o1, r1, _, b⟩
    replace hx := hx.below b
    replace hg := hg.below b
    replace bb2 := ext_trans bb2 b
    replace HKB := Lib.hid (HKB.out.ext b)
    clear b q0 q1
    have q0 := HKB.out.cell 0
    have q1 := HKB.out.cell 1
    go_wp2_with fail
    refine (implWayOfFlow_r _ _ _ _ xs _ _ _ G _ _ _ hx hmL hg (by omega)).mono ?_
    rintro e w10 ⟨O2, oc2, vs2, rfl, o2, r2, _, b⟩
    replace hx := hx.below b
    replace hg := hg.below b
    replace o1 := o1.below b
    replace r1 := r1.below b
    replace bb2 := ext_trans bb2 b
    replace HKB := Lib.hid (HKB.out.ext b)
    clear b q0 q1
    have q0 := HKB.out.cell 0
    have q1 := HKB.out.cell 1
    have hlen : vs1.length = vs2.length := r1.1.trans r2.1.symm
    have d4 : (wayYes N xs G 0 t != wayYes N xs G 0 t) = false := bne_self_eq_false _
    have hv2 := o2.le
    unfold maxLen at hv2
    generalize wayYes N xs G 0 t = yes at *
    generalize hvm : vs1.length = vm at *
    generalize hvn : vs2.length = vn at *
    subst hlen
    have HVN := Lib.hid hvn
    have HLN := Lib.hid hvm
    have d5 : ((vm : Int) != (vm : Int)) = false := bne_self_eq_false _
    clear hvn hvm
    cases yes
    · go_wp2_with fail
      go_loopg [34, 204] vm (fun r _ iv wr => ∃ j : Nat, r = vm - j ∧ j ≤ vm ∧ iv = .int .i64 (j : Int) ∧ Below w10.heap.size w10 wr)
      case atStart => exact ⟨0, by omega, by omega, rfl, Below.refl _ _⟩
      case round =>
        obtain ⟨j, hr, hj, rfl, hb⟩ := hrel
        have HR := Lib.hid hr
        clear hr
        obtain ⟨wo, rfl⟩ : ∃ wo : World, wo = wr := ⟨_, rfl⟩
        by_cases hlt : j < vm
        · have hl2 : j < (wayV N xs G 0 t).length := by rw [← r2.1, HVN.out]; exact hlt
          obtain ⟨C2, k2, e2, t2⟩ := r2.at_ hl2
          obtain ⟨C1, k1, e1, t1⟩ := r1.at_ hl2
          obtain ⟨gA, rfl, _, hbA, _⟩ := o1.pos (by omega)
          obtain ⟨gB, rfl, _, hbB, _⟩ := o2.pos (by omega)
          have p1 := OwnC.cell (o1.below hb) (j := j) (by omega)
          have p2 := OwnC.cell (o2.below hb) (j := j) (by omega)
          rw [e1] at p1
          rw [e2] at p2
          have T1 := Lib.hid (t1.below hb).ints
          have T2 := Lib.hid (t2.below hb).ints
          have L1 := Lib.hid t1.le
          have L2 := Lib.hid t2.le
          generalize (wayV N xs G 0 t).getD j [] = row at *
          clear o1 o2 r1 r2 t1 t2 e1 e2
          go_wp2_with fail
          go_quiet ((go_at_call 24; exact b10Ints_q _ _ _ _ _ _ row _ _ T2.out T1.out L2.out L1.out))
          go_wp2_with fail
          go_roundg (vm - (j + 1))
          case measure => rw [HR.out]; omega
          case rel => exact ⟨j + 1, rfl, by omega, by go_num, below_drewN hb _⟩
        · obtain rfl : vm = j := by omega
          go_wp2_with fail
          go_ret
          exact ⟨rfl, ext_trans bb2 hb⟩
    · go_wp2_with fail
      go_loopg [34, 204] vm (fun r _ iv wr => ∃ j : Nat, r = vm - j ∧ j ≤ vm ∧ iv = .int .i64 (j : Int) ∧ Below w10.heap.size w10 wr)
      case atStart => exact ⟨0, by omega, by omega, rfl, Below.refl _ _⟩
      case round =>
        obtain ⟨j, hr, hj, rfl, hb⟩ := hrel
        have HR := Lib.hid hr
        clear hr
        obtain ⟨wo, rfl⟩ : ∃ wo : World, wo = wr := ⟨_, rfl⟩
        by_cases hlt : j < vm
        · have hl2 : j < (wayV N xs G 0 t).length := by rw [← r2.1, HVN.out]; exact hlt
          obtain ⟨C2, k2, e2, t2⟩ := r2.at_ hl2
          obtain ⟨C1, k1, e1, t1⟩ := r1.at_ hl2
          obtain ⟨gA, rfl, _, hbA, _⟩ := o1.pos (by omega)
          obtain ⟨gB, rfl, _, hbB, _⟩ := o2.pos (by omega)
          have p1 := OwnC.cell (o1.below hb) (j := j) (by omega)
          have p2 := OwnC.cell (o2.below hb) (j := j) (by omega)
          rw [e1] at p1
          rw [e2] at p2
          have T1 := Lib.hid (t1.below hb).ints
          have T2 := Lib.hid (t2.below hb).ints
          have L1 := Lib.hid t1.le
          have L2 := Lib.hid t2.le
          generalize (wayV N xs G 0 t).getD j [] = row at *
          clear o1 o2 r1 r2 t1 t2 e1 e2
          go_wp2_with fail
          go_quiet ((go_at_call 24; exact b10Ints_q _ _ _ _ _ _ row _ _ T2.out T1.out L2.out L1.out))
          go_wp2_with fail
          go_roundg (vm - (j + 1))
          case measure => rw [HR.out]; omega
          case rel => exact ⟨j + 1, rfl, by omega, by go_num, below_drewN hb _⟩
        · obtain rfl : vm = j := by omega
          go_wp2_with fail
          go_ret
          exact ⟨rfl, ext_trans bb2 hb⟩
end Go.Proofs.Ytnljfhmdjhppmaa
