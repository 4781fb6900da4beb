/- The walk of the law FnExactWayOfFlow. -/
import Derived.Test.YtmkgccbpppcmoaaRowsSS
import Derived.Test.YtmkgccbpppcmoaaWayS
import Derived.Test.YtmkgccbpppcmoaaNetMark
import Derived.Test.YtmkgccbpppcmoaaOpenNet
namespace Go.Proofs.Ytmkgccbpppcmoaa
open Go.RowKit

set_option maxRecDepth 100000 in
set_option maxHeartbeats 3200000 in
theorem walk_WayOfFlow (nd0 : Int) (A0 : Option Addr) (n0 c0 : Nat) (z0 : List ArcR) (A1 : Option Addr) (n1 c1 : Nat) (z1 : List Int) (a2 : Int) (a3 : Int) (w : World) (_wf0 : (Lit.int .i64 nd0).wf = true) (h0 : ArcsAt w A0 n0 z0) (_fit0 : FitA z0) (hm0 : n0 ≤ maxLen) (h1 : IntsAt w A1 n1 z1) (_fit1 : FitI z1) (hm1 : n1 ≤ maxLen) (wf2 : (Lit.int .i64 a2).wf = true) (wf3 : (Lit.int .i64 a3).wf = true) :
    Calls Try.prog 4 #[.agg #[.int .i64 nd0, .slice A0 n0 c0], .slice A1 n1 c1, .int .i64 a2, .int .i64 a3] w fun e w' => e = .returned (.bool true) ∧ Below w.heap.size w w' := by
  have HM0 := Lib.hid hm0
  have HM1 := Lib.hid hm1
  have bd2 := fit_bd wf2
  have bdl2 := bd2.1
  have bdr2 := bd2.2
  clear bd2
  have bd3 := fit_bd wf3
  have bdl3 := bd3.1
  have bdr3 := bd3.2
  clear bd3
  have hW : Below w.heap.size w (w.alloc (.cells #[.int .i64 nd0, .slice A0 n0 c0] 31)) := (Below.refl _ _).alloc (Nat.le_refl _) _
  have KB0 := Lib.hid (Blk.new w 31 #[.int .i64 nd0, .slice A0 n0 c0])
  have hlt0 : w.heap.size < (w.alloc (.cells #[.int .i64 nd0, .slice A0 n0 c0] 31)).heap.size := by simp
  have k0 := h0.alloc (.cells #[.int .i64 nd0, .slice A0 n0 c0] 31)
  have k1 := h1.alloc (.cells #[.int .i64 nd0, .slice A0 n0 c0] 31)
  have KB := KB0
  have HOFF := Lib.hid (show offR 1 (wayV nd0 z0 z1 a2 a3) (wayV nd0 z0 z1 a2 a3).length ≤ 4611686018427387904 from by
    have h5 := offR_bd (k := 1) (wayV_small nd0 z0 z1 a2 a3).2 (wayV nd0 z0 z1 a2 a3).length
    have h6 := (wayV_small nd0 z0 z1 a2 a3).1
    omega)
  have HOFF0 := Lib.hid (show ¬ offR 1 (wayV nd0 z0 z1 a2 a3) (wayV nd0 z0 z1 a2 a3).length < 0 from by have := offR_mono 1 (wayV nd0 z0 z1 a2 a3) (wayV nd0 z0 z1 a2 a3).length; omega)
  clear h0
  clear h1
  by_cases big1 : n1 ≤ 1048576
  · skip
    by_cases big0 : n0 ≤ 1048576
    · skip
      go_enter Try.func4, Try.ntmps4
      go_wp2_with fail
      generalize w.alloc (.cells #[.int .i64 nd0, .slice A0 n0 c0] 31) = w0 at *
      have bb := Below.refl w0.heap.size w0
      have g0 := k0
      have g1 := k1
      refine (szNet_yes nd0 A0 n0 c0 _ _ (by omega) (by omega)).mono ?_
      rintro e w1 ⟨rfl, b⟩
      replace g0 := g0.below b
      replace g1 := g1.below b
      replace KB := Lib.hid (KB.out.ext b)
      replace bb := ext_trans bb b
      clear b
      have hpos : ¬ ((1048576 : Int) - n0 < 0) := by omega
      have p0 := KB.out.cell 0
      have p1 := KB.out.cell 1
      go_wp2_with fail
      refine (toNet_any nd0 _ _ _ z0 _ g0 big0).mono ?_
      rintro e w2 ⟨Ap0, cp0, rfl, op0, b⟩
      clear p0 p1
      replace op0 := OwnC.low op0 bb.size
      replace g0 := g0.below b
      replace g1 := g1.below b
      replace KB := Lib.hid (KB.out.ext b)
      replace bb := ext_trans bb b
      clear b
      go_wp2_with fail
      refine (toInt64S_len _ _ _ z1 _ g1 big1).mono ?_
      rintro e w3 ⟨Ap1, cp1, rfl, op1, b⟩
      have s_p0_p1 := sepC op0 op1
      replace op1 := OwnI.low op1 bb.size
      replace op0 := OwnC.below op0 b
      replace g0 := g0.below b
      replace g1 := g1.below b
      replace KB := Lib.hid (KB.out.ext b)
      replace bb := ext_trans bb b
      clear b
      go_wp2_with fail
      refine (specWayOfFlow_r nd0 Ap0 n0 cp0 z0 Ap1 n1 cp1 z1 a2 a3 _ (OwnA.arcs op0) HM0.out op1.ints big1).mono ?_
      rintro e w4 ⟨Aw, cw, vw, rfl, o1, o2, o3, b⟩
      have ow := RowsO.mk o1 o2 o3
      have lw : vw.length ≤ 48 := by rw [o2.1]; exact (wayV_small _ _ _ _ _).1
      clear o1 o2 o3
      have s_p0_w := sepXR (fun ad ha => (OwnC.lt op0 ha).2) ow
      have s_p1_w := sepXR (fun ad ha => (OwnC.lt op1 ha).2) ow
      replace ow := RowsO.low ow bb.size
      replace op0 := OwnC.below op0 b
      replace op1 := OwnI.below op1 b
      replace g0 := g0.below b
      replace g1 := g1.below b
      replace KB := Lib.hid (KB.out.ext b)
      replace bb := ext_trans bb b
      clear b
      clear op0
      clear s_p0_p1
      clear s_p0_w
      clear op1
      clear s_p1_w
      clear hpos
      have p0 := KB.out.cell 0
      have p1 := KB.out.cell 1
      go_wp2_with fail
      refine (toNet_any nd0 _ _ _ z0 _ g0 big0).mono ?_
      rintro e w5 ⟨Ax0, cx0, rfl, ox0, b⟩
      clear p0 p1
      have s_w_x0 := sepRX ow (fun ad ha => (OwnC.lt ox0 ha).1)
      replace ox0 := OwnC.low ox0 bb.size
      replace ow := RowsO.below ow b
      replace g0 := g0.below b
      replace g1 := g1.below b
      replace KB := Lib.hid (KB.out.ext b)
      replace bb := ext_trans bb b
      clear b
      replace g0 := g0.alloc (.cells #[.int .i64 nd0, .slice Ax0 n0 cx0] 38)
      replace g1 := g1.alloc (.cells #[.int .i64 nd0, .slice Ax0 n0 cx0] 38)
      replace ow := RowsO.alloc ow (.cells #[.int .i64 nd0, .slice Ax0 n0 cx0] 38)
      replace ox0 := OwnC.alloc ox0 (.cells #[.int .i64 nd0, .slice Ax0 n0 cx0] 38)
      replace KB := Lib.hid (KB.out.alloc (.cells #[.int .i64 nd0, .slice Ax0 n0 cx0] 38))
      have KX := Lib.hid (Blk.new w5 38 #[.int .i64 nd0, .slice Ax0 n0 cx0])
      replace bb := bb.alloc bb.size (.cells #[.int .i64 nd0, .slice Ax0 n0 cx0] 38)
      go_wp2_with fail
      generalize w5.alloc (.cells #[.int .i64 nd0, .slice Ax0 n0 cx0] 38) = w6 at *
      go_wp2_with fail
      refine (toInt64S_len _ _ _ z1 _ g1 big1).mono ?_
      rintro e w7 ⟨Ax1, cx1, rfl, ox1, b⟩
      have s_w_x1 := sepRX ow (fun ad ha => (OwnC.lt ox1 ha).1)
      have s_x0_x1 := sepC ox0 ox1
      replace ox1 := OwnI.low ox1 bb.size
      replace ow := RowsO.below ow b
      replace ox0 := OwnC.below ox0 b
      replace g0 := g0.below b
      replace g1 := g1.below b
      replace KB := Lib.hid (KB.out.ext b)
      replace KX := Lib.hid (KX.out.ext b)
      replace bb := ext_trans bb b
      clear b
      have p0 := KX.out.cell 0
      have p1 := KX.out.cell 1
      go_wp2_with fail
      refine (implWayOfFlow_r nd0 Ax0 n0 cx0 z0 Ax1 n1 cx1 z1 a2 a3 _ (OwnA.arcs ox0) HM0.out ox1.ints big1).mono ?_
      rintro e w8 ⟨Ag, cg, vg, rfl, o1, o2, o3, b⟩
      have og := RowsO.mk o1 o2 o3
      have lg : vg.length ≤ 48 := by rw [o2.1]; exact (wayV_small _ _ _ _ _).1
      clear o1 o2 o3
      clear p0 p1
      have s_w_g := sepRR ow og
      have s_x0_g := sepXR (fun ad ha => (OwnC.lt ox0 ha).2) og
      have s_x1_g := sepXR (fun ad ha => (OwnC.lt ox1 ha).2) og
      replace og := RowsO.low og bb.size
      replace ow := RowsO.below ow b
      replace ox0 := OwnC.below ox0 b
      replace ox1 := OwnI.below ox1 b
      replace g0 := g0.below b
      replace g1 := g1.below b
      replace KB := Lib.hid (KB.out.ext b)
      replace KX := Lib.hid (KX.out.ext b)
      replace bb := ext_trans bb b
      clear b
      go_wp2_with fail
      refine (eqInt64SS_same _ _ _ _ _ _ _ _ _ _ _ _ og ow (by omega) (fun i => Nat.le_trans ((wayV_small _ _ _ _ _).2 i) (by decide))).mono ?_
      rintro e w9 ⟨rfl, b⟩
      replace ow := RowsO.below ow b
      replace ox0 := OwnC.below ox0 b
      replace ox1 := OwnI.below ox1 b
      replace og := RowsO.below og b
      replace g0 := g0.below b
      replace g1 := g1.below b
      replace KB := Lib.hid (KB.out.ext b)
      replace KX := Lib.hid (KX.out.ext b)
      replace bb := ext_trans bb b
      clear b
      have p0 := KB.out.cell 0
      have p1 := KB.out.cell 1
      have q0 := KX.out.cell 0
      have q1 := KX.out.cell 1
      go_wp2_with fail
      go_cut [64] (fun sx wx => sx = .bool false ∧ Below w9.heap.size w9 wx)
      case first =>
        go_region_with (first | (go_at_call 16; refine (toNet_any nd0 A0 n0 c0 z0 _ g0.drew big0).mono ?_; rintro e w7 ⟨A3, c3, rfl, o3, b⟩; have q0 := (KX.out.drew.ext b).cell 0; have q1 := (KX.out.drew.ext b).cell 1) | (go_at_call 19; refine (eqNet_same nd0 Ax0 A3 n0 cx0 n0 c3 z0 _ (OwnA.arcs (OwnC.below (OwnC.drew ox0) b)) o3.arcs HM0.out).mono ?_; rintro e w8 ⟨rfl, b8⟩))
        all_goals
          go_wp2_with fail
          go_meet
          exact ⟨rfl, ext_trans (ext_trans (Below.drew (Below.refl _ _)) b) b8⟩
      case rest =>
        obtain ⟨rfl, b⟩ := hcut
        clear q0 q1
        clear p0 p1
        replace ow := RowsO.below ow b
        replace ox0 := OwnC.below ox0 b
        replace ox1 := OwnI.below ox1 b
        replace og := RowsO.below og b
        replace g0 := g0.below b
        replace g1 := g1.below b
        replace KB := Lib.hid (KB.out.ext b)
        replace KX := Lib.hid (KX.out.ext b)
        replace bb := ext_trans bb b
        clear b
        go_wp2_with fail
        refine (toInt64S_len _ _ _ z1 _ g1 big1).mono ?_
        rintro e w11 ⟨Ay1, cy1, rfl, oy1, b⟩
        have s_w_y1 := sepRX ow (fun ad ha => (OwnC.lt oy1 ha).1)
        have s_x0_y1 := sepC ox0 oy1
        have s_x1_y1 := sepC ox1 oy1
        have s_g_y1 := sepRX og (fun ad ha => (OwnC.lt oy1 ha).1)
        replace oy1 := OwnI.low oy1 bb.size
        replace ow := RowsO.below ow b
        replace ox0 := OwnC.below ox0 b
        replace ox1 := OwnI.below ox1 b
        replace og := RowsO.below og b
        replace g0 := g0.below b
        replace g1 := g1.below b
        replace KB := Lib.hid (KB.out.ext b)
        replace KX := Lib.hid (KX.out.ext b)
        replace bb := ext_trans bb b
        clear b
        go_wp2_with fail
        refine (eqInt64S_same _ _ _ _ _ _ _ _ ox1.ints oy1.ints ox1.le).mono ?_
        rintro e w12 ⟨rfl, b⟩
        replace ow := RowsO.below ow b
        replace ox0 := OwnC.below ox0 b
        replace ox1 := OwnI.below ox1 b
        replace og := RowsO.below og b
        replace oy1 := OwnI.below oy1 b
        replace g0 := g0.below b
        replace g1 := g1.below b
        replace KB := Lib.hid (KB.out.ext b)
        replace KX := Lib.hid (KX.out.ext b)
        replace bb := ext_trans bb b
        clear b
        clear oy1
        clear s_x0_y1
        clear s_w_y1
        clear s_g_y1
        clear s_x1_y1
        have KBt := KB0
        have p0 := KX.out.cell 0
        have p1 := KX.out.cell 1
        go_wp2_with fail
        refine (markNet_ret _ nd0 _ _ _ _ _ _ ox0 (by omega) (by omega)).mono ?_
        rintro e w13 ⟨kkx0, rfl, klx0, krx0, u⟩
        clear p0 p1
        clear KBt
        replace bb := below_blkC bb bb.size u ox0 (Nat.le_refl _)
        replace ow := RowsO.upd ow u s_w_x0
        replace ox1 := OwnI.sep ox1 u s_x0_x1.symm
        replace og := RowsO.upd og u s_x0_g
        clear g0
        have g0 := k0.below bb
        clear g1
        have g1 := k1.below bb
        clear KB
        have KB := Lib.hid (KB0.out.below bb hlt0)
        clear KX
        clear u
        clear ox0
        clear s_x0_x1
        clear s_w_x0
        clear s_x0_g
        have KBt := KB0
        go_wp2_with fail
        refine (markInt64S_ret _ _ _ _ _ _ _ _ ox1 (by omega) (by omega)).mono ?_
        rintro e w14 ⟨kkx1, rfl, HKx1, klx1, krx1, om, u⟩
        clear KBt
        replace bb := below_blkC bb bb.size u ox1 (Nat.le_refl _)
        replace ow := RowsO.upd ow u s_w_x1
        replace og := RowsO.upd og u s_x1_g
        clear g0
        have g0 := k0.below bb
        clear g1
        have g1 := k1.below bb
        clear KB
        have KB := Lib.hid (KB0.out.below bb hlt0)
        clear ox1 u
        have ox1 := om
        clear om
        clear ox1
        clear s_x1_g
        clear s_w_x1
        go_wp2_with fail
        refine (eqInt64SS_same _ _ _ _ _ _ _ _ _ _ _ _ og ow (by omega) (fun i => Nat.le_trans ((wayV_small _ _ _ _ _).2 i) (by decide))).mono ?_
        rintro e w15 ⟨rfl, b⟩
        replace ow := RowsO.below ow b
        replace og := RowsO.below og b
        replace g0 := g0.below b
        replace g1 := g1.below b
        replace KB := Lib.hid (KB.out.ext b)
        replace bb := ext_trans bb b
        clear b
        have KBt := KB0
        go_wp2_with fail
        refine (markInt64SS_any _ _ _ (by decide) _ _ _ _ 1 _ og (by omega) (by omega) HOFF.out).mono ?_
        rintro e w16 ⟨rfl, om, u⟩
        have hoff0 := HOFF0.out
        clear KBt
        replace bb := below_rows bb bb.size u og (Nat.le_refl _)
        replace ow := RowsO.upd ow u s_w_g
        clear g0
        have g0 := k0.below bb
        clear g1
        have g1 := k1.below bb
        clear KB
        have KB := Lib.hid (KB0.out.below bb hlt0)
        clear og u
        have og := om
        clear om
        go_wp2_with fail
        refine (pure_ret (heldInt64SS_any _ _ _ _ _ _ _ 1 _ og (by omega) (by omega) HOFF.out)).mono ?_
        rintro e w17 ⟨rfl, b⟩
        replace ow := RowsO.below ow b
        replace og := RowsO.below og b
        replace g0 := g0.below b
        replace g1 := g1.below b
        replace KB := Lib.hid (KB.out.ext b)
        replace bb := ext_trans bb b
        clear b
        have p0 := KB.out.cell 0
        have p1 := KB.out.cell 1
        go_wp2_with fail
        refine (toNet_any nd0 _ _ _ z0 _ g0 big0).mono ?_
        rintro e w18 ⟨Aq0, cq0, rfl, oq0, b⟩
        clear p0 p1
        have s_w_q0 := sepRX ow (fun ad ha => (OwnC.lt oq0 ha).1)
        have s_g_q0 := sepRX og (fun ad ha => (OwnC.lt oq0 ha).1)
        replace oq0 := OwnC.low oq0 bb.size
        replace ow := RowsO.below ow b
        replace og := RowsO.below og b
        replace g0 := g0.below b
        replace g1 := g1.below b
        replace KB := Lib.hid (KB.out.ext b)
        replace bb := ext_trans bb b
        clear b
        go_wp2_with fail
        refine (toInt64S_len _ _ _ z1 _ g1 big1).mono ?_
        rintro e w19 ⟨Aq1, cq1, rfl, oq1, b⟩
        have s_w_q1 := sepRX ow (fun ad ha => (OwnC.lt oq1 ha).1)
        have s_g_q1 := sepRX og (fun ad ha => (OwnC.lt oq1 ha).1)
        have s_q0_q1 := sepC oq0 oq1
        replace oq1 := OwnI.low oq1 bb.size
        replace ow := RowsO.below ow b
        replace og := RowsO.below og b
        replace oq0 := OwnC.below oq0 b
        replace g0 := g0.below b
        replace g1 := g1.below b
        replace KB := Lib.hid (KB.out.ext b)
        replace bb := ext_trans bb b
        clear b
        go_wp2_with fail
        refine (implWayOfFlow_r nd0 Aq0 n0 cq0 z0 Aq1 n1 cq1 z1 a2 a3 _ (OwnA.arcs oq0) HM0.out oq1.ints big1).mono ?_
        rintro e w20 ⟨Av, cv, vv, rfl, o1, o2, o3, b⟩
        have ov := RowsO.mk o1 o2 o3
        have lv : vv.length ≤ 48 := by rw [o2.1]; exact (wayV_small _ _ _ _ _).1
        clear o1 o2 o3
        have s_w_v := sepRR ow ov
        have s_g_v := sepRR og ov
        have s_q0_v := sepXR (fun ad ha => (OwnC.lt oq0 ha).2) ov
        have s_q1_v := sepXR (fun ad ha => (OwnC.lt oq1 ha).2) ov
        replace ov := RowsO.low ov bb.size
        replace ow := RowsO.below ow b
        replace og := RowsO.below og b
        replace oq0 := OwnC.below oq0 b
        replace oq1 := OwnI.below oq1 b
        replace g0 := g0.below b
        replace g1 := g1.below b
        replace KB := Lib.hid (KB.out.ext b)
        replace bb := ext_trans bb b
        clear b
        go_wp2_with fail
        refine (eqInt64SS_same _ _ _ _ _ _ _ _ _ _ _ _ ov ow (by omega) (fun i => Nat.le_trans ((wayV_small _ _ _ _ _).2 i) (by decide))).mono ?_
        rintro e w21 ⟨rfl, b⟩
        replace ow := RowsO.below ow b
        replace og := RowsO.below og b
        replace oq0 := OwnC.below oq0 b
        replace oq1 := OwnI.below oq1 b
        replace ov := RowsO.below ov b
        replace g0 := g0.below b
        replace g1 := g1.below b
        replace KB := Lib.hid (KB.out.ext b)
        replace bb := ext_trans bb b
        clear b
        go_wp2_with fail
        refine (pure_ret (heldInt64SS_any _ _ _ _ _ _ _ 1 _ og (by omega) (by omega) HOFF.out)).mono ?_
        rintro e w22 ⟨rfl, b⟩
        replace ow := RowsO.below ow b
        replace og := RowsO.below og b
        replace oq0 := OwnC.below oq0 b
        replace oq1 := OwnI.below oq1 b
        replace ov := RowsO.below ov b
        replace g0 := g0.below b
        replace g1 := g1.below b
        replace KB := Lib.hid (KB.out.ext b)
        replace bb := ext_trans bb b
        clear b
        go_wp2
        go_ret
        exact ⟨rfl, below_ext hW hW.size bb⟩
    · go_enter Try.func4, Try.ntmps4
      go_wp2_with fail
      generalize w.alloc (.cells #[.int .i64 nd0, .slice A0 n0 c0] 31) = w0 at *
      refine (szNet_no nd0 A0 n0 c0 _ _ (by omega) (by omega) (by omega) HM0.out).mono ?_
      rintro e w1 ⟨rfl, b⟩
      go_wp2_with fail
      go_ret
      exact ⟨rfl, below_ext hW hW.size b⟩
  · go_enter Try.func4, Try.ntmps4
    go_wp2
    go_ret
    exact ⟨rfl, hW⟩
end Go.Proofs.Ytmkgccbpppcmoaa
