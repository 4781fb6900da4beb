/- The walk of the law FnExactFlowsShared. -/
import Derived.Test.YthhmgamcpjnjgaaShared
import Derived.Test.YthhmgamcpjnjgaaNetMark
import Derived.Test.YthhmgamcpjnjgaaOpenNet
namespace Go.Proofs.Ythhmgamcpjnjgaa
open Go.RowKit

set_option maxRecDepth 100000 in
set_option maxHeartbeats 3200000 in
theorem walk_FlowsShared (nd0 : Int) (A0 : Option Addr) (n0 c0 : Nat) (z0 : List ArcR) (a1 : Int) (A2 : Option Addr) (n2 c2 : Nat) (z2 : List Int) (a3 : Int) (w : World) (_wf0 : (Lit.int .i64 nd0).wf = true) (h0 : ArcsAt w A0 n0 z0) (_fit0 : FitA z0) (hm0 : n0 ≤ maxLen) (wf1 : (Lit.int .i64 a1).wf = true) (h2 : IntsAt w A2 n2 z2) (_fit2 : FitI z2) (hm2 : n2 ≤ maxLen) (wf3 : (Lit.int .i64 a3).wf = true) :
    Calls Try.prog 3 #[.agg #[.int .i64 nd0, .slice A0 n0 c0], .int .i64 a1, .slice A2 n2 c2, .int .i64 a3] w fun e w' => e = .returned (.bool true) ∧ Below w.heap.size w w' := by
  have HM0 := Lib.hid hm0
  have HM2 := Lib.hid hm2
  have bd1 := fit_bd wf1
  have bdl1 := bd1.1
  have bdr1 := bd1.2
  clear bd1
  have bd3 := fit_bd wf3
  have bdl3 := bd3.1
  have bdr3 := bd3.2
  clear bd3
  have hW : Below w.heap.size w (w.alloc (.cells #[.int .i64 nd0, .slice A0 n0 c0] 24)) := (Below.refl _ _).alloc (Nat.le_refl _) _
  have KB0 := Lib.hid (Blk.new w 24 #[.int .i64 nd0, .slice A0 n0 c0])
  have hlt0 : w.heap.size < (w.alloc (.cells #[.int .i64 nd0, .slice A0 n0 c0] 24)).heap.size := by simp
  have k0 := h0.alloc (.cells #[.int .i64 nd0, .slice A0 n0 c0] 24)
  have k2 := h2.alloc (.cells #[.int .i64 nd0, .slice A0 n0 c0] 24)
  have KB := KB0
  clear h0
  clear h2
  by_cases big2 : n2 ≤ 1048576
  · skip
    by_cases big0 : n0 ≤ 1048576
    · skip
      go_enter Try.func3, Try.ntmps3
      go_wp2_with fail
      generalize w.alloc (.cells #[.int .i64 nd0, .slice A0 n0 c0] 24) = w0 at *
      have bb := Below.refl w0.heap.size w0
      have g0 := k0
      have g2 := k2
      refine (szNet_yes nd0 A0 n0 c0 _ _ (by omega) (by omega)).mono ?_
      rintro e w1 ⟨rfl, b⟩
      replace g0 := g0.below b
      replace g2 := g2.below b
      replace KB := Lib.hid (KB.out.ext b)
      replace bb := ext_trans bb b
      clear b
      have hpos : ¬ ((1048576 : Int) - n0 < 0) := by omega
      have p0 := KB.out.cell 0
      have p1 := KB.out.cell 1
      go_wp2_with fail
      refine (toNet_any nd0 _ _ _ z0 _ g0 big0).mono ?_
      rintro e w2 ⟨Ap0, cp0, rfl, op0, b⟩
      clear p0 p1
      replace op0 := OwnC.low op0 bb.size
      replace g0 := g0.below b
      replace g2 := g2.below b
      replace KB := Lib.hid (KB.out.ext b)
      replace bb := ext_trans bb b
      clear b
      go_wp2_with fail
      refine (toInt64S_len _ _ _ z2 _ g2 big2).mono ?_
      rintro e w3 ⟨Ap2, cp2, rfl, op2, b⟩
      have s_p0_p2 := sepC op0 op2
      replace op2 := OwnI.low op2 bb.size
      replace op0 := OwnC.below op0 b
      replace g0 := g0.below b
      replace g2 := g2.below b
      replace KB := Lib.hid (KB.out.ext b)
      replace bb := ext_trans bb b
      clear b
      go_wp2_with fail
      refine (specFlowsShared_r nd0 Ap0 n0 cp0 z0 a1 Ap2 n2 cp2 z2 a3 _ (OwnA.arcs op0) HM0.out op2.ints big2).mono ?_
      rintro e w4 ⟨Aw, nw, cw, rfl, ow, b⟩
      have lw : nw ≤ 1048576 := by rw [← ow.len]; exact (sharedV_len _ _ _ _ _)
      have s_p0_w := sepC op0 ow
      have s_p2_w := sepC op2 ow
      replace ow := OwnI.low ow bb.size
      replace op0 := OwnC.below op0 b
      replace op2 := OwnI.below op2 b
      replace g0 := g0.below b
      replace g2 := g2.below b
      replace KB := Lib.hid (KB.out.ext b)
      replace bb := ext_trans bb b
      clear b
      clear op0
      clear s_p0_p2
      clear s_p0_w
      clear op2
      clear s_p2_w
      clear hpos
      have p0 := KB.out.cell 0
      have p1 := KB.out.cell 1
      go_wp2_with fail
      refine (toNet_any nd0 _ _ _ z0 _ g0 big0).mono ?_
      rintro e w5 ⟨Ax0, cx0, rfl, ox0, b⟩
      clear p0 p1
      have s_w_x0 := sepC ow ox0
      replace ox0 := OwnC.low ox0 bb.size
      replace ow := OwnI.below ow b
      replace g0 := g0.below b
      replace g2 := g2.below b
      replace KB := Lib.hid (KB.out.ext b)
      replace bb := ext_trans bb b
      clear b
      replace g0 := g0.alloc (.cells #[.int .i64 nd0, .slice Ax0 n0 cx0] 31)
      replace g2 := g2.alloc (.cells #[.int .i64 nd0, .slice Ax0 n0 cx0] 31)
      replace ow := OwnI.alloc ow (.cells #[.int .i64 nd0, .slice Ax0 n0 cx0] 31)
      replace ox0 := OwnC.alloc ox0 (.cells #[.int .i64 nd0, .slice Ax0 n0 cx0] 31)
      replace KB := Lib.hid (KB.out.alloc (.cells #[.int .i64 nd0, .slice Ax0 n0 cx0] 31))
      have KX := Lib.hid (Blk.new w5 31 #[.int .i64 nd0, .slice Ax0 n0 cx0])
      replace bb := bb.alloc bb.size (.cells #[.int .i64 nd0, .slice Ax0 n0 cx0] 31)
      go_wp2_with fail
      generalize w5.alloc (.cells #[.int .i64 nd0, .slice Ax0 n0 cx0] 31) = w6 at *
      go_wp2_with fail
      refine (toInt64S_len _ _ _ z2 _ g2 big2).mono ?_
      rintro e w7 ⟨Ax2, cx2, rfl, ox2, b⟩
      have s_w_x2 := sepC ow ox2
      have s_x0_x2 := sepC ox0 ox2
      replace ox2 := OwnI.low ox2 bb.size
      replace ow := OwnI.below ow b
      replace ox0 := OwnC.below ox0 b
      replace g0 := g0.below b
      replace g2 := g2.below b
      replace KB := Lib.hid (KB.out.ext b)
      replace KX := Lib.hid (KX.out.ext b)
      replace bb := ext_trans bb b
      clear b
      have p0 := KX.out.cell 0
      have p1 := KX.out.cell 1
      go_wp2_with fail
      refine (implFlowsShared_r nd0 Ax0 n0 cx0 z0 a1 Ax2 n2 cx2 z2 a3 _ (OwnA.arcs ox0) HM0.out ox2.ints big2).mono ?_
      rintro e w8 ⟨Ag, ng, cg, rfl, og, b⟩
      have lg : ng ≤ 1048576 := by rw [← og.len]; exact (sharedV_len _ _ _ _ _)
      clear p0 p1
      have s_w_g := sepC ow og
      have s_x0_g := sepC ox0 og
      have s_x2_g := sepC ox2 og
      replace og := OwnI.low og bb.size
      replace ow := OwnI.below ow b
      replace ox0 := OwnC.below ox0 b
      replace ox2 := OwnI.below ox2 b
      replace g0 := g0.below b
      replace g2 := g2.below b
      replace KB := Lib.hid (KB.out.ext b)
      replace KX := Lib.hid (KX.out.ext b)
      replace bb := ext_trans bb b
      clear b
      go_wp2_with fail
      refine (eqInt64S_same _ _ _ _ _ _ _ _ og.ints ow.ints og.le).mono ?_
      rintro e w9 ⟨rfl, b⟩
      replace ow := OwnI.below ow b
      replace ox0 := OwnC.below ox0 b
      replace ox2 := OwnI.below ox2 b
      replace og := OwnI.below og b
      replace g0 := g0.below b
      replace g2 := g2.below b
      replace KB := Lib.hid (KB.out.ext b)
      replace KX := Lib.hid (KX.out.ext b)
      replace bb := ext_trans bb b
      clear b
      have p0 := KB.out.cell 0
      have p1 := KB.out.cell 1
      have q0 := KX.out.cell 0
      have q1 := KX.out.cell 1
      go_wp2_with fail
      go_cut [64] (fun sx wx => sx = .bool false ∧ Below w9.heap.size w9 wx)
      case first =>
        go_region_with (first | (go_at_call 9; refine (toNet_any nd0 A0 n0 c0 z0 _ g0.drew big0).mono ?_; rintro e w7 ⟨A3, c3, rfl, o3, b⟩; have q0 := (KX.out.drew.ext b).cell 0; have q1 := (KX.out.drew.ext b).cell 1) | (go_at_call 13; refine (eqNet_same nd0 Ax0 A3 n0 cx0 n0 c3 z0 _ (OwnA.arcs (OwnC.below (OwnC.drew ox0) b)) o3.arcs HM0.out).mono ?_; rintro e w8 ⟨rfl, b8⟩))
        all_goals
          go_wp2_with fail
          go_meet
          exact ⟨rfl, ext_trans (ext_trans (Below.drew (Below.refl _ _)) b) b8⟩
      case rest =>
        obtain ⟨rfl, b⟩ := hcut
        clear q0 q1
        clear p0 p1
        replace ow := OwnI.below ow b
        replace ox0 := OwnC.below ox0 b
        replace ox2 := OwnI.below ox2 b
        replace og := OwnI.below og b
        replace g0 := g0.below b
        replace g2 := g2.below b
        replace KB := Lib.hid (KB.out.ext b)
        replace KX := Lib.hid (KX.out.ext b)
        replace bb := ext_trans bb b
        clear b
        go_wp2_with fail
        refine (toInt64S_len _ _ _ z2 _ g2 big2).mono ?_
        rintro e w11 ⟨Ay2, cy2, rfl, oy2, b⟩
        have s_w_y2 := sepC ow oy2
        have s_x0_y2 := sepC ox0 oy2
        have s_x2_y2 := sepC ox2 oy2
        have s_g_y2 := sepC og oy2
        replace oy2 := OwnI.low oy2 bb.size
        replace ow := OwnI.below ow b
        replace ox0 := OwnC.below ox0 b
        replace ox2 := OwnI.below ox2 b
        replace og := OwnI.below og b
        replace g0 := g0.below b
        replace g2 := g2.below b
        replace KB := Lib.hid (KB.out.ext b)
        replace KX := Lib.hid (KX.out.ext b)
        replace bb := ext_trans bb b
        clear b
        go_wp2_with fail
        refine (eqInt64S_same _ _ _ _ _ _ _ _ ox2.ints oy2.ints ox2.le).mono ?_
        rintro e w12 ⟨rfl, b⟩
        replace ow := OwnI.below ow b
        replace ox0 := OwnC.below ox0 b
        replace ox2 := OwnI.below ox2 b
        replace og := OwnI.below og b
        replace oy2 := OwnI.below oy2 b
        replace g0 := g0.below b
        replace g2 := g2.below b
        replace KB := Lib.hid (KB.out.ext b)
        replace KX := Lib.hid (KX.out.ext b)
        replace bb := ext_trans bb b
        clear b
        clear oy2
        clear s_w_y2
        clear s_g_y2
        clear s_x0_y2
        clear s_x2_y2
        have KBt := KB0
        have p0 := KX.out.cell 0
        have p1 := KX.out.cell 1
        go_wp2_with fail
        refine (markNet_ret _ nd0 _ _ _ _ _ _ ox0 (by omega) (by omega)).mono ?_
        rintro e w13 ⟨kkx0, rfl, klx0, krx0, u⟩
        clear p0 p1
        clear KBt
        replace bb := below_blkC bb bb.size u ox0 (Nat.le_refl _)
        replace ow := OwnI.sep ow u s_w_x0
        replace ox2 := OwnI.sep ox2 u s_x0_x2.symm
        replace og := OwnI.sep og u s_x0_g.symm
        clear g0
        have g0 := k0.below bb
        clear g2
        have g2 := k2.below bb
        clear KB
        have KB := Lib.hid (KB0.out.below bb hlt0)
        clear KX
        clear u
        clear ox0
        clear s_x0_x2
        clear s_x0_g
        clear s_w_x0
        have KBt := KB0
        go_wp2_with fail
        refine (markInt64S_ret _ _ _ _ _ _ _ _ ox2 (by omega) (by omega)).mono ?_
        rintro e w14 ⟨kkx2, rfl, HKx2, klx2, krx2, om, u⟩
        clear KBt
        replace bb := below_blkC bb bb.size u ox2 (Nat.le_refl _)
        replace ow := OwnI.sep ow u s_w_x2
        replace og := OwnI.sep og u s_x2_g.symm
        clear g0
        have g0 := k0.below bb
        clear g2
        have g2 := k2.below bb
        clear KB
        have KB := Lib.hid (KB0.out.below bb hlt0)
        clear ox2 u
        have ox2 := om
        clear om
        clear ox2
        clear s_x2_g
        clear s_w_x2
        go_wp2_with fail
        refine (eqInt64S_same _ _ _ _ _ _ _ _ og.ints ow.ints og.le).mono ?_
        rintro e w15 ⟨rfl, b⟩
        replace ow := OwnI.below ow b
        replace og := OwnI.below og b
        replace g0 := g0.below b
        replace g2 := g2.below b
        replace KB := Lib.hid (KB.out.ext b)
        replace bb := ext_trans bb b
        clear b
        have KBt := KB0
        go_wp2_with fail
        refine (markInt64S_ret _ _ _ _ _ _ _ _ og (by omega) (by omega)).mono ?_
        rintro e w16 ⟨kkg, rfl, HKg, klg, krg, om, u⟩
        clear KBt
        replace bb := below_blkC bb bb.size u og (Nat.le_refl _)
        replace ow := OwnI.sep ow u s_w_g
        clear g0
        have g0 := k0.below bb
        clear g2
        have g2 := k2.below bb
        clear KB
        have KB := Lib.hid (KB0.out.below bb hlt0)
        clear og u
        have og := om
        clear om
        go_wp2_with fail
        refine (pure_ret (heldInt64S_any _ _ _ _ _ og.ints (by omega) (by omega))).mono ?_
        rw [← HKg.out]
        rintro e w17 ⟨rfl, b⟩
        replace ow := OwnI.below ow b
        replace og := OwnI.below og b
        replace g0 := g0.below b
        replace g2 := g2.below b
        replace KB := Lib.hid (KB.out.ext b)
        replace bb := ext_trans bb b
        clear b
        have p0 := KB.out.cell 0
        have p1 := KB.out.cell 1
        go_wp2_with fail
        refine (toNet_any nd0 _ _ _ z0 _ g0 big0).mono ?_
        rintro e w18 ⟨Aq0, cq0, rfl, oq0, b⟩
        clear p0 p1
        have s_w_q0 := sepC ow oq0
        have s_g_q0 := sepC og oq0
        replace oq0 := OwnC.low oq0 bb.size
        replace ow := OwnI.below ow b
        replace og := OwnI.below og b
        replace g0 := g0.below b
        replace g2 := g2.below b
        replace KB := Lib.hid (KB.out.ext b)
        replace bb := ext_trans bb b
        clear b
        go_wp2_with fail
        refine (toInt64S_len _ _ _ z2 _ g2 big2).mono ?_
        rintro e w19 ⟨Aq2, cq2, rfl, oq2, b⟩
        have s_w_q2 := sepC ow oq2
        have s_g_q2 := sepC og oq2
        have s_q0_q2 := sepC oq0 oq2
        replace oq2 := OwnI.low oq2 bb.size
        replace ow := OwnI.below ow b
        replace og := OwnI.below og b
        replace oq0 := OwnC.below oq0 b
        replace g0 := g0.below b
        replace g2 := g2.below b
        replace KB := Lib.hid (KB.out.ext b)
        replace bb := ext_trans bb b
        clear b
        go_wp2_with fail
        refine (implFlowsShared_r nd0 Aq0 n0 cq0 z0 a1 Aq2 n2 cq2 z2 a3 _ (OwnA.arcs oq0) HM0.out oq2.ints big2).mono ?_
        rintro e w20 ⟨Av, nv, cv, rfl, ov, b⟩
        have lv : nv ≤ 1048576 := by rw [← ov.len]; exact (sharedV_len _ _ _ _ _)
        have s_w_v := sepC ow ov
        have s_g_v := sepC og ov
        have s_q0_v := sepC oq0 ov
        have s_q2_v := sepC oq2 ov
        replace ov := OwnI.low ov bb.size
        replace ow := OwnI.below ow b
        replace og := OwnI.below og b
        replace oq0 := OwnC.below oq0 b
        replace oq2 := OwnI.below oq2 b
        replace g0 := g0.below b
        replace g2 := g2.below b
        replace KB := Lib.hid (KB.out.ext b)
        replace bb := ext_trans bb b
        clear b
        go_wp2_with fail
        refine (eqInt64S_same _ _ _ _ _ _ _ _ ov.ints ow.ints ov.le).mono ?_
        rintro e w21 ⟨rfl, b⟩
        replace ow := OwnI.below ow b
        replace og := OwnI.below og b
        replace oq0 := OwnC.below oq0 b
        replace oq2 := OwnI.below oq2 b
        replace ov := OwnI.below ov b
        replace g0 := g0.below b
        replace g2 := g2.below b
        replace KB := Lib.hid (KB.out.ext b)
        replace bb := ext_trans bb b
        clear b
        go_wp2_with fail
        refine (pure_ret (heldInt64S_any _ _ _ _ _ og.ints (by omega) (by omega))).mono ?_
        rw [← HKg.out]
        rintro e w22 ⟨rfl, b⟩
        replace ow := OwnI.below ow b
        replace og := OwnI.below og b
        replace oq0 := OwnC.below oq0 b
        replace oq2 := OwnI.below oq2 b
        replace ov := OwnI.below ov b
        replace g0 := g0.below b
        replace g2 := g2.below b
        replace KB := Lib.hid (KB.out.ext b)
        replace bb := ext_trans bb b
        clear b
        go_wp2
        go_ret
        exact ⟨rfl, below_ext hW hW.size bb⟩
    · go_enter Try.func3, Try.ntmps3
      go_wp2_with fail
      generalize w.alloc (.cells #[.int .i64 nd0, .slice A0 n0 c0] 24) = w0 at *
      refine (szNet_no nd0 A0 n0 c0 _ _ (by omega) (by omega) (by omega) HM0.out).mono ?_
      rintro e w1 ⟨rfl, b⟩
      go_wp2_with fail
      go_ret
      exact ⟨rfl, below_ext hW hW.size b⟩
  · go_enter Try.func3, Try.ntmps3
    go_wp2
    go_ret
    exact ⟨rfl, hW⟩
end Go.Proofs.Ythhmgamcpjnjgaa
