/- The walk of the law FnExactCutTree. -/
import Derived.Test.YthhmgamcpjnjgaaTreeS
import Derived.Test.YthhmgamcpjnjgaaNetMark
import Derived.Test.YthhmgamcpjnjgaaOpenNet
namespace Go.Proofs.Ythhmgamcpjnjgaa
open Go.RowKit

set_option maxRecDepth 100000 in
set_option maxHeartbeats 3200000 in
theorem walk_CutTree (nd0 : Int) (A0 : Option Addr) (n0 c0 : Nat) (z0 : List ArcR) (w : World) (_wf0 : (Lit.int .i64 nd0).wf = true) (h0 : ArcsAt w A0 n0 z0) (_fit0 : FitA z0) (hm0 : n0 ≤ maxLen) :
    Calls Try.prog 4 #[.agg #[.int .i64 nd0, .slice A0 n0 c0]] w fun e w' => e = .returned (.bool true) ∧ Below w.heap.size w w' := by
  have HM0 := Lib.hid hm0
  have hW : Below w.heap.size w (w.alloc (.cells #[.int .i64 nd0, .slice A0 n0 c0] 24)) := (Below.refl _ _).alloc (Nat.le_refl _) _
  have KB0 := Lib.hid (Blk.new w 24 #[.int .i64 nd0, .slice A0 n0 c0])
  have hlt0 : w.heap.size < (w.alloc (.cells #[.int .i64 nd0, .slice A0 n0 c0] 24)).heap.size := by simp
  have k0 := h0.alloc (.cells #[.int .i64 nd0, .slice A0 n0 c0] 24)
  have KB := KB0
  clear h0
  by_cases big0 : n0 ≤ 1048576
  · skip
    go_enter Try.func4, Try.ntmps4
    go_wp2_with fail
    generalize w.alloc (.cells #[.int .i64 nd0, .slice A0 n0 c0] 24) = w0 at *
    have bb := Below.refl w0.heap.size w0
    have g0 := k0
    refine (szNet_yes nd0 A0 n0 c0 _ _ (by omega) (by omega)).mono ?_
    rintro e w1 ⟨rfl, b⟩
    replace g0 := g0.below b
    replace KB := Lib.hid (KB.out.ext b)
    replace bb := ext_trans bb b
    clear b
    have hpos : ¬ ((1048576 : Int) - n0 < 0) := by omega
    have p0 := KB.out.cell 0
    have p1 := KB.out.cell 1
    go_wp2_with fail
    refine (toNet_any nd0 _ _ _ z0 _ g0 big0).mono ?_
    rintro e w2 ⟨Ap0, cp0, rfl, op0, b⟩
    clear p0 p1
    replace op0 := OwnC.low op0 bb.size
    replace g0 := g0.below b
    replace KB := Lib.hid (KB.out.ext b)
    replace bb := ext_trans bb b
    clear b
    go_wp2_with fail
    refine (specCutTree_r nd0 Ap0 n0 cp0 z0 _ (OwnA.arcs op0) HM0.out).mono ?_
    rintro e w3 ⟨Aw0, nw0, cw0, Aw1, nw1, cw1, rfl, ow0, ow1, s_w0_w1, b⟩
    have lw0 : nw0 ≤ 1048576 := by rw [← ow0.len]; exact (treeV_len _ _).1
    have lw1 : nw1 ≤ 1048576 := by rw [← ow1.len]; exact (treeV_len _ _).2
    have s_p0_w0 := sepC op0 ow0
    have s_p0_w1 := sepC op0 ow1
    replace ow0 := OwnI.low ow0 bb.size
    replace ow1 := OwnI.low ow1 bb.size
    replace op0 := OwnC.below op0 b
    replace g0 := g0.below b
    replace KB := Lib.hid (KB.out.ext b)
    replace bb := ext_trans bb b
    clear b
    clear op0
    clear s_p0_w1
    clear s_p0_w0
    clear hpos
    have p0 := KB.out.cell 0
    have p1 := KB.out.cell 1
    go_wp2_with fail
    refine (toNet_any nd0 _ _ _ z0 _ g0 big0).mono ?_
    rintro e w4 ⟨Ax0, cx0, rfl, ox0, b⟩
    clear p0 p1
    have s_w0_x0 := sepC ow0 ox0
    have s_w1_x0 := sepC ow1 ox0
    replace ox0 := OwnC.low ox0 bb.size
    replace ow0 := OwnI.below ow0 b
    replace ow1 := OwnI.below ow1 b
    replace g0 := g0.below b
    replace KB := Lib.hid (KB.out.ext b)
    replace bb := ext_trans bb b
    clear b
    replace g0 := g0.alloc (.cells #[.int .i64 nd0, .slice Ax0 n0 cx0] 31)
    replace ow0 := OwnI.alloc ow0 (.cells #[.int .i64 nd0, .slice Ax0 n0 cx0] 31)
    replace ow1 := OwnI.alloc ow1 (.cells #[.int .i64 nd0, .slice Ax0 n0 cx0] 31)
    replace ox0 := OwnC.alloc ox0 (.cells #[.int .i64 nd0, .slice Ax0 n0 cx0] 31)
    replace KB := Lib.hid (KB.out.alloc (.cells #[.int .i64 nd0, .slice Ax0 n0 cx0] 31))
    have KX := Lib.hid (Blk.new w4 31 #[.int .i64 nd0, .slice Ax0 n0 cx0])
    replace bb := bb.alloc bb.size (.cells #[.int .i64 nd0, .slice Ax0 n0 cx0] 31)
    go_wp2_with fail
    generalize w4.alloc (.cells #[.int .i64 nd0, .slice Ax0 n0 cx0] 31) = w5 at *
    have p0 := KX.out.cell 0
    have p1 := KX.out.cell 1
    go_wp2_with fail
    refine (implCutTree_r nd0 Ax0 n0 cx0 z0 _ (OwnA.arcs ox0) HM0.out).mono ?_
    rintro e w6 ⟨Ag0, ng0, cg0, Ag1, ng1, cg1, rfl, og0, og1, s_g0_g1, b⟩
    have lg0 : ng0 ≤ 1048576 := by rw [← og0.len]; exact (treeV_len _ _).1
    have lg1 : ng1 ≤ 1048576 := by rw [← og1.len]; exact (treeV_len _ _).2
    clear p0 p1
    have s_w0_g0 := sepC ow0 og0
    have s_w1_g0 := sepC ow1 og0
    have s_x0_g0 := sepC ox0 og0
    have s_w0_g1 := sepC ow0 og1
    have s_w1_g1 := sepC ow1 og1
    have s_x0_g1 := sepC ox0 og1
    replace og0 := OwnI.low og0 bb.size
    replace og1 := OwnI.low og1 bb.size
    replace ow0 := OwnI.below ow0 b
    replace ow1 := OwnI.below ow1 b
    replace ox0 := OwnC.below ox0 b
    replace g0 := g0.below b
    replace KB := Lib.hid (KB.out.ext b)
    replace KX := Lib.hid (KX.out.ext b)
    replace bb := ext_trans bb b
    clear b
    go_wp2_with fail
    refine (eqInt64S_same _ _ _ _ _ _ _ _ og0.ints ow0.ints og0.le).mono ?_
    rintro e w7 ⟨rfl, b⟩
    replace ow0 := OwnI.below ow0 b
    replace ow1 := OwnI.below ow1 b
    replace ox0 := OwnC.below ox0 b
    replace og0 := OwnI.below og0 b
    replace og1 := OwnI.below og1 b
    replace g0 := g0.below b
    replace KB := Lib.hid (KB.out.ext b)
    replace KX := Lib.hid (KX.out.ext b)
    replace bb := ext_trans bb b
    clear b
    go_wp2_with fail
    refine (eqInt64S_same _ _ _ _ _ _ _ _ og1.ints ow1.ints og1.le).mono ?_
    rintro e w8 ⟨rfl, b⟩
    replace ow0 := OwnI.below ow0 b
    replace ow1 := OwnI.below ow1 b
    replace ox0 := OwnC.below ox0 b
    replace og0 := OwnI.below og0 b
    replace og1 := OwnI.below og1 b
    replace g0 := g0.below b
    replace KB := Lib.hid (KB.out.ext b)
    replace KX := Lib.hid (KX.out.ext b)
    replace bb := ext_trans bb b
    clear b
    have p0 := KB.out.cell 0
    have p1 := KB.out.cell 1
    have q0 := KX.out.cell 0
    have q1 := KX.out.cell 1
    go_wp2_with fail
    go_cut [56] (fun sx wx => sx = .bool false ∧ Below w8.heap.size w8 wx)
    case first =>
      go_region_with (first | (go_at_call 9; refine (toNet_any nd0 A0 n0 c0 z0 _ g0.drew big0).mono ?_; rintro e w7 ⟨A3, c3, rfl, o3, b⟩; have q0 := (KX.out.drew.ext b).cell 0; have q1 := (KX.out.drew.ext b).cell 1) | (go_at_call 13; refine (eqNet_same nd0 Ax0 A3 n0 cx0 n0 c3 z0 _ (OwnA.arcs (OwnC.below (OwnC.drew ox0) b)) o3.arcs HM0.out).mono ?_; rintro e w8 ⟨rfl, b8⟩))
      all_goals
        go_wp2_with fail
        go_meet
        exact ⟨rfl, ext_trans (ext_trans (Below.drew (Below.refl _ _)) b) b8⟩
    case rest =>
      obtain ⟨rfl, b⟩ := hcut
      clear q0 q1
      clear p0 p1
      replace ow0 := OwnI.below ow0 b
      replace ow1 := OwnI.below ow1 b
      replace ox0 := OwnC.below ox0 b
      replace og0 := OwnI.below og0 b
      replace og1 := OwnI.below og1 b
      replace g0 := g0.below b
      replace KB := Lib.hid (KB.out.ext b)
      replace KX := Lib.hid (KX.out.ext b)
      replace bb := ext_trans bb b
      clear b
      have KBt := KB0
      have p0 := KX.out.cell 0
      have p1 := KX.out.cell 1
      go_wp2_with fail
      refine (markNet_ret _ nd0 _ _ _ _ _ _ ox0 (by omega) (by omega)).mono ?_
      rintro e w10 ⟨kkx0, rfl, klx0, krx0, u⟩
      clear p0 p1
      clear KBt
      replace bb := below_blkC bb bb.size u ox0 (Nat.le_refl _)
      replace ow0 := OwnI.sep ow0 u s_w0_x0
      replace ow1 := OwnI.sep ow1 u s_w1_x0
      replace og0 := OwnI.sep og0 u s_x0_g0.symm
      replace og1 := OwnI.sep og1 u s_x0_g1.symm
      clear g0
      have g0 := k0.below bb
      clear KB
      have KB := Lib.hid (KB0.out.below bb hlt0)
      clear KX
      clear u
      clear ox0
      clear s_w0_x0
      clear s_x0_g1
      clear s_x0_g0
      clear s_w1_x0
      go_wp2_with fail
      refine (eqInt64S_same _ _ _ _ _ _ _ _ og0.ints ow0.ints og0.le).mono ?_
      rintro e w11 ⟨rfl, b⟩
      replace ow0 := OwnI.below ow0 b
      replace ow1 := OwnI.below ow1 b
      replace og0 := OwnI.below og0 b
      replace og1 := OwnI.below og1 b
      replace g0 := g0.below b
      replace KB := Lib.hid (KB.out.ext b)
      replace bb := ext_trans bb b
      clear b
      go_wp2_with fail
      refine (eqInt64S_same _ _ _ _ _ _ _ _ og1.ints ow1.ints og1.le).mono ?_
      rintro e w12 ⟨rfl, b⟩
      replace ow0 := OwnI.below ow0 b
      replace ow1 := OwnI.below ow1 b
      replace og0 := OwnI.below og0 b
      replace og1 := OwnI.below og1 b
      replace g0 := g0.below b
      replace KB := Lib.hid (KB.out.ext b)
      replace bb := ext_trans bb b
      clear b
      have KBt := KB0
      go_wp2_with fail
      refine (markInt64S_ret _ _ _ _ _ _ _ _ og0 (by omega) (by omega)).mono ?_
      rintro e w13 ⟨kkg0, rfl, HKg0, klg0, krg0, om, u⟩
      clear KBt
      replace bb := below_blkC bb bb.size u og0 (Nat.le_refl _)
      replace ow0 := OwnI.sep ow0 u s_w0_g0
      replace ow1 := OwnI.sep ow1 u s_w1_g0
      replace og1 := OwnI.sep og1 u s_g0_g1.symm
      clear g0
      have g0 := k0.below bb
      clear KB
      have KB := Lib.hid (KB0.out.below bb hlt0)
      clear og0 u
      have og0 := om
      clear om
      have KBt := KB0
      go_wp2_with fail
      refine (markInt64S_ret _ _ _ _ _ _ _ _ og1 (by omega) (by omega)).mono ?_
      rintro e w14 ⟨kkg1, rfl, HKg1, klg1, krg1, om, u⟩
      clear KBt
      replace bb := below_blkC bb bb.size u og1 (Nat.le_refl _)
      replace ow0 := OwnI.sep ow0 u s_w0_g1
      replace ow1 := OwnI.sep ow1 u s_w1_g1
      replace og0 := OwnI.sep og0 u s_g0_g1
      clear g0
      have g0 := k0.below bb
      clear KB
      have KB := Lib.hid (KB0.out.below bb hlt0)
      clear og1 u
      have og1 := om
      clear om
      go_wp2_with fail
      refine (pure_ret (heldInt64S_any _ _ _ _ _ og0.ints (by omega) (by omega))).mono ?_
      rw [← HKg0.out]
      rintro e w15 ⟨rfl, b⟩
      replace ow0 := OwnI.below ow0 b
      replace ow1 := OwnI.below ow1 b
      replace og0 := OwnI.below og0 b
      replace og1 := OwnI.below og1 b
      replace g0 := g0.below b
      replace KB := Lib.hid (KB.out.ext b)
      replace bb := ext_trans bb b
      clear b
      go_wp2_with fail
      refine (pure_ret (heldInt64S_any _ _ _ _ _ og1.ints (by omega) (by omega))).mono ?_
      rw [← HKg1.out]
      rintro e w16 ⟨rfl, b⟩
      replace ow0 := OwnI.below ow0 b
      replace ow1 := OwnI.below ow1 b
      replace og0 := OwnI.below og0 b
      replace og1 := OwnI.below og1 b
      replace g0 := g0.below b
      replace KB := Lib.hid (KB.out.ext b)
      replace bb := ext_trans bb b
      clear b
      have p0 := KB.out.cell 0
      have p1 := KB.out.cell 1
      go_wp2_with fail
      refine (toNet_any nd0 _ _ _ z0 _ g0 big0).mono ?_
      rintro e w17 ⟨Aq0, cq0, rfl, oq0, b⟩
      clear p0 p1
      have s_w0_q0 := sepC ow0 oq0
      have s_w1_q0 := sepC ow1 oq0
      have s_g0_q0 := sepC og0 oq0
      have s_g1_q0 := sepC og1 oq0
      replace oq0 := OwnC.low oq0 bb.size
      replace ow0 := OwnI.below ow0 b
      replace ow1 := OwnI.below ow1 b
      replace og0 := OwnI.below og0 b
      replace og1 := OwnI.below og1 b
      replace g0 := g0.below b
      replace KB := Lib.hid (KB.out.ext b)
      replace bb := ext_trans bb b
      clear b
      go_wp2_with fail
      refine (implCutTree_r nd0 Aq0 n0 cq0 z0 _ (OwnA.arcs oq0) HM0.out).mono ?_
      rintro e w18 ⟨Av0, nv0, cv0, Av1, nv1, cv1, rfl, ov0, ov1, s_v0_v1, b⟩
      have lv0 : nv0 ≤ 1048576 := by rw [← ov0.len]; exact (treeV_len _ _).1
      have lv1 : nv1 ≤ 1048576 := by rw [← ov1.len]; exact (treeV_len _ _).2
      have s_w0_v0 := sepC ow0 ov0
      have s_w1_v0 := sepC ow1 ov0
      have s_g0_v0 := sepC og0 ov0
      have s_g1_v0 := sepC og1 ov0
      have s_q0_v0 := sepC oq0 ov0
      have s_w0_v1 := sepC ow0 ov1
      have s_w1_v1 := sepC ow1 ov1
      have s_g0_v1 := sepC og0 ov1
      have s_g1_v1 := sepC og1 ov1
      have s_q0_v1 := sepC oq0 ov1
      replace ov0 := OwnI.low ov0 bb.size
      replace ov1 := OwnI.low ov1 bb.size
      replace ow0 := OwnI.below ow0 b
      replace ow1 := OwnI.below ow1 b
      replace og0 := OwnI.below og0 b
      replace og1 := OwnI.below og1 b
      replace oq0 := OwnC.below oq0 b
      replace g0 := g0.below b
      replace KB := Lib.hid (KB.out.ext b)
      replace bb := ext_trans bb b
      clear b
      go_wp2_with fail
      refine (eqInt64S_same _ _ _ _ _ _ _ _ ov0.ints ow0.ints ov0.le).mono ?_
      rintro e w19 ⟨rfl, b⟩
      replace ow0 := OwnI.below ow0 b
      replace ow1 := OwnI.below ow1 b
      replace og0 := OwnI.below og0 b
      replace og1 := OwnI.below og1 b
      replace oq0 := OwnC.below oq0 b
      replace ov0 := OwnI.below ov0 b
      replace ov1 := OwnI.below ov1 b
      replace g0 := g0.below b
      replace KB := Lib.hid (KB.out.ext b)
      replace bb := ext_trans bb b
      clear b
      go_wp2_with fail
      refine (eqInt64S_same _ _ _ _ _ _ _ _ ov1.ints ow1.ints ov1.le).mono ?_
      rintro e w20 ⟨rfl, b⟩
      replace ow0 := OwnI.below ow0 b
      replace ow1 := OwnI.below ow1 b
      replace og0 := OwnI.below og0 b
      replace og1 := OwnI.below og1 b
      replace oq0 := OwnC.below oq0 b
      replace ov0 := OwnI.below ov0 b
      replace ov1 := OwnI.below ov1 b
      replace g0 := g0.below b
      replace KB := Lib.hid (KB.out.ext b)
      replace bb := ext_trans bb b
      clear b
      go_wp2_with fail
      refine (pure_ret (heldInt64S_any _ _ _ _ _ og0.ints (by omega) (by omega))).mono ?_
      rw [← HKg0.out]
      rintro e w21 ⟨rfl, b⟩
      replace ow0 := OwnI.below ow0 b
      replace ow1 := OwnI.below ow1 b
      replace og0 := OwnI.below og0 b
      replace og1 := OwnI.below og1 b
      replace oq0 := OwnC.below oq0 b
      replace ov0 := OwnI.below ov0 b
      replace ov1 := OwnI.below ov1 b
      replace g0 := g0.below b
      replace KB := Lib.hid (KB.out.ext b)
      replace bb := ext_trans bb b
      clear b
      go_wp2_with fail
      refine (pure_ret (heldInt64S_any _ _ _ _ _ og1.ints (by omega) (by omega))).mono ?_
      rw [← HKg1.out]
      rintro e w22 ⟨rfl, b⟩
      replace ow0 := OwnI.below ow0 b
      replace ow1 := OwnI.below ow1 b
      replace og0 := OwnI.below og0 b
      replace og1 := OwnI.below og1 b
      replace oq0 := OwnC.below oq0 b
      replace ov0 := OwnI.below ov0 b
      replace ov1 := OwnI.below ov1 b
      replace g0 := g0.below b
      replace KB := Lib.hid (KB.out.ext b)
      replace bb := ext_trans bb b
      clear b
      go_wp2
      go_ret
      exact ⟨rfl, below_ext hW hW.size bb⟩
  · go_enter Try.func4, Try.ntmps4
    go_wp2_with fail
    generalize w.alloc (.cells #[.int .i64 nd0, .slice A0 n0 c0] 24) = w0 at *
    refine (szNet_no nd0 A0 n0 c0 _ _ (by omega) (by omega) (by omega) HM0.out).mono ?_
    rintro e w1 ⟨rfl, b⟩
    go_wp2_with fail
    go_ret
    exact ⟨rfl, below_ext hW hW.size b⟩
end Go.Proofs.Ythhmgamcpjnjgaa
