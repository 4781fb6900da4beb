/- The walk of the law FnExactBestPairs. -/
import Derived.Test.YtmkgccbpppcmoaaBPairsTop
import Derived.Test.YtmkgccbpppcmoaaNetMark
import Derived.Test.YtmkgccbpppcmoaaMore
import Derived.Test.YtmkgccbpppcmoaaOpen
namespace Go.Proofs.Ytmkgccbpppcmoaa
open Go.RowKit

set_option maxRecDepth 100000 in
set_option maxHeartbeats 3200000 in
theorem walk_BestPairs (a0 : Int) (A1 : Option Addr) (n1 c1 : Nat) (z1 : List Int) (w : World) (wf0 : (Lit.int .i64 a0).wf = true) (h1 : IntsAt w A1 n1 z1) (_fit1 : FitI z1) (hm1 : n1 ≤ maxLen) :
    Calls Try.prog 3 #[.int .i64 a0, .slice A1 n1 c1] w fun e w' => e = .returned (.bool true) ∧ Below w.heap.size w w' := by
  have HM1 := Lib.hid hm1
  have bd0 := fit_bd wf0
  have bdl0 := bd0.1
  have bdr0 := bd0.2
  clear bd0
  have hW := Below.refl w.heap.size w
  have k1 := h1
  clear h1
  by_cases big1 : n1 ≤ 1048576
  · skip
    go_enter Try.func3, Try.ntmps3
    go_wp2_with fail
    have bb := Below.refl w.heap.size w
    have g1 := k1
    go_wp2_with fail
    refine (toInt64S_len _ _ _ z1 _ g1 big1).mono ?_
    rintro e w1 ⟨Ap1, cp1, rfl, op1, b⟩
    replace op1 := OwnI.low op1 bb.size
    replace g1 := g1.below b
    replace bb := ext_trans bb b
    clear b
    go_wp2_with fail
    refine (specBestPairs_r a0 Ap1 n1 cp1 z1 _ op1.ints big1).mono ?_
    rintro e w2 ⟨Aw0, nw0, cw0, Aw1, nw1, cw1, Aw2, nw2, cw2, rfl, ow0, ow1, ow2, s_w0_w1, s_w0_w2, s_w1_w2, b⟩
    have lw0 : nw0 ≤ 1048576 := by rw [← ow0.len]; exact (bpPV_len _ _)
    have lw1 : nw1 ≤ 1048576 := by rw [← ow1.len]; exact (bpUV_len _ _)
    have lw2 : nw2 ≤ 1048576 := by rw [← ow2.len]; exact (bpVV_len _ _)
    have s_p1_w0 := sepC op1 ow0
    have s_p1_w1 := sepC op1 ow1
    have s_p1_w2 := sepC op1 ow2
    replace ow0 := OwnI.low ow0 bb.size
    replace ow1 := OwnI.low ow1 bb.size
    replace ow2 := OwnI.low ow2 bb.size
    replace op1 := OwnI.below op1 b
    replace g1 := g1.below b
    replace bb := ext_trans bb b
    clear b
    clear op1
    clear s_p1_w2
    clear s_p1_w1
    clear s_p1_w0
    go_wp2_with fail
    refine (toInt64S_len _ _ _ z1 _ g1 big1).mono ?_
    rintro e w3 ⟨Ax1, cx1, rfl, ox1, b⟩
    have s_w0_x1 := sepC ow0 ox1
    have s_w1_x1 := sepC ow1 ox1
    have s_w2_x1 := sepC ow2 ox1
    replace ox1 := OwnI.low ox1 bb.size
    replace ow0 := OwnI.below ow0 b
    replace ow1 := OwnI.below ow1 b
    replace ow2 := OwnI.below ow2 b
    replace g1 := g1.below b
    replace bb := ext_trans bb b
    clear b
    go_wp2_with fail
    refine (implBestPairs_r a0 Ax1 n1 cx1 z1 _ ox1.ints big1).mono ?_
    rintro e w4 ⟨Ag0, ng0, cg0, Ag1, ng1, cg1, Ag2, ng2, cg2, rfl, og0, og1, og2, s_g0_g1, s_g0_g2, s_g1_g2, b⟩
    have lg0 : ng0 ≤ 1048576 := by rw [← og0.len]; exact (bpPV_len _ _)
    have lg1 : ng1 ≤ 1048576 := by rw [← og1.len]; exact (bpUV_len _ _)
    have lg2 : ng2 ≤ 1048576 := by rw [← og2.len]; exact (bpVV_len _ _)
    have s_w0_g0 := sepC ow0 og0
    have s_w1_g0 := sepC ow1 og0
    have s_w2_g0 := sepC ow2 og0
    have s_x1_g0 := sepC ox1 og0
    have s_w0_g1 := sepC ow0 og1
    have s_w1_g1 := sepC ow1 og1
    have s_w2_g1 := sepC ow2 og1
    have s_x1_g1 := sepC ox1 og1
    have s_w0_g2 := sepC ow0 og2
    have s_w1_g2 := sepC ow1 og2
    have s_w2_g2 := sepC ow2 og2
    have s_x1_g2 := sepC ox1 og2
    replace og0 := OwnI.low og0 bb.size
    replace og1 := OwnI.low og1 bb.size
    replace og2 := OwnI.low og2 bb.size
    replace ow0 := OwnI.below ow0 b
    replace ow1 := OwnI.below ow1 b
    replace ow2 := OwnI.below ow2 b
    replace ox1 := OwnI.below ox1 b
    replace g1 := g1.below b
    replace bb := ext_trans bb b
    clear b
    go_wp2_with fail
    refine (eqInt64S_same _ _ _ _ _ _ _ _ og0.ints ow0.ints og0.le).mono ?_
    rintro e w5 ⟨rfl, b⟩
    replace ow0 := OwnI.below ow0 b
    replace ow1 := OwnI.below ow1 b
    replace ow2 := OwnI.below ow2 b
    replace ox1 := OwnI.below ox1 b
    replace og0 := OwnI.below og0 b
    replace og1 := OwnI.below og1 b
    replace og2 := OwnI.below og2 b
    replace g1 := g1.below b
    replace bb := ext_trans bb b
    clear b
    go_wp2_with fail
    refine (eqInt64S_same _ _ _ _ _ _ _ _ og1.ints ow1.ints og1.le).mono ?_
    rintro e w6 ⟨rfl, b⟩
    replace ow0 := OwnI.below ow0 b
    replace ow1 := OwnI.below ow1 b
    replace ow2 := OwnI.below ow2 b
    replace ox1 := OwnI.below ox1 b
    replace og0 := OwnI.below og0 b
    replace og1 := OwnI.below og1 b
    replace og2 := OwnI.below og2 b
    replace g1 := g1.below b
    replace bb := ext_trans bb b
    clear b
    go_wp2_with fail
    refine (eqInt64S_same _ _ _ _ _ _ _ _ og2.ints ow2.ints og2.le).mono ?_
    rintro e w7 ⟨rfl, b⟩
    replace ow0 := OwnI.below ow0 b
    replace ow1 := OwnI.below ow1 b
    replace ow2 := OwnI.below ow2 b
    replace ox1 := OwnI.below ox1 b
    replace og0 := OwnI.below og0 b
    replace og1 := OwnI.below og1 b
    replace og2 := OwnI.below og2 b
    replace g1 := g1.below b
    replace bb := ext_trans bb b
    clear b
    go_wp2_with fail
    refine (toInt64S_len _ _ _ z1 _ g1 big1).mono ?_
    rintro e w8 ⟨Ay1, cy1, rfl, oy1, b⟩
    have s_w0_y1 := sepC ow0 oy1
    have s_w1_y1 := sepC ow1 oy1
    have s_w2_y1 := sepC ow2 oy1
    have s_x1_y1 := sepC ox1 oy1
    have s_g0_y1 := sepC og0 oy1
    have s_g1_y1 := sepC og1 oy1
    have s_g2_y1 := sepC og2 oy1
    replace oy1 := OwnI.low oy1 bb.size
    replace ow0 := OwnI.below ow0 b
    replace ow1 := OwnI.below ow1 b
    replace ow2 := OwnI.below ow2 b
    replace ox1 := OwnI.below ox1 b
    replace og0 := OwnI.below og0 b
    replace og1 := OwnI.below og1 b
    replace og2 := OwnI.below og2 b
    replace g1 := g1.below b
    replace bb := ext_trans bb b
    clear b
    go_wp2_with fail
    refine (eqInt64S_same _ _ _ _ _ _ _ _ ox1.ints oy1.ints ox1.le).mono ?_
    rintro e w9 ⟨rfl, b⟩
    replace ow0 := OwnI.below ow0 b
    replace ow1 := OwnI.below ow1 b
    replace ow2 := OwnI.below ow2 b
    replace ox1 := OwnI.below ox1 b
    replace og0 := OwnI.below og0 b
    replace og1 := OwnI.below og1 b
    replace og2 := OwnI.below og2 b
    replace oy1 := OwnI.below oy1 b
    replace g1 := g1.below b
    replace bb := ext_trans bb b
    clear b
    clear oy1
    clear s_w2_y1
    clear s_g2_y1
    clear s_g0_y1
    clear s_w0_y1
    clear s_g1_y1
    clear s_w1_y1
    clear s_x1_y1
    go_wp2_with fail
    refine (markInt64S_ret _ _ _ _ _ _ _ _ ox1 (by omega) (by omega)).mono ?_
    rintro e w10 ⟨kkx1, rfl, HKx1, klx1, krx1, om, u⟩
    replace bb := below_blkC bb bb.size u ox1 (Nat.le_refl _)
    replace ow0 := OwnI.sep ow0 u s_w0_x1
    replace ow1 := OwnI.sep ow1 u s_w1_x1
    replace ow2 := OwnI.sep ow2 u s_w2_x1
    replace og0 := OwnI.sep og0 u s_x1_g0.symm
    replace og1 := OwnI.sep og1 u s_x1_g1.symm
    replace og2 := OwnI.sep og2 u s_x1_g2.symm
    clear g1
    have g1 := k1.below bb
    clear ox1 u
    have ox1 := om
    clear om
    clear ox1
    clear s_w2_x1
    clear s_x1_g1
    clear s_w0_x1
    clear s_x1_g2
    clear s_w1_x1
    clear s_x1_g0
    go_wp2_with fail
    refine (eqInt64S_same _ _ _ _ _ _ _ _ og0.ints ow0.ints og0.le).mono ?_
    rintro e w11 ⟨rfl, b⟩
    replace ow0 := OwnI.below ow0 b
    replace ow1 := OwnI.below ow1 b
    replace ow2 := OwnI.below ow2 b
    replace og0 := OwnI.below og0 b
    replace og1 := OwnI.below og1 b
    replace og2 := OwnI.below og2 b
    replace g1 := g1.below b
    replace bb := ext_trans bb b
    clear b
    go_wp2_with fail
    refine (eqInt64S_same _ _ _ _ _ _ _ _ og1.ints ow1.ints og1.le).mono ?_
    rintro e w12 ⟨rfl, b⟩
    replace ow0 := OwnI.below ow0 b
    replace ow1 := OwnI.below ow1 b
    replace ow2 := OwnI.below ow2 b
    replace og0 := OwnI.below og0 b
    replace og1 := OwnI.below og1 b
    replace og2 := OwnI.below og2 b
    replace g1 := g1.below b
    replace bb := ext_trans bb b
    clear b
    go_wp2_with fail
    refine (eqInt64S_same _ _ _ _ _ _ _ _ og2.ints ow2.ints og2.le).mono ?_
    rintro e w13 ⟨rfl, b⟩
    replace ow0 := OwnI.below ow0 b
    replace ow1 := OwnI.below ow1 b
    replace ow2 := OwnI.below ow2 b
    replace og0 := OwnI.below og0 b
    replace og1 := OwnI.below og1 b
    replace og2 := OwnI.below og2 b
    replace g1 := g1.below b
    replace bb := ext_trans bb b
    clear b
    go_wp2_with fail
    refine (markInt64S_ret _ _ _ _ _ _ _ _ og0 (by omega) (by omega)).mono ?_
    rintro e w14 ⟨kkg0, rfl, HKg0, klg0, krg0, om, u⟩
    replace bb := below_blkC bb bb.size u og0 (Nat.le_refl _)
    replace ow0 := OwnI.sep ow0 u s_w0_g0
    replace ow1 := OwnI.sep ow1 u s_w1_g0
    replace ow2 := OwnI.sep ow2 u s_w2_g0
    replace og1 := OwnI.sep og1 u s_g0_g1.symm
    replace og2 := OwnI.sep og2 u s_g0_g2.symm
    clear g1
    have g1 := k1.below bb
    clear og0 u
    have og0 := om
    clear om
    go_wp2_with fail
    refine (markInt64S_ret _ _ _ _ _ _ _ _ og1 (by omega) (by omega)).mono ?_
    rintro e w15 ⟨kkg1, rfl, HKg1, klg1, krg1, om, u⟩
    replace bb := below_blkC bb bb.size u og1 (Nat.le_refl _)
    replace ow0 := OwnI.sep ow0 u s_w0_g1
    replace ow1 := OwnI.sep ow1 u s_w1_g1
    replace ow2 := OwnI.sep ow2 u s_w2_g1
    replace og0 := OwnI.sep og0 u s_g0_g1
    replace og2 := OwnI.sep og2 u s_g1_g2.symm
    clear g1
    have g1 := k1.below bb
    clear og1 u
    have og1 := om
    clear om
    go_wp2_with fail
    refine (markInt64S_ret _ _ _ _ _ _ _ _ og2 (by omega) (by omega)).mono ?_
    rintro e w16 ⟨kkg2, rfl, HKg2, klg2, krg2, om, u⟩
    replace bb := below_blkC bb bb.size u og2 (Nat.le_refl _)
    replace ow0 := OwnI.sep ow0 u s_w0_g2
    replace ow1 := OwnI.sep ow1 u s_w1_g2
    replace ow2 := OwnI.sep ow2 u s_w2_g2
    replace og0 := OwnI.sep og0 u s_g0_g2
    replace og1 := OwnI.sep og1 u s_g1_g2
    clear g1
    have g1 := k1.below bb
    clear og2 u
    have og2 := om
    clear om
    go_wp2_with fail
    refine (pure_ret (heldInt64S_any _ _ _ _ _ og0.ints (by omega) (by omega))).mono ?_
    rw [← HKg0.out]
    rintro e w17 ⟨rfl, b⟩
    replace ow0 := OwnI.below ow0 b
    replace ow1 := OwnI.below ow1 b
    replace ow2 := OwnI.below ow2 b
    replace og0 := OwnI.below og0 b
    replace og1 := OwnI.below og1 b
    replace og2 := OwnI.below og2 b
    replace g1 := g1.below b
    replace bb := ext_trans bb b
    clear b
    go_wp2_with fail
    refine (pure_ret (heldInt64S_any _ _ _ _ _ og1.ints (by omega) (by omega))).mono ?_
    rw [← HKg1.out]
    rintro e w18 ⟨rfl, b⟩
    replace ow0 := OwnI.below ow0 b
    replace ow1 := OwnI.below ow1 b
    replace ow2 := OwnI.below ow2 b
    replace og0 := OwnI.below og0 b
    replace og1 := OwnI.below og1 b
    replace og2 := OwnI.below og2 b
    replace g1 := g1.below b
    replace bb := ext_trans bb b
    clear b
    go_wp2_with fail
    refine (pure_ret (heldInt64S_any _ _ _ _ _ og2.ints (by omega) (by omega))).mono ?_
    rw [← HKg2.out]
    rintro e w19 ⟨rfl, b⟩
    replace ow0 := OwnI.below ow0 b
    replace ow1 := OwnI.below ow1 b
    replace ow2 := OwnI.below ow2 b
    replace og0 := OwnI.below og0 b
    replace og1 := OwnI.below og1 b
    replace og2 := OwnI.below og2 b
    replace g1 := g1.below b
    replace bb := ext_trans bb b
    clear b
    go_wp2_with fail
    refine (toInt64S_len _ _ _ z1 _ g1 big1).mono ?_
    rintro e w20 ⟨Aq1, cq1, rfl, oq1, b⟩
    have s_w0_q1 := sepC ow0 oq1
    have s_w1_q1 := sepC ow1 oq1
    have s_w2_q1 := sepC ow2 oq1
    have s_g0_q1 := sepC og0 oq1
    have s_g1_q1 := sepC og1 oq1
    have s_g2_q1 := sepC og2 oq1
    replace oq1 := OwnI.low oq1 bb.size
    replace ow0 := OwnI.below ow0 b
    replace ow1 := OwnI.below ow1 b
    replace ow2 := OwnI.below ow2 b
    replace og0 := OwnI.below og0 b
    replace og1 := OwnI.below og1 b
    replace og2 := OwnI.below og2 b
    replace g1 := g1.below b
    replace bb := ext_trans bb b
    clear b
    go_wp2_with fail
    refine (implBestPairs_r a0 Aq1 n1 cq1 z1 _ oq1.ints big1).mono ?_
    rintro e w21 ⟨Av0, nv0, cv0, Av1, nv1, cv1, Av2, nv2, cv2, rfl, ov0, ov1, ov2, s_v0_v1, s_v0_v2, s_v1_v2, b⟩
    have lv0 : nv0 ≤ 1048576 := by rw [← ov0.len]; exact (bpPV_len _ _)
    have lv1 : nv1 ≤ 1048576 := by rw [← ov1.len]; exact (bpUV_len _ _)
    have lv2 : nv2 ≤ 1048576 := by rw [← ov2.len]; exact (bpVV_len _ _)
    have s_w0_v0 := sepC ow0 ov0
    have s_w1_v0 := sepC ow1 ov0
    have s_w2_v0 := sepC ow2 ov0
    have s_g0_v0 := sepC og0 ov0
    have s_g1_v0 := sepC og1 ov0
    have s_g2_v0 := sepC og2 ov0
    have s_q1_v0 := sepC oq1 ov0
    have s_w0_v1 := sepC ow0 ov1
    have s_w1_v1 := sepC ow1 ov1
    have s_w2_v1 := sepC ow2 ov1
    have s_g0_v1 := sepC og0 ov1
    have s_g1_v1 := sepC og1 ov1
    have s_g2_v1 := sepC og2 ov1
    have s_q1_v1 := sepC oq1 ov1
    have s_w0_v2 := sepC ow0 ov2
    have s_w1_v2 := sepC ow1 ov2
    have s_w2_v2 := sepC ow2 ov2
    have s_g0_v2 := sepC og0 ov2
    have s_g1_v2 := sepC og1 ov2
    have s_g2_v2 := sepC og2 ov2
    have s_q1_v2 := sepC oq1 ov2
    replace ov0 := OwnI.low ov0 bb.size
    replace ov1 := OwnI.low ov1 bb.size
    replace ov2 := OwnI.low ov2 bb.size
    replace ow0 := OwnI.below ow0 b
    replace ow1 := OwnI.below ow1 b
    replace ow2 := OwnI.below ow2 b
    replace og0 := OwnI.below og0 b
    replace og1 := OwnI.below og1 b
    replace og2 := OwnI.below og2 b
    replace oq1 := OwnI.below oq1 b
    replace g1 := g1.below b
    replace bb := ext_trans bb b
    clear b
    go_wp2_with fail
    refine (eqInt64S_same _ _ _ _ _ _ _ _ ov0.ints ow0.ints ov0.le).mono ?_
    rintro e w22 ⟨rfl, b⟩
    replace ow0 := OwnI.below ow0 b
    replace ow1 := OwnI.below ow1 b
    replace ow2 := OwnI.below ow2 b
    replace og0 := OwnI.below og0 b
    replace og1 := OwnI.below og1 b
    replace og2 := OwnI.below og2 b
    replace oq1 := OwnI.below oq1 b
    replace ov0 := OwnI.below ov0 b
    replace ov1 := OwnI.below ov1 b
    replace ov2 := OwnI.below ov2 b
    replace g1 := g1.below b
    replace bb := ext_trans bb b
    clear b
    go_wp2_with fail
    refine (eqInt64S_same _ _ _ _ _ _ _ _ ov1.ints ow1.ints ov1.le).mono ?_
    rintro e w23 ⟨rfl, b⟩
    replace ow0 := OwnI.below ow0 b
    replace ow1 := OwnI.below ow1 b
    replace ow2 := OwnI.below ow2 b
    replace og0 := OwnI.below og0 b
    replace og1 := OwnI.below og1 b
    replace og2 := OwnI.below og2 b
    replace oq1 := OwnI.below oq1 b
    replace ov0 := OwnI.below ov0 b
    replace ov1 := OwnI.below ov1 b
    replace ov2 := OwnI.below ov2 b
    replace g1 := g1.below b
    replace bb := ext_trans bb b
    clear b
    go_wp2_with fail
    refine (eqInt64S_same _ _ _ _ _ _ _ _ ov2.ints ow2.ints ov2.le).mono ?_
    rintro e w24 ⟨rfl, b⟩
    replace ow0 := OwnI.below ow0 b
    replace ow1 := OwnI.below ow1 b
    replace ow2 := OwnI.below ow2 b
    replace og0 := OwnI.below og0 b
    replace og1 := OwnI.below og1 b
    replace og2 := OwnI.below og2 b
    replace oq1 := OwnI.below oq1 b
    replace ov0 := OwnI.below ov0 b
    replace ov1 := OwnI.below ov1 b
    replace ov2 := OwnI.below ov2 b
    replace g1 := g1.below b
    replace bb := ext_trans bb b
    clear b
    go_wp2_with fail
    refine (pure_ret (heldInt64S_any _ _ _ _ _ og0.ints (by omega) (by omega))).mono ?_
    rw [← HKg0.out]
    rintro e w25 ⟨rfl, b⟩
    replace ow0 := OwnI.below ow0 b
    replace ow1 := OwnI.below ow1 b
    replace ow2 := OwnI.below ow2 b
    replace og0 := OwnI.below og0 b
    replace og1 := OwnI.below og1 b
    replace og2 := OwnI.below og2 b
    replace oq1 := OwnI.below oq1 b
    replace ov0 := OwnI.below ov0 b
    replace ov1 := OwnI.below ov1 b
    replace ov2 := OwnI.below ov2 b
    replace g1 := g1.below b
    replace bb := ext_trans bb b
    clear b
    go_wp2_with fail
    refine (pure_ret (heldInt64S_any _ _ _ _ _ og1.ints (by omega) (by omega))).mono ?_
    rw [← HKg1.out]
    rintro e w26 ⟨rfl, b⟩
    replace ow0 := OwnI.below ow0 b
    replace ow1 := OwnI.below ow1 b
    replace ow2 := OwnI.below ow2 b
    replace og0 := OwnI.below og0 b
    replace og1 := OwnI.below og1 b
    replace og2 := OwnI.below og2 b
    replace oq1 := OwnI.below oq1 b
    replace ov0 := OwnI.below ov0 b
    replace ov1 := OwnI.below ov1 b
    replace ov2 := OwnI.below ov2 b
    replace g1 := g1.below b
    replace bb := ext_trans bb b
    clear b
    go_wp2_with fail
    refine (pure_ret (heldInt64S_any _ _ _ _ _ og2.ints (by omega) (by omega))).mono ?_
    rw [← HKg2.out]
    rintro e w27 ⟨rfl, b⟩
    replace ow0 := OwnI.below ow0 b
    replace ow1 := OwnI.below ow1 b
    replace ow2 := OwnI.below ow2 b
    replace og0 := OwnI.below og0 b
    replace og1 := OwnI.below og1 b
    replace og2 := OwnI.below og2 b
    replace oq1 := OwnI.below oq1 b
    replace ov0 := OwnI.below ov0 b
    replace ov1 := OwnI.below ov1 b
    replace ov2 := OwnI.below ov2 b
    replace g1 := g1.below b
    replace bb := ext_trans bb b
    clear b
    go_wp2
    go_ret
    exact ⟨rfl, below_ext hW hW.size bb⟩
  · go_enter Try.func3, Try.ntmps3
    go_wp2
    go_ret
    exact ⟨rfl, hW⟩
end Go.Proofs.Ytmkgccbpppcmoaa
