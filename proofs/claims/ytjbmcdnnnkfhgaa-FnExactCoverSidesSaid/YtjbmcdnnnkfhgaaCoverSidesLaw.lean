/- The walk of the law FnExactCoverSides. -/
import Derived.Test.YtjbmcdnnnkfhgaaCovSS
import Derived.Test.YtjbmcdnnnkfhgaaNetMark
import Derived.Test.YtjbmcdnnnkfhgaaOpen
namespace Go.Proofs.Ytjbmcdnnnkfhgaa
open Go.RowKit

set_option maxRecDepth 100000 in
set_option maxHeartbeats 3200000 in
theorem walk_CoverSides (a0 : Int) (a1 : Int) (A2 : Option Addr) (n2 c2 : Nat) (z2 : List Int) (w : World) (wf0 : (Lit.int .i64 a0).wf = true) (wf1 : (Lit.int .i64 a1).wf = true) (h2 : IntsAt w A2 n2 z2) (_fit2 : FitI z2) (hm2 : n2 ≤ maxLen) :
    Calls Try.prog 4 #[.int .i64 a0, .int .i64 a1, .slice A2 n2 c2] w fun e w' => e = .returned (.bool true) ∧ Below w.heap.size w w' := by
  have HM2 := Lib.hid hm2
  have bd0 := fit_bd wf0
  have bdl0 := bd0.1
  have bdr0 := bd0.2
  clear bd0
  have bd1 := fit_bd wf1
  have bdl1 := bd1.1
  have bdr1 := bd1.2
  clear bd1
  have hW := Below.refl w.heap.size w
  have k2 := h2
  clear h2
  by_cases big2 : n2 ≤ 1048576
  · skip
    go_enter Try.func4, Try.ntmps4
    go_wp2_with fail
    have bb := Below.refl w.heap.size w
    have g2 := k2
    go_wp2_with fail
    refine (toInt64S_len _ _ _ z2 _ g2 big2).mono ?_
    rintro e w1 ⟨Ap2, cp2, rfl, op2, b⟩
    replace op2 := OwnI.low op2 bb.size
    replace g2 := g2.below b
    replace bb := ext_trans bb b
    clear b
    go_wp2_with fail
    refine (specCoverSides_r a0 a1 Ap2 n2 cp2 z2 _ op2.ints big2).mono ?_
    rintro e w2 ⟨Aw0, nw0, cw0, Aw1, nw1, cw1, rfl, ow0, ow1, s_w0_w1, b⟩
    have lw0 : nw0 ≤ 1048576 := by rw [← ow0.len]; exact (covV_len _ _ _).1
    have lw1 : nw1 ≤ 1048576 := by rw [← ow1.len]; exact (covV_len _ _ _).2
    have s_p2_w0 := sepC op2 ow0
    have s_p2_w1 := sepC op2 ow1
    replace ow0 := OwnI.low ow0 bb.size
    replace ow1 := OwnI.low ow1 bb.size
    replace op2 := OwnI.below op2 b
    replace g2 := g2.below b
    replace bb := ext_trans bb b
    clear b
    clear op2
    clear s_p2_w0
    clear s_p2_w1
    go_wp2_with fail
    refine (toInt64S_len _ _ _ z2 _ g2 big2).mono ?_
    rintro e w3 ⟨Ax2, cx2, rfl, ox2, b⟩
    have s_w0_x2 := sepC ow0 ox2
    have s_w1_x2 := sepC ow1 ox2
    replace ox2 := OwnI.low ox2 bb.size
    replace ow0 := OwnI.below ow0 b
    replace ow1 := OwnI.below ow1 b
    replace g2 := g2.below b
    replace bb := ext_trans bb b
    clear b
    go_wp2_with fail
    refine (implCoverSides_r a0 a1 Ax2 n2 cx2 z2 _ ox2.ints big2).mono ?_
    rintro e w4 ⟨Ag0, ng0, cg0, Ag1, ng1, cg1, rfl, og0, og1, s_g0_g1, b⟩
    have lg0 : ng0 ≤ 1048576 := by rw [← og0.len]; exact (covV_len _ _ _).1
    have lg1 : ng1 ≤ 1048576 := by rw [← og1.len]; exact (covV_len _ _ _).2
    have s_w0_g0 := sepC ow0 og0
    have s_w1_g0 := sepC ow1 og0
    have s_x2_g0 := sepC ox2 og0
    have s_w0_g1 := sepC ow0 og1
    have s_w1_g1 := sepC ow1 og1
    have s_x2_g1 := sepC ox2 og1
    replace og0 := OwnI.low og0 bb.size
    replace og1 := OwnI.low og1 bb.size
    replace ow0 := OwnI.below ow0 b
    replace ow1 := OwnI.below ow1 b
    replace ox2 := OwnI.below ox2 b
    replace g2 := g2.below b
    replace bb := ext_trans bb b
    clear b
    go_wp2_with fail
    refine (eqInt64S_same _ _ _ _ _ _ _ _ og0.ints ow0.ints og0.le).mono ?_
    rintro e w5 ⟨rfl, b⟩
    replace ow0 := OwnI.below ow0 b
    replace ow1 := OwnI.below ow1 b
    replace ox2 := OwnI.below ox2 b
    replace og0 := OwnI.below og0 b
    replace og1 := OwnI.below og1 b
    replace g2 := g2.below b
    replace bb := ext_trans bb b
    clear b
    go_wp2_with fail
    refine (eqInt64S_same _ _ _ _ _ _ _ _ og1.ints ow1.ints og1.le).mono ?_
    rintro e w6 ⟨rfl, b⟩
    replace ow0 := OwnI.below ow0 b
    replace ow1 := OwnI.below ow1 b
    replace ox2 := OwnI.below ox2 b
    replace og0 := OwnI.below og0 b
    replace og1 := OwnI.below og1 b
    replace g2 := g2.below b
    replace bb := ext_trans bb b
    clear b
    go_wp2_with fail
    refine (toInt64S_len _ _ _ z2 _ g2 big2).mono ?_
    rintro e w7 ⟨Ay2, cy2, rfl, oy2, b⟩
    have s_w0_y2 := sepC ow0 oy2
    have s_w1_y2 := sepC ow1 oy2
    have s_x2_y2 := sepC ox2 oy2
    have s_g0_y2 := sepC og0 oy2
    have s_g1_y2 := sepC og1 oy2
    replace oy2 := OwnI.low oy2 bb.size
    replace ow0 := OwnI.below ow0 b
    replace ow1 := OwnI.below ow1 b
    replace ox2 := OwnI.below ox2 b
    replace og0 := OwnI.below og0 b
    replace og1 := OwnI.below og1 b
    replace g2 := g2.below b
    replace bb := ext_trans bb b
    clear b
    go_wp2_with fail
    refine (eqInt64S_same _ _ _ _ _ _ _ _ ox2.ints oy2.ints ox2.le).mono ?_
    rintro e w8 ⟨rfl, b⟩
    replace ow0 := OwnI.below ow0 b
    replace ow1 := OwnI.below ow1 b
    replace ox2 := OwnI.below ox2 b
    replace og0 := OwnI.below og0 b
    replace og1 := OwnI.below og1 b
    replace oy2 := OwnI.below oy2 b
    replace g2 := g2.below b
    replace bb := ext_trans bb b
    clear b
    clear oy2
    clear s_w0_y2
    clear s_w1_y2
    clear s_x2_y2
    clear s_g1_y2
    clear s_g0_y2
    go_wp2_with fail
    refine (markInt64S_ret _ _ _ _ _ _ _ _ ox2 (by omega) (by omega)).mono ?_
    rintro e w9 ⟨kkx2, rfl, HKx2, klx2, krx2, om, u⟩
    replace bb := below_blkC bb bb.size u ox2 (Nat.le_refl _)
    replace ow0 := OwnI.sep ow0 u s_w0_x2
    replace ow1 := OwnI.sep ow1 u s_w1_x2
    replace og0 := OwnI.sep og0 u s_x2_g0.symm
    replace og1 := OwnI.sep og1 u s_x2_g1.symm
    clear g2
    have g2 := k2.below bb
    clear ox2 u
    have ox2 := om
    clear om
    clear ox2
    clear s_w0_x2
    clear s_x2_g1
    clear s_w1_x2
    clear s_x2_g0
    go_wp2_with fail
    refine (eqInt64S_same _ _ _ _ _ _ _ _ og0.ints ow0.ints og0.le).mono ?_
    rintro e w10 ⟨rfl, b⟩
    replace ow0 := OwnI.below ow0 b
    replace ow1 := OwnI.below ow1 b
    replace og0 := OwnI.below og0 b
    replace og1 := OwnI.below og1 b
    replace g2 := g2.below b
    replace bb := ext_trans bb b
    clear b
    go_wp2_with fail
    refine (eqInt64S_same _ _ _ _ _ _ _ _ og1.ints ow1.ints og1.le).mono ?_
    rintro e w11 ⟨rfl, b⟩
    replace ow0 := OwnI.below ow0 b
    replace ow1 := OwnI.below ow1 b
    replace og0 := OwnI.below og0 b
    replace og1 := OwnI.below og1 b
    replace g2 := g2.below b
    replace bb := ext_trans bb b
    clear b
    go_wp2_with fail
    refine (markInt64S_ret _ _ _ _ _ _ _ _ og0 (by omega) (by omega)).mono ?_
    rintro e w12 ⟨kkg0, rfl, HKg0, klg0, krg0, om, u⟩
    replace bb := below_blkC bb bb.size u og0 (Nat.le_refl _)
    replace ow0 := OwnI.sep ow0 u s_w0_g0
    replace ow1 := OwnI.sep ow1 u s_w1_g0
    replace og1 := OwnI.sep og1 u s_g0_g1.symm
    clear g2
    have g2 := k2.below bb
    clear og0 u
    have og0 := om
    clear om
    go_wp2_with fail
    refine (markInt64S_ret _ _ _ _ _ _ _ _ og1 (by omega) (by omega)).mono ?_
    rintro e w13 ⟨kkg1, rfl, HKg1, klg1, krg1, om, u⟩
    replace bb := below_blkC bb bb.size u og1 (Nat.le_refl _)
    replace ow0 := OwnI.sep ow0 u s_w0_g1
    replace ow1 := OwnI.sep ow1 u s_w1_g1
    replace og0 := OwnI.sep og0 u s_g0_g1
    clear g2
    have g2 := k2.below bb
    clear og1 u
    have og1 := om
    clear om
    go_wp2_with fail
    refine (pure_ret (heldInt64S_any _ _ _ _ _ og0.ints (by omega) (by omega))).mono ?_
    rw [← HKg0.out]
    rintro e w14 ⟨rfl, b⟩
    replace ow0 := OwnI.below ow0 b
    replace ow1 := OwnI.below ow1 b
    replace og0 := OwnI.below og0 b
    replace og1 := OwnI.below og1 b
    replace g2 := g2.below b
    replace bb := ext_trans bb b
    clear b
    go_wp2_with fail
    refine (pure_ret (heldInt64S_any _ _ _ _ _ og1.ints (by omega) (by omega))).mono ?_
    rw [← HKg1.out]
    rintro e w15 ⟨rfl, b⟩
    replace ow0 := OwnI.below ow0 b
    replace ow1 := OwnI.below ow1 b
    replace og0 := OwnI.below og0 b
    replace og1 := OwnI.below og1 b
    replace g2 := g2.below b
    replace bb := ext_trans bb b
    clear b
    go_wp2_with fail
    refine (toInt64S_len _ _ _ z2 _ g2 big2).mono ?_
    rintro e w16 ⟨Aq2, cq2, rfl, oq2, b⟩
    have s_w0_q2 := sepC ow0 oq2
    have s_w1_q2 := sepC ow1 oq2
    have s_g0_q2 := sepC og0 oq2
    have s_g1_q2 := sepC og1 oq2
    replace oq2 := OwnI.low oq2 bb.size
    replace ow0 := OwnI.below ow0 b
    replace ow1 := OwnI.below ow1 b
    replace og0 := OwnI.below og0 b
    replace og1 := OwnI.below og1 b
    replace g2 := g2.below b
    replace bb := ext_trans bb b
    clear b
    go_wp2_with fail
    refine (implCoverSides_r a0 a1 Aq2 n2 cq2 z2 _ oq2.ints big2).mono ?_
    rintro e w17 ⟨Av0, nv0, cv0, Av1, nv1, cv1, rfl, ov0, ov1, s_v0_v1, b⟩
    have lv0 : nv0 ≤ 1048576 := by rw [← ov0.len]; exact (covV_len _ _ _).1
    have lv1 : nv1 ≤ 1048576 := by rw [← ov1.len]; exact (covV_len _ _ _).2
    have s_w0_v0 := sepC ow0 ov0
    have s_w1_v0 := sepC ow1 ov0
    have s_g0_v0 := sepC og0 ov0
    have s_g1_v0 := sepC og1 ov0
    have s_q2_v0 := sepC oq2 ov0
    have s_w0_v1 := sepC ow0 ov1
    have s_w1_v1 := sepC ow1 ov1
    have s_g0_v1 := sepC og0 ov1
    have s_g1_v1 := sepC og1 ov1
    have s_q2_v1 := sepC oq2 ov1
    replace ov0 := OwnI.low ov0 bb.size
    replace ov1 := OwnI.low ov1 bb.size
    replace ow0 := OwnI.below ow0 b
    replace ow1 := OwnI.below ow1 b
    replace og0 := OwnI.below og0 b
    replace og1 := OwnI.below og1 b
    replace oq2 := OwnI.below oq2 b
    replace g2 := g2.below b
    replace bb := ext_trans bb b
    clear b
    go_wp2_with fail
    refine (eqInt64S_same _ _ _ _ _ _ _ _ ov0.ints ow0.ints ov0.le).mono ?_
    rintro e w18 ⟨rfl, b⟩
    replace ow0 := OwnI.below ow0 b
    replace ow1 := OwnI.below ow1 b
    replace og0 := OwnI.below og0 b
    replace og1 := OwnI.below og1 b
    replace oq2 := OwnI.below oq2 b
    replace ov0 := OwnI.below ov0 b
    replace ov1 := OwnI.below ov1 b
    replace g2 := g2.below b
    replace bb := ext_trans bb b
    clear b
    go_wp2_with fail
    refine (eqInt64S_same _ _ _ _ _ _ _ _ ov1.ints ow1.ints ov1.le).mono ?_
    rintro e w19 ⟨rfl, b⟩
    replace ow0 := OwnI.below ow0 b
    replace ow1 := OwnI.below ow1 b
    replace og0 := OwnI.below og0 b
    replace og1 := OwnI.below og1 b
    replace oq2 := OwnI.below oq2 b
    replace ov0 := OwnI.below ov0 b
    replace ov1 := OwnI.below ov1 b
    replace g2 := g2.below b
    replace bb := ext_trans bb b
    clear b
    go_wp2_with fail
    refine (pure_ret (heldInt64S_any _ _ _ _ _ og0.ints (by omega) (by omega))).mono ?_
    rw [← HKg0.out]
    rintro e w20 ⟨rfl, b⟩
    replace ow0 := OwnI.below ow0 b
    replace ow1 := OwnI.below ow1 b
    replace og0 := OwnI.below og0 b
    replace og1 := OwnI.below og1 b
    replace oq2 := OwnI.below oq2 b
    replace ov0 := OwnI.below ov0 b
    replace ov1 := OwnI.below ov1 b
    replace g2 := g2.below b
    replace bb := ext_trans bb b
    clear b
    go_wp2_with fail
    refine (pure_ret (heldInt64S_any _ _ _ _ _ og1.ints (by omega) (by omega))).mono ?_
    rw [← HKg1.out]
    rintro e w21 ⟨rfl, b⟩
    replace ow0 := OwnI.below ow0 b
    replace ow1 := OwnI.below ow1 b
    replace og0 := OwnI.below og0 b
    replace og1 := OwnI.below og1 b
    replace oq2 := OwnI.below oq2 b
    replace ov0 := OwnI.below ov0 b
    replace ov1 := OwnI.below ov1 b
    replace g2 := g2.below b
    replace bb := ext_trans bb b
    clear b
    go_wp2
    go_ret
    exact ⟨rfl, below_ext hW hW.size bb⟩
  · go_enter Try.func4, Try.ntmps4
    go_wp2
    go_ret
    exact ⟨rfl, hW⟩
end Go.Proofs.Ytjbmcdnnnkfhgaa
