/- The walk of the law FnExactSwapTour. -/
import Derived.Test.YtnliekbckdbaaaaSwapO
import Derived.Test.YtnliekbckdbaaaaMore
import Derived.Test.YtnliekbckdbaaaaOpen
namespace Go.Proofs.Ytnliekbckdbaaaa
open Go.RowKit

set_option maxRecDepth 100000 in
set_option maxHeartbeats 1600000 in
theorem walk_SwapTour (A0 : Option Addr) (n0 c0 : Nat) (z0 : List Int) (A1 : Option Addr) (n1 c1 : Nat) (z1 : List Int) (w : World) (h0 : IntsAt w A0 n0 z0) (fit0 : FitI z0) (_hm0 : n0 ≤ maxLen) (h1 : IntsAt w A1 n1 z1) (fit1 : FitI z1) (_hm1 : n1 ≤ maxLen) :
    Calls Try.prog 7 #[.slice A0 n0 c0, .slice A1 n1 c1] w fun e w' => e = .returned (.bool true) ∧ Below w.heap.size w w' := by
  by_cases big0 : n0 ≤ 1048576
  · skip
    by_cases big1 : n1 ≤ 1048576
    · skip
      have bb := Below.refl w.heap.size w
      have g0 := h0
      have g1 := h1
      go_enter Try.func7, Try.ntmps7
      go_wp2_with fail
      refine (toInt64S_len _ _ _ z0 _ g0 big0).mono ?_
      rintro e w1 ⟨Ap0, cp0, rfl, op0, b⟩
      replace op0 := op0.low bb.size
      replace g0 := g0.below b
      replace g1 := g1.below b
      replace bb := ext_trans bb b
      clear b
      go_wp2_with fail
      refine (toInt64S_len _ _ _ z1 _ g1 big1).mono ?_
      rintro e w2 ⟨Ap1, cp1, rfl, op1, b⟩
      have s_p0_p1 := sep_new op0 op1
      replace op1 := op1.low bb.size
      replace op0 := op0.below b
      replace g0 := g0.below b
      replace g1 := g1.below b
      replace bb := ext_trans bb b
      clear b
      go_wp2_with fail
      refine (specSwapTour_r Ap0 n0 cp0 z0 Ap1 n1 cp1 z1 _ op0.ints big0 (own_cap2 op0) op1.ints big1 (own_cap2 op1)).mono ?_
      rintro e w3 ⟨Aw, nw, cw, rfl, ow, b⟩
      have lw : nw ≤ 1048576 := by rw [← ow.len]; exact (swapTV_len _ _)
      have s_p0_w := sep_new op0 ow
      have s_p1_w := sep_new op1 ow
      replace ow := ow.low bb.size
      replace op0 := op0.below b
      replace op1 := op1.below b
      replace g0 := g0.below b
      replace g1 := g1.below b
      replace bb := ext_trans bb b
      clear b
      clear op0
      clear s_p0_p1
      clear s_p0_w
      clear op1
      clear s_p1_w
      go_wp2_with fail
      refine (toInt64S_len _ _ _ z0 _ g0 big0).mono ?_
      rintro e w4 ⟨Ax0, cx0, rfl, ox0, b⟩
      have s_w_x0 := sep_new ow ox0
      replace ox0 := ox0.low bb.size
      replace ow := ow.below b
      replace g0 := g0.below b
      replace g1 := g1.below b
      replace bb := ext_trans bb b
      clear b
      go_wp2_with fail
      refine (toInt64S_len _ _ _ z1 _ g1 big1).mono ?_
      rintro e w5 ⟨Ax1, cx1, rfl, ox1, b⟩
      have s_w_x1 := sep_new ow ox1
      have s_x0_x1 := sep_new ox0 ox1
      replace ox1 := ox1.low bb.size
      replace ow := ow.below b
      replace ox0 := ox0.below b
      replace g0 := g0.below b
      replace g1 := g1.below b
      replace bb := ext_trans bb b
      clear b
      go_wp2_with fail
      refine (implSwapTour_r Ax0 n0 cx0 z0 Ax1 n1 cx1 z1 _ ox0.ints big0 (own_cap2 ox0) ox1.ints big1 (own_cap2 ox1)).mono ?_
      rintro e w6 ⟨Ag, ng, cg, rfl, og, b⟩
      have lg : ng ≤ 1048576 := by rw [← og.len]; exact (swapTV_len _ _)
      have s_w_g := sep_new ow og
      have s_x0_g := sep_new ox0 og
      have s_x1_g := sep_new ox1 og
      replace og := og.low bb.size
      replace ow := ow.below b
      replace ox0 := ox0.below b
      replace ox1 := ox1.below b
      replace g0 := g0.below b
      replace g1 := g1.below b
      replace bb := ext_trans bb b
      clear b
      go_wp2_with fail
      refine (eqInt64S_same _ _ _ _ _ _ _ _ og.ints ow.ints og.le).mono ?_
      rintro e w7 ⟨rfl, b⟩
      replace ow := ow.below b
      replace ox0 := ox0.below b
      replace ox1 := ox1.below b
      replace og := og.below b
      replace g0 := g0.below b
      replace g1 := g1.below b
      replace bb := ext_trans bb b
      clear b
      go_wp2_with fail
      refine (toInt64S_len _ _ _ z0 _ g0 big0).mono ?_
      rintro e w8 ⟨Ay0, cy0, rfl, oy0, b⟩
      have s_w_y0 := sep_new ow oy0
      have s_x0_y0 := sep_new ox0 oy0
      have s_x1_y0 := sep_new ox1 oy0
      have s_g_y0 := sep_new og oy0
      replace oy0 := oy0.low bb.size
      replace ow := ow.below b
      replace ox0 := ox0.below b
      replace ox1 := ox1.below b
      replace og := og.below b
      replace g0 := g0.below b
      replace g1 := g1.below b
      replace bb := ext_trans bb b
      clear b
      go_wp2_with fail
      refine (eqInt64S_same _ _ _ _ _ _ _ _ ox0.ints oy0.ints ox0.le).mono ?_
      rintro e w9 ⟨rfl, b⟩
      replace ow := ow.below b
      replace ox0 := ox0.below b
      replace ox1 := ox1.below b
      replace og := og.below b
      replace oy0 := oy0.below b
      replace g0 := g0.below b
      replace g1 := g1.below b
      replace bb := ext_trans bb b
      clear b
      clear oy0
      clear s_x1_y0
      clear s_g_y0
      clear s_x0_y0
      clear s_w_y0
      go_wp2_with fail
      refine (toInt64S_len _ _ _ z1 _ g1 big1).mono ?_
      rintro e w10 ⟨Ay1, cy1, rfl, oy1, b⟩
      have s_w_y1 := sep_new ow oy1
      have s_x0_y1 := sep_new ox0 oy1
      have s_x1_y1 := sep_new ox1 oy1
      have s_g_y1 := sep_new og oy1
      replace oy1 := oy1.low bb.size
      replace ow := ow.below b
      replace ox0 := ox0.below b
      replace ox1 := ox1.below b
      replace og := og.below b
      replace g0 := g0.below b
      replace g1 := g1.below b
      replace bb := ext_trans bb b
      clear b
      go_wp2_with fail
      refine (eqInt64S_same _ _ _ _ _ _ _ _ ox1.ints oy1.ints ox1.le).mono ?_
      rintro e w11 ⟨rfl, b⟩
      replace ow := ow.below b
      replace ox0 := ox0.below b
      replace ox1 := ox1.below b
      replace og := og.below b
      replace oy1 := oy1.below b
      replace g0 := g0.below b
      replace g1 := g1.below b
      replace bb := ext_trans bb b
      clear b
      clear oy1
      clear s_x1_y1
      clear s_g_y1
      clear s_x0_y1
      clear s_w_y1
      go_wp2_with fail
      refine (markInt64S_ret _ _ _ _ _ _ _ _ ox0 (by omega) (by omega)).mono ?_
      rintro e w12 ⟨k1, rfl, -, kl1, kr1, ox0', u⟩
      replace bb := below_blk bb bb.size u ox0 (Nat.le_refl _)
      replace ow := ow.sep u s_w_x0
      replace ox1 := ox1.sep u s_x0_x1.symm
      replace og := og.sep u s_x0_g.symm
      clear ox0 u
      have ox0 := ox0'
      clear ox0'
      clear g0
      have g0 := h0.below bb
      clear g1
      have g1 := h1.below bb
      go_wp2_with fail
      refine (markInt64S_ret _ _ _ _ _ _ _ _ ox1 (by omega) (by omega)).mono ?_
      rintro e w13 ⟨k2, rfl, -, kl2, kr2, ox1', u⟩
      replace bb := below_blk bb bb.size u ox1 (Nat.le_refl _)
      replace ow := ow.sep u s_w_x1
      replace ox0 := ox0.sep u s_x0_x1
      replace og := og.sep u s_x1_g.symm
      clear ox1 u
      have ox1 := ox1'
      clear ox1'
      clear g0
      have g0 := h0.below bb
      clear g1
      have g1 := h1.below bb
      clear ox0
      clear s_w_x0
      clear s_x0_g
      clear s_x0_x1
      clear ox1
      clear s_w_x1
      clear s_x1_g
      go_wp2_with fail
      refine (eqInt64S_same _ _ _ _ _ _ _ _ og.ints ow.ints og.le).mono ?_
      rintro e w14 ⟨rfl, b⟩
      replace ow := ow.below b
      replace og := og.below b
      replace g0 := g0.below b
      replace g1 := g1.below b
      replace bb := ext_trans bb b
      clear b
      go_wp2_with fail
      refine (markInt64S_ret _ _ _ _ _ _ _ _ og (by omega) (by omega)).mono ?_
      rintro e w15 ⟨m, rfl, HM, ml, mr, og', u⟩
      replace bb := below_blk bb bb.size u og (Nat.le_refl _)
      replace ow := ow.sep u s_w_g
      clear og u
      have og := og'
      clear og'
      clear g0
      have g0 := h0.below bb
      clear g1
      have g1 := h1.below bb
      go_wp2_with fail
      refine (pure_ret (heldInt64S_any _ _ _ _ _ og.ints (by omega) (by omega))).mono ?_
      rw [← HM.out]
      rintro e w16 ⟨rfl, b⟩
      replace ow := ow.below b
      replace og := og.below b
      replace g0 := g0.below b
      replace g1 := g1.below b
      replace bb := ext_trans bb b
      clear b
      go_wp2_with fail
      refine (toInt64S_len _ _ _ z0 _ g0 big0).mono ?_
      rintro e w17 ⟨Aq0, cq0, rfl, oq0, b⟩
      have s_w_q0 := sep_new ow oq0
      have s_g_q0 := sep_new og oq0
      replace oq0 := oq0.low bb.size
      replace ow := ow.below b
      replace og := og.below b
      replace g0 := g0.below b
      replace g1 := g1.below b
      replace bb := ext_trans bb b
      clear b
      go_wp2_with fail
      refine (toInt64S_len _ _ _ z1 _ g1 big1).mono ?_
      rintro e w18 ⟨Aq1, cq1, rfl, oq1, b⟩
      have s_w_q1 := sep_new ow oq1
      have s_g_q1 := sep_new og oq1
      have s_q0_q1 := sep_new oq0 oq1
      replace oq1 := oq1.low bb.size
      replace ow := ow.below b
      replace og := og.below b
      replace oq0 := oq0.below b
      replace g0 := g0.below b
      replace g1 := g1.below b
      replace bb := ext_trans bb b
      clear b
      go_wp2_with fail
      refine (implSwapTour_r Aq0 n0 cq0 z0 Aq1 n1 cq1 z1 _ oq0.ints big0 (own_cap2 oq0) oq1.ints big1 (own_cap2 oq1)).mono ?_
      rintro e w19 ⟨Av, nv, cv, rfl, ov, b⟩
      have lv : nv ≤ 1048576 := by rw [← ov.len]; exact (swapTV_len _ _)
      have s_w_v := sep_new ow ov
      have s_g_v := sep_new og ov
      have s_q0_v := sep_new oq0 ov
      have s_q1_v := sep_new oq1 ov
      replace ov := ov.low bb.size
      replace ow := ow.below b
      replace og := og.below b
      replace oq0 := oq0.below b
      replace oq1 := oq1.below b
      replace g0 := g0.below b
      replace g1 := g1.below b
      replace bb := ext_trans bb b
      clear b
      go_wp2_with fail
      refine (eqInt64S_same _ _ _ _ _ _ _ _ ov.ints ow.ints ov.le).mono ?_
      rintro e w20 ⟨rfl, b⟩
      replace ow := ow.below b
      replace og := og.below b
      replace oq0 := oq0.below b
      replace oq1 := oq1.below b
      replace ov := ov.below b
      replace g0 := g0.below b
      replace g1 := g1.below b
      replace bb := ext_trans bb b
      clear b
      go_wp2_with fail
      refine (pure_ret (heldInt64S_any _ _ _ _ _ og.ints (by omega) (by omega))).mono ?_
      rw [← HM.out]
      rintro e w21 ⟨rfl, b⟩
      replace ow := ow.below b
      replace og := og.below b
      replace oq0 := oq0.below b
      replace oq1 := oq1.below b
      replace ov := ov.below b
      replace g0 := g0.below b
      replace g1 := g1.below b
      replace bb := ext_trans bb b
      clear b
      go_wp2
      go_ret
      exact ⟨rfl, bb⟩
    · go_enter Try.func7, Try.ntmps7
      go_wp2
      go_ret
      exact ⟨rfl, Below.refl _ _⟩
  · go_enter Try.func7, Try.ntmps7
    go_wp2
    go_ret
    exact ⟨rfl, Below.refl _ _⟩
end Go.Proofs.Ytnliekbckdbaaaa
