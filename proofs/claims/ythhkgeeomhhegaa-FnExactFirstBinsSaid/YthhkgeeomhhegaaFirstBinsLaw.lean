/- The walk of the law FnExactFirstBins. -/
import Derived.Test.YthhkgeeomhhegaaFirst
import Derived.Test.YthhkgeeomhhegaaMark
import Derived.Test.YthhkgeeomhhegaaMore
import Derived.Test.YthhkgeeomhhegaaOpen
namespace Go.Proofs.Ythhkgeeomhhegaa
open Go.RowKit

set_option maxRecDepth 100000 in
set_option maxHeartbeats 1600000 in
theorem walk_FirstBins (A0 : Option Addr) (n0 c0 : Nat) (z0 : List Int) (a1 : Int) (w : World) (h0 : IntsAt w A0 n0 z0) (fit0 : FitI z0) (_hm0 : n0 ≤ maxLen) (wf1 : (Lit.int .i64 a1).wf = true) :
    Calls Try.prog 6 #[.slice A0 n0 c0, .int .i64 a1] w fun e w' => e = .returned (.bool true) ∧ Below w.heap.size w w' := by
  by_cases big0 : n0 ≤ 1048576
  · skip
    have bd1 := fit_bd wf1
    have bdl1 := bd1.1
    have bdr1 := bd1.2
    clear bd1
    have bb := Below.refl w.heap.size w
    have g0 := h0
    go_enter Try.func6, Try.ntmps6
    go_wp2_with fail
    refine (toInt64S_len _ _ _ z0 _ g0 big0).mono ?_
    rintro e w1 ⟨Ap0, cp0, rfl, op0, b⟩
    replace op0 := op0.low bb.size
    replace g0 := g0.below b
    replace bb := ext_trans bb b
    clear b
    go_wp2_with fail
    refine (specFirstBins_r Ap0 n0 cp0 z0 a1 _ op0.ints big0).mono ?_
    rintro e w2 ⟨Aw, nw, cw, rfl, ow, b⟩
    have lw : nw ≤ 1048576 := by rw [← ow.len]; exact (firstLV_len _ _)
    have s_p0_w := sep_new op0 ow
    replace ow := ow.low bb.size
    replace op0 := op0.below b
    replace g0 := g0.below b
    replace bb := ext_trans bb b
    clear b
    clear op0
    clear s_p0_w
    go_wp2_with fail
    refine (toInt64S_len _ _ _ z0 _ g0 big0).mono ?_
    rintro e w3 ⟨Ax0, cx0, rfl, ox0, b⟩
    have s_w_x0 := sep_new ow ox0
    replace ox0 := ox0.low bb.size
    replace ow := ow.below b
    replace g0 := g0.below b
    replace bb := ext_trans bb b
    clear b
    go_wp2_with fail
    refine (implFirstBins_r Ax0 n0 cx0 z0 a1 _ ox0.ints big0).mono ?_
    rintro e w4 ⟨Ag, ng, cg, rfl, og, b⟩
    have lg : ng ≤ 1048576 := by rw [← og.len]; exact (firstLV_len _ _)
    have s_w_g := sep_new ow og
    have s_x0_g := sep_new ox0 og
    replace og := og.low bb.size
    replace ow := ow.below b
    replace ox0 := ox0.below b
    replace g0 := g0.below b
    replace bb := ext_trans bb b
    clear b
    go_wp2_with fail
    refine (eqInt64S_same _ _ _ _ _ _ _ _ og.ints ow.ints og.le).mono ?_
    rintro e w5 ⟨rfl, b⟩
    replace ow := ow.below b
    replace ox0 := ox0.below b
    replace og := og.below b
    replace g0 := g0.below b
    replace bb := ext_trans bb b
    clear b
    go_wp2_with fail
    refine (toInt64S_len _ _ _ z0 _ g0 big0).mono ?_
    rintro e w6 ⟨Ay0, cy0, rfl, oy0, b⟩
    have s_w_y0 := sep_new ow oy0
    have s_x0_y0 := sep_new ox0 oy0
    have s_g_y0 := sep_new og oy0
    replace oy0 := oy0.low bb.size
    replace ow := ow.below b
    replace ox0 := ox0.below b
    replace og := og.below b
    replace g0 := g0.below b
    replace bb := ext_trans bb b
    clear b
    go_wp2_with fail
    refine (eqInt64S_same _ _ _ _ _ _ _ _ ox0.ints oy0.ints ox0.le).mono ?_
    rintro e w7 ⟨rfl, b⟩
    replace ow := ow.below b
    replace ox0 := ox0.below b
    replace og := og.below b
    replace oy0 := oy0.below b
    replace g0 := g0.below b
    replace bb := ext_trans bb b
    clear b
    clear oy0
    clear s_w_y0
    clear s_g_y0
    clear s_x0_y0
    go_wp2_with fail
    refine (markInt64S_ret _ _ _ _ _ _ _ _ ox0 (by omega) (by omega)).mono ?_
    rintro e w8 ⟨k1, rfl, -, kl1, kr1, ox0', u⟩
    replace bb := below_blk bb bb.size u ox0 (Nat.le_refl _)
    replace ow := ow.sep u s_w_x0
    replace og := og.sep u s_x0_g.symm
    clear ox0 u
    have ox0 := ox0'
    clear ox0'
    clear g0
    have g0 := h0.below bb
    clear ox0
    clear s_w_x0
    clear s_x0_g
    go_wp2_with fail
    refine (eqInt64S_same _ _ _ _ _ _ _ _ og.ints ow.ints og.le).mono ?_
    rintro e w9 ⟨rfl, b⟩
    replace ow := ow.below b
    replace og := og.below b
    replace g0 := g0.below b
    replace bb := ext_trans bb b
    clear b
    go_wp2_with fail
    refine (markInt64S_ret _ _ _ _ _ _ _ _ og (by omega) (by omega)).mono ?_
    rintro e w10 ⟨m, rfl, HM, ml, mr, og', u⟩
    replace bb := below_blk bb bb.size u og (Nat.le_refl _)
    replace ow := ow.sep u s_w_g
    clear og u
    have og := og'
    clear og'
    clear g0
    have g0 := h0.below bb
    go_wp2_with fail
    refine (pure_ret (heldInt64S_any _ _ _ _ _ og.ints (by omega) (by omega))).mono ?_
    rw [← HM.out]
    rintro e w11 ⟨rfl, b⟩
    replace ow := ow.below b
    replace og := og.below b
    replace g0 := g0.below b
    replace bb := ext_trans bb b
    clear b
    go_wp2_with fail
    refine (toInt64S_len _ _ _ z0 _ g0 big0).mono ?_
    rintro e w12 ⟨Aq0, cq0, rfl, oq0, b⟩
    have s_w_q0 := sep_new ow oq0
    have s_g_q0 := sep_new og oq0
    replace oq0 := oq0.low bb.size
    replace ow := ow.below b
    replace og := og.below b
    replace g0 := g0.below b
    replace bb := ext_trans bb b
    clear b
    go_wp2_with fail
    refine (implFirstBins_r Aq0 n0 cq0 z0 a1 _ oq0.ints big0).mono ?_
    rintro e w13 ⟨Av, nv, cv, rfl, ov, b⟩
    have lv : nv ≤ 1048576 := by rw [← ov.len]; exact (firstLV_len _ _)
    have s_w_v := sep_new ow ov
    have s_g_v := sep_new og ov
    have s_q0_v := sep_new oq0 ov
    replace ov := ov.low bb.size
    replace ow := ow.below b
    replace og := og.below b
    replace oq0 := oq0.below b
    replace g0 := g0.below b
    replace bb := ext_trans bb b
    clear b
    go_wp2_with fail
    refine (eqInt64S_same _ _ _ _ _ _ _ _ ov.ints ow.ints ov.le).mono ?_
    rintro e w14 ⟨rfl, b⟩
    replace ow := ow.below b
    replace og := og.below b
    replace oq0 := oq0.below b
    replace ov := ov.below b
    replace g0 := g0.below b
    replace bb := ext_trans bb b
    clear b
    go_wp2_with fail
    refine (pure_ret (heldInt64S_any _ _ _ _ _ og.ints (by omega) (by omega))).mono ?_
    rw [← HM.out]
    rintro e w15 ⟨rfl, b⟩
    replace ow := ow.below b
    replace og := og.below b
    replace oq0 := oq0.below b
    replace ov := ov.below b
    replace g0 := g0.below b
    replace bb := ext_trans bb b
    clear b
    go_wp2
    go_ret
    exact ⟨rfl, bb⟩
  · go_enter Try.func6, Try.ntmps6
    go_wp2
    go_ret
    exact ⟨rfl, Below.refl _ _⟩
end Go.Proofs.Ythhkgeeomhhegaa
