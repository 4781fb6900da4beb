/- The walk of the law FnExactGreedyCover. -/
import Derived.Test.YtnliekbckdbaaaaGreedy
import Derived.Test.YtnliekbckdbaaaaOpen
namespace Go.Proofs.Ytnliekbckdbaaaa
open Go.RowKit

set_option maxRecDepth 100000 in
set_option maxHeartbeats 1600000 in
theorem walk_GreedyCover (a0 : Int) (A1 : Option Addr) (n1 c1 : Nat) (z1 : List Int) (w : World) (wf0 : (Lit.int .i64 a0).wf = true) (h1 : IntsAt w A1 n1 z1) (fit1 : FitI z1) (_hm1 : n1 ≤ maxLen) :
    Calls Try.prog 4 #[.int .i64 a0, .slice A1 n1 c1] w fun e w' => e = .returned (.bool true) ∧ Below w.heap.size w w' := by
  by_cases big1 : n1 ≤ 1048576
  · skip
    have bd0 := fit_bd wf0
    have bdl0 := bd0.1
    have bdr0 := bd0.2
    clear bd0
    have bb := Below.refl w.heap.size w
    have g1 := h1
    go_enter Try.func4, Try.ntmps4
    go_wp2_with fail
    refine (toInt64S_len _ _ _ z1 _ g1 big1).mono ?_
    rintro e w1 ⟨Ap1, cp1, rfl, op1, b⟩
    replace op1 := op1.low bb.size
    replace g1 := g1.below b
    replace bb := ext_trans bb b
    clear b
    go_wp2_with fail
    refine (specGreedyCover_r a0 Ap1 n1 cp1 z1 _ op1.ints big1).mono ?_
    rintro e w2 ⟨Aw, nw, cw, rfl, ow, b⟩
    have lw : nw ≤ 1048576 := by rw [← ow.len]; exact (greedyV_len _ _)
    have s_p1_w := sep_new op1 ow
    replace ow := ow.low bb.size
    replace op1 := op1.below b
    replace g1 := g1.below b
    replace bb := ext_trans bb b
    clear b
    clear op1
    clear s_p1_w
    go_wp2_with fail
    refine (toInt64S_len _ _ _ z1 _ g1 big1).mono ?_
    rintro e w3 ⟨Ax1, cx1, rfl, ox1, b⟩
    have s_w_x1 := sep_new ow ox1
    replace ox1 := ox1.low bb.size
    replace ow := ow.below b
    replace g1 := g1.below b
    replace bb := ext_trans bb b
    clear b
    go_wp2_with fail
    refine (implGreedyCover_r a0 Ax1 n1 cx1 z1 _ ox1.ints big1).mono ?_
    rintro e w4 ⟨Ag, ng, cg, rfl, og, b⟩
    have lg : ng ≤ 1048576 := by rw [← og.len]; exact (greedyV_len _ _)
    have s_w_g := sep_new ow og
    have s_x1_g := sep_new ox1 og
    replace og := og.low bb.size
    replace ow := ow.below b
    replace ox1 := ox1.below b
    replace g1 := g1.below b
    replace bb := ext_trans bb b
    clear b
    go_wp2_with fail
    refine (eqInt64S_same _ _ _ _ _ _ _ _ og.ints ow.ints og.le).mono ?_
    rintro e w5 ⟨rfl, b⟩
    replace ow := ow.below b
    replace ox1 := ox1.below b
    replace og := og.below b
    replace g1 := g1.below b
    replace bb := ext_trans bb b
    clear b
    go_wp2_with fail
    refine (toInt64S_len _ _ _ z1 _ g1 big1).mono ?_
    rintro e w6 ⟨Ay1, cy1, rfl, oy1, b⟩
    have s_w_y1 := sep_new ow oy1
    have s_x1_y1 := sep_new ox1 oy1
    have s_g_y1 := sep_new og oy1
    replace oy1 := oy1.low bb.size
    replace ow := ow.below b
    replace ox1 := ox1.below b
    replace og := og.below b
    replace g1 := g1.below b
    replace bb := ext_trans bb b
    clear b
    go_wp2_with fail
    refine (eqInt64S_same _ _ _ _ _ _ _ _ ox1.ints oy1.ints ox1.le).mono ?_
    rintro e w7 ⟨rfl, b⟩
    replace ow := ow.below b
    replace ox1 := ox1.below b
    replace og := og.below b
    replace oy1 := oy1.below b
    replace g1 := g1.below b
    replace bb := ext_trans bb b
    clear b
    clear oy1
    clear s_g_y1
    clear s_x1_y1
    clear s_w_y1
    go_wp2_with fail
    refine (markInt64S_ret _ _ _ _ _ _ _ _ ox1 (by omega) (by omega)).mono ?_
    rintro e w8 ⟨k1, rfl, -, kl1, kr1, ox1', u⟩
    replace bb := below_blk bb bb.size u ox1 (Nat.le_refl _)
    replace ow := ow.sep u s_w_x1
    replace og := og.sep u s_x1_g.symm
    clear ox1 u
    have ox1 := ox1'
    clear ox1'
    clear g1
    have g1 := h1.below bb
    clear ox1
    clear s_x1_g
    clear s_w_x1
    go_wp2_with fail
    refine (eqInt64S_same _ _ _ _ _ _ _ _ og.ints ow.ints og.le).mono ?_
    rintro e w9 ⟨rfl, b⟩
    replace ow := ow.below b
    replace og := og.below b
    replace g1 := g1.below b
    replace bb := ext_trans bb b
    clear b
    go_wp2_with fail
    refine (markInt64S_ret _ _ _ _ _ _ _ _ og (by omega) (by omega)).mono ?_
    rintro e w10 ⟨m, rfl, HM, ml, mr, og', u⟩
    replace bb := below_blk bb bb.size u og (Nat.le_refl _)
    replace ow := ow.sep u s_w_g
    clear og u
    have og := og'
    clear og'
    clear g1
    have g1 := h1.below bb
    go_wp2_with fail
    refine (pure_ret (heldInt64S_any _ _ _ _ _ og.ints (by omega) (by omega))).mono ?_
    rw [← HM.out]
    rintro e w11 ⟨rfl, b⟩
    replace ow := ow.below b
    replace og := og.below b
    replace g1 := g1.below b
    replace bb := ext_trans bb b
    clear b
    go_wp2_with fail
    refine (toInt64S_len _ _ _ z1 _ g1 big1).mono ?_
    rintro e w12 ⟨Aq1, cq1, rfl, oq1, b⟩
    have s_w_q1 := sep_new ow oq1
    have s_g_q1 := sep_new og oq1
    replace oq1 := oq1.low bb.size
    replace ow := ow.below b
    replace og := og.below b
    replace g1 := g1.below b
    replace bb := ext_trans bb b
    clear b
    go_wp2_with fail
    refine (implGreedyCover_r a0 Aq1 n1 cq1 z1 _ oq1.ints big1).mono ?_
    rintro e w13 ⟨Av, nv, cv, rfl, ov, b⟩
    have lv : nv ≤ 1048576 := by rw [← ov.len]; exact (greedyV_len _ _)
    have s_w_v := sep_new ow ov
    have s_g_v := sep_new og ov
    have s_q1_v := sep_new oq1 ov
    replace ov := ov.low bb.size
    replace ow := ow.below b
    replace og := og.below b
    replace oq1 := oq1.below b
    replace g1 := g1.below b
    replace bb := ext_trans bb b
    clear b
    go_wp2_with fail
    refine (eqInt64S_same _ _ _ _ _ _ _ _ ov.ints ow.ints ov.le).mono ?_
    rintro e w14 ⟨rfl, b⟩
    replace ow := ow.below b
    replace og := og.below b
    replace oq1 := oq1.below b
    replace ov := ov.below b
    replace g1 := g1.below b
    replace bb := ext_trans bb b
    clear b
    go_wp2_with fail
    refine (pure_ret (heldInt64S_any _ _ _ _ _ og.ints (by omega) (by omega))).mono ?_
    rw [← HM.out]
    rintro e w15 ⟨rfl, b⟩
    replace ow := ow.below b
    replace og := og.below b
    replace oq1 := oq1.below b
    replace ov := ov.below b
    replace g1 := g1.below b
    replace bb := ext_trans bb b
    clear b
    go_wp2
    go_ret
    exact ⟨rfl, bb⟩
  · go_enter Try.func4, Try.ntmps4
    go_wp2
    go_ret
    exact ⟨rfl, Below.refl _ _⟩
end Go.Proofs.Ytnliekbckdbaaaa
