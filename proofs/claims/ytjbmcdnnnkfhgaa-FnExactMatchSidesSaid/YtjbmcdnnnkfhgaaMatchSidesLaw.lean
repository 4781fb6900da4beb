/- The walk of the law FnExactMatchSides. -/
import Derived.Test.YtjbmcdnnnkfhgaaMatchTop
import Derived.Test.YtjbmcdnnnkfhgaaMark
import Derived.Test.YtjbmcdnnnkfhgaaMore
import Derived.Test.YtjbmcdnnnkfhgaaOpen
namespace Go.Proofs.Ytjbmcdnnnkfhgaa
open Go.RowKit

set_option maxRecDepth 100000 in
set_option maxHeartbeats 1600000 in
theorem walk_MatchSides (a0 : Int) (a1 : Int) (A2 : Option Addr) (n2 c2 : Nat) (z2 : List Int) (w : World) (wf0 : (Lit.int .i64 a0).wf = true) (wf1 : (Lit.int .i64 a1).wf = true) (h2 : IntsAt w A2 n2 z2) (fit2 : FitI z2) (_hm2 : n2 ≤ maxLen) :
    Calls Try.prog 3 #[.int .i64 a0, .int .i64 a1, .slice A2 n2 c2] w fun e w' => e = .returned (.bool true) ∧ Below w.heap.size w w' := by
  by_cases big2 : n2 ≤ 1048576
  · skip
    have bd0 := fit_bd wf0
    have bdl0 := bd0.1
    have bdr0 := bd0.2
    clear bd0
    have bd1 := fit_bd wf1
    have bdl1 := bd1.1
    have bdr1 := bd1.2
    clear bd1
    have bb := Below.refl w.heap.size w
    have g2 := h2
    go_enter Try.func3, Try.ntmps3
    go_wp2_with fail
    refine (toInt64S_len _ _ _ z2 _ g2 big2).mono ?_
    rintro e w1 ⟨Ap2, cp2, rfl, op2, b⟩
    replace op2 := op2.low bb.size
    replace g2 := g2.below b
    replace bb := ext_trans bb b
    clear b
    go_wp2_with fail
    refine (specMatchSides_r a0 a1 Ap2 n2 cp2 z2 _ op2.ints big2).mono ?_
    rintro e w2 ⟨Aw, nw, cw, rfl, ow, b⟩
    have lw : nw ≤ 1048576 := by rw [← ow.len]; exact (matV_len _ _ _)
    have s_p2_w := sep_new op2 ow
    replace ow := ow.low bb.size
    replace op2 := op2.below b
    replace g2 := g2.below b
    replace bb := ext_trans bb b
    clear b
    clear op2
    clear s_p2_w
    go_wp2_with fail
    refine (toInt64S_len _ _ _ z2 _ g2 big2).mono ?_
    rintro e w3 ⟨Ax2, cx2, rfl, ox2, b⟩
    have s_w_x2 := sep_new ow ox2
    replace ox2 := ox2.low bb.size
    replace ow := ow.below b
    replace g2 := g2.below b
    replace bb := ext_trans bb b
    clear b
    go_wp2_with fail
    refine (implMatchSides_r a0 a1 Ax2 n2 cx2 z2 _ ox2.ints big2).mono ?_
    rintro e w4 ⟨Ag, ng, cg, rfl, og, b⟩
    have lg : ng ≤ 1048576 := by rw [← og.len]; exact (matV_len _ _ _)
    have s_w_g := sep_new ow og
    have s_x2_g := sep_new ox2 og
    replace og := og.low bb.size
    replace ow := ow.below b
    replace ox2 := ox2.below b
    replace g2 := g2.below b
    replace bb := ext_trans bb b
    clear b
    go_wp2_with fail
    refine (eqInt64S_same _ _ _ _ _ _ _ _ og.ints ow.ints og.le).mono ?_
    rintro e w5 ⟨rfl, b⟩
    replace ow := ow.below b
    replace ox2 := ox2.below b
    replace og := og.below b
    replace g2 := g2.below b
    replace bb := ext_trans bb b
    clear b
    go_wp2_with fail
    refine (toInt64S_len _ _ _ z2 _ g2 big2).mono ?_
    rintro e w6 ⟨Ay2, cy2, rfl, oy2, b⟩
    have s_w_y2 := sep_new ow oy2
    have s_x2_y2 := sep_new ox2 oy2
    have s_g_y2 := sep_new og oy2
    replace oy2 := oy2.low bb.size
    replace ow := ow.below b
    replace ox2 := ox2.below b
    replace og := og.below b
    replace g2 := g2.below b
    replace bb := ext_trans bb b
    clear b
    go_wp2_with fail
    refine (eqInt64S_same _ _ _ _ _ _ _ _ ox2.ints oy2.ints ox2.le).mono ?_
    rintro e w7 ⟨rfl, b⟩
    replace ow := ow.below b
    replace ox2 := ox2.below b
    replace og := og.below b
    replace oy2 := oy2.below b
    replace g2 := g2.below b
    replace bb := ext_trans bb b
    clear b
    clear oy2
    clear s_w_y2
    clear s_g_y2
    clear s_x2_y2
    go_wp2_with fail
    refine (markInt64S_ret _ _ _ _ _ _ _ _ ox2 (by omega) (by omega)).mono ?_
    rintro e w8 ⟨k1, rfl, -, kl1, kr1, ox2', u⟩
    replace bb := below_blk bb bb.size u ox2 (Nat.le_refl _)
    replace ow := ow.sep u s_w_x2
    replace og := og.sep u s_x2_g.symm
    clear ox2 u
    have ox2 := ox2'
    clear ox2'
    clear g2
    have g2 := h2.below bb
    clear ox2
    clear s_w_x2
    clear s_x2_g
    go_wp2_with fail
    refine (eqInt64S_same _ _ _ _ _ _ _ _ og.ints ow.ints og.le).mono ?_
    rintro e w9 ⟨rfl, b⟩
    replace ow := ow.below b
    replace og := og.below b
    replace g2 := g2.below b
    replace bb := ext_trans bb b
    clear b
    go_wp2_with fail
    refine (markInt64S_ret _ _ _ _ _ _ _ _ og (by omega) (by omega)).mono ?_
    rintro e w10 ⟨m, rfl, HM, ml, mr, og', u⟩
    replace bb := below_blk bb bb.size u og (Nat.le_refl _)
    replace ow := ow.sep u s_w_g
    clear og u
    have og := og'
    clear og'
    clear g2
    have g2 := h2.below bb
    go_wp2_with fail
    refine (pure_ret (heldInt64S_any _ _ _ _ _ og.ints (by omega) (by omega))).mono ?_
    rw [← HM.out]
    rintro e w11 ⟨rfl, b⟩
    replace ow := ow.below b
    replace og := og.below b
    replace g2 := g2.below b
    replace bb := ext_trans bb b
    clear b
    go_wp2_with fail
    refine (toInt64S_len _ _ _ z2 _ g2 big2).mono ?_
    rintro e w12 ⟨Aq2, cq2, rfl, oq2, b⟩
    have s_w_q2 := sep_new ow oq2
    have s_g_q2 := sep_new og oq2
    replace oq2 := oq2.low bb.size
    replace ow := ow.below b
    replace og := og.below b
    replace g2 := g2.below b
    replace bb := ext_trans bb b
    clear b
    go_wp2_with fail
    refine (implMatchSides_r a0 a1 Aq2 n2 cq2 z2 _ oq2.ints big2).mono ?_
    rintro e w13 ⟨Av, nv, cv, rfl, ov, b⟩
    have lv : nv ≤ 1048576 := by rw [← ov.len]; exact (matV_len _ _ _)
    have s_w_v := sep_new ow ov
    have s_g_v := sep_new og ov
    have s_q2_v := sep_new oq2 ov
    replace ov := ov.low bb.size
    replace ow := ow.below b
    replace og := og.below b
    replace oq2 := oq2.below b
    replace g2 := g2.below b
    replace bb := ext_trans bb b
    clear b
    go_wp2_with fail
    refine (eqInt64S_same _ _ _ _ _ _ _ _ ov.ints ow.ints ov.le).mono ?_
    rintro e w14 ⟨rfl, b⟩
    replace ow := ow.below b
    replace og := og.below b
    replace oq2 := oq2.below b
    replace ov := ov.below b
    replace g2 := g2.below b
    replace bb := ext_trans bb b
    clear b
    go_wp2_with fail
    refine (pure_ret (heldInt64S_any _ _ _ _ _ og.ints (by omega) (by omega))).mono ?_
    rw [← HM.out]
    rintro e w15 ⟨rfl, b⟩
    replace ow := ow.below b
    replace og := og.below b
    replace oq2 := oq2.below b
    replace ov := ov.below b
    replace g2 := g2.below b
    replace bb := ext_trans bb b
    clear b
    go_wp2
    go_ret
    exact ⟨rfl, bb⟩
  · go_enter Try.func3, Try.ntmps3
    go_wp2
    go_ret
    exact ⟨rfl, Below.refl _ _⟩
end Go.Proofs.Ytjbmcdnnnkfhgaa
