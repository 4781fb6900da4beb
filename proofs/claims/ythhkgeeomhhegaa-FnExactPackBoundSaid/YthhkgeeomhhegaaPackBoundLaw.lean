/- The walk of the law FnExactPackBound. -/
import Derived.Test.YthhkgeeomhhegaaPackB
import Derived.Test.YthhkgeeomhhegaaMark
import Derived.Test.YthhkgeeomhhegaaMore
import Derived.Test.YthhkgeeomhhegaaOpen
namespace Go.Proofs.Ythhkgeeomhhegaa
open Go.RowKit

set_option maxRecDepth 100000 in
set_option maxHeartbeats 1600000 in
theorem walk_PackBound (A0 : Option Addr) (n0 c0 : Nat) (z0 : List Int) (A1 : Option Addr) (n1 c1 : Nat) (z1 : List Int) (a2 : Int) (w : World) (h0 : IntsAt w A0 n0 z0) (fit0 : FitI z0) (_hm0 : n0 ≤ maxLen) (h1 : IntsAt w A1 n1 z1) (fit1 : FitI z1) (_hm1 : n1 ≤ maxLen) (wf2 : (Lit.int .i64 a2).wf = true) :
    Calls Try.prog 5 #[.slice A0 n0 c0, .slice A1 n1 c1, .int .i64 a2] w fun e w' => e = .returned (.bool true) ∧ Below w.heap.size w w' := by
  by_cases big0 : n0 ≤ 1048576
  · skip
    by_cases big1 : n1 ≤ 1048576
    · skip
      have bd2 := fit_bd wf2
      have bdl2 := bd2.1
      have bdr2 := bd2.2
      clear bd2
      have bb := Below.refl w.heap.size w
      have g0 := h0
      have g1 := h1
      go_enter Try.func5, Try.ntmps5
      go_wp2_with fail
      refine (toInt64S_len _ _ _ z0 _ g0 big0).mono ?_
      rintro e w1 ⟨Ap0, cp0, rfl, op0, b⟩
      replace op0 := op0.low bb.size
      replace g0 := g0.below b
      replace g1 := g1.below b
      replace bb := ext_trans bb b
      clear b
      go_wp2_with fail
      refine (toInt64S_len _ _ _ z1 _ g1 big1).mono ?_
      rintro e w2 ⟨Ap1, cp1, rfl, op1, b⟩
      have s_p0_p1 := sep_new op0 op1
      replace op1 := op1.low bb.size
      replace op0 := op0.below b
      replace g0 := g0.below b
      replace g1 := g1.below b
      replace bb := ext_trans bb b
      clear b
      go_wp2_with fail
      refine (specPackBound_r Ap0 n0 cp0 z0 Ap1 n1 cp1 z1 a2 _ op0.ints big0 op1.ints big1).mono ?_
      rintro e w3 ⟨rfl, b⟩
      replace op0 := op0.below b
      replace op1 := op1.below b
      replace g0 := g0.below b
      replace g1 := g1.below b
      replace bb := ext_trans bb b
      clear b
      clear op0
      clear s_p0_p1
      clear op1
      go_wp2_with fail
      refine (toInt64S_len _ _ _ z0 _ g0 big0).mono ?_
      rintro e w4 ⟨Ax0, cx0, rfl, ox0, b⟩
      replace ox0 := ox0.low bb.size
      replace g0 := g0.below b
      replace g1 := g1.below b
      replace bb := ext_trans bb b
      clear b
      go_wp2_with fail
      refine (toInt64S_len _ _ _ z1 _ g1 big1).mono ?_
      rintro e w5 ⟨Ax1, cx1, rfl, ox1, b⟩
      have s_x0_x1 := sep_new ox0 ox1
      replace ox1 := ox1.low bb.size
      replace ox0 := ox0.below b
      replace g0 := g0.below b
      replace g1 := g1.below b
      replace bb := ext_trans bb b
      clear b
      go_wp2_with fail
      refine (implPackBound_r Ax0 n0 cx0 z0 Ax1 n1 cx1 z1 a2 _ ox0.ints big0 ox1.ints big1).mono ?_
      rintro e w6 ⟨rfl, b⟩
      replace ox0 := ox0.below b
      replace ox1 := ox1.below b
      replace g0 := g0.below b
      replace g1 := g1.below b
      replace bb := ext_trans bb b
      clear b
      go_wp2_with fail
      refine (toInt64S_len _ _ _ z0 _ g0 big0).mono ?_
      rintro e w7 ⟨Ay0, cy0, rfl, oy0, b⟩
      have s_x0_y0 := sep_new ox0 oy0
      have s_x1_y0 := sep_new ox1 oy0
      replace oy0 := oy0.low bb.size
      replace ox0 := ox0.below b
      replace ox1 := ox1.below b
      replace g0 := g0.below b
      replace g1 := g1.below b
      replace bb := ext_trans bb b
      clear b
      go_wp2_with fail
      refine (eqInt64S_same _ _ _ _ _ _ _ _ ox0.ints oy0.ints ox0.le).mono ?_
      rintro e w8 ⟨rfl, b⟩
      replace ox0 := ox0.below b
      replace ox1 := ox1.below b
      replace oy0 := oy0.below b
      replace g0 := g0.below b
      replace g1 := g1.below b
      replace bb := ext_trans bb b
      clear b
      clear oy0
      clear s_x1_y0
      clear s_x0_y0
      go_wp2_with fail
      refine (toInt64S_len _ _ _ z1 _ g1 big1).mono ?_
      rintro e w9 ⟨Ay1, cy1, rfl, oy1, b⟩
      have s_x0_y1 := sep_new ox0 oy1
      have s_x1_y1 := sep_new ox1 oy1
      replace oy1 := oy1.low bb.size
      replace ox0 := ox0.below b
      replace ox1 := ox1.below b
      replace g0 := g0.below b
      replace g1 := g1.below b
      replace bb := ext_trans bb b
      clear b
      go_wp2_with fail
      refine (eqInt64S_same _ _ _ _ _ _ _ _ ox1.ints oy1.ints ox1.le).mono ?_
      rintro e w10 ⟨rfl, b⟩
      replace ox0 := ox0.below b
      replace ox1 := ox1.below b
      replace oy1 := oy1.below b
      replace g0 := g0.below b
      replace g1 := g1.below b
      replace bb := ext_trans bb b
      clear b
      clear oy1
      clear s_x1_y1
      clear s_x0_y1
      go_wp2
      go_ret
      exact ⟨rfl, bb⟩
    · go_enter Try.func5, Try.ntmps5
      go_wp2
      go_ret
      exact ⟨rfl, Below.refl _ _⟩
  · go_enter Try.func5, Try.ntmps5
    go_wp2
    go_ret
    exact ⟨rfl, Below.refl _ _⟩
end Go.Proofs.Ythhkgeeomhhegaa
