/- The walk of the law FnExactLeastBins. -/
import Derived.Test.YthhkgeeomhhegaaBinsTop
import Derived.Test.YthhkgeeomhhegaaMark
import Derived.Test.YthhkgeeomhhegaaMore
import Derived.Test.YthhkgeeomhhegaaOpen
namespace Go.Proofs.Ythhkgeeomhhegaa
open Go.RowKit

set_option maxRecDepth 100000 in
set_option maxHeartbeats 1600000 in
theorem walk_LeastBins (A0 : Option Addr) (n0 c0 : Nat) (z0 : List Int) (a1 : Int) (w : World) (h0 : IntsAt w A0 n0 z0) (fit0 : FitI z0) (_hm0 : n0 ≤ maxLen) (wf1 : (Lit.int .i64 a1).wf = true) :
    Calls Try.prog 4 #[.slice A0 n0 c0, .int .i64 a1] w fun e w' => e = .returned (.bool true) ∧ Below w.heap.size w w' := by
  by_cases big0 : n0 ≤ 1048576
  · skip
    have bd1 := fit_bd wf1
    have bdl1 := bd1.1
    have bdr1 := bd1.2
    clear bd1
    have bb := Below.refl w.heap.size w
    have g0 := h0
    go_enter Try.func4, Try.ntmps4
    go_wp2_with fail
    refine (toInt64S_len _ _ _ z0 _ g0 big0).mono ?_
    rintro e w1 ⟨Ap0, cp0, rfl, op0, b⟩
    replace op0 := op0.low bb.size
    replace g0 := g0.below b
    replace bb := ext_trans bb b
    clear b
    go_wp2_with fail
    refine (specLeastBins_r Ap0 n0 cp0 z0 a1 _ op0.ints big0).mono ?_
    rintro e w2 ⟨rfl, b⟩
    replace op0 := op0.below b
    replace g0 := g0.below b
    replace bb := ext_trans bb b
    clear b
    clear op0
    go_wp2_with fail
    refine (toInt64S_len _ _ _ z0 _ g0 big0).mono ?_
    rintro e w3 ⟨Ax0, cx0, rfl, ox0, b⟩
    replace ox0 := ox0.low bb.size
    replace g0 := g0.below b
    replace bb := ext_trans bb b
    clear b
    go_wp2_with fail
    refine (implLeastBins_r Ax0 n0 cx0 z0 a1 _ ox0.ints big0).mono ?_
    rintro e w4 ⟨rfl, b⟩
    replace ox0 := ox0.below b
    replace g0 := g0.below b
    replace bb := ext_trans bb b
    clear b
    go_wp2_with fail
    refine (toInt64S_len _ _ _ z0 _ g0 big0).mono ?_
    rintro e w5 ⟨Ay0, cy0, rfl, oy0, b⟩
    have s_x0_y0 := sep_new ox0 oy0
    replace oy0 := oy0.low bb.size
    replace ox0 := ox0.below b
    replace g0 := g0.below b
    replace bb := ext_trans bb b
    clear b
    go_wp2_with fail
    refine (eqInt64S_same _ _ _ _ _ _ _ _ ox0.ints oy0.ints ox0.le).mono ?_
    rintro e w6 ⟨rfl, b⟩
    replace ox0 := ox0.below b
    replace oy0 := oy0.below b
    replace g0 := g0.below b
    replace bb := ext_trans bb b
    clear b
    clear oy0
    clear s_x0_y0
    go_wp2
    go_ret
    exact ⟨rfl, bb⟩
  · go_enter Try.func4, Try.ntmps4
    go_wp2
    go_ret
    exact ⟨rfl, Below.refl _ _⟩
end Go.Proofs.Ythhkgeeomhhegaa
