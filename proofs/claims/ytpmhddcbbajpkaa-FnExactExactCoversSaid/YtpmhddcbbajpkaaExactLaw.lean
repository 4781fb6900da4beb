/- The walk of the law FnExactExactCovers. -/
import Derived.Test.YtpmhddcbbajpkaaExact
import Derived.Test.YtpmhddcbbajpkaaOpen
namespace Go.Proofs.Ytpmhddcbbajpkaa
open Go.RowKit

set_option maxRecDepth 100000 in
set_option maxHeartbeats 1600000 in
theorem walk_ExactCovers (a0 : Int) (A1 : Option Addr) (n1 c1 : Nat) (z1 : List Int) (w : World) (wf0 : (Lit.int .i64 a0).wf = true) (h1 : IntsAt w A1 n1 z1) (fit1 : FitI z1) (_hm1 : n1 ≤ maxLen) :
    Calls Try.prog 9 #[.int .i64 a0, .slice A1 n1 c1] w fun e w' => e = .returned (.bool true) ∧ Below w.heap.size w w' := by
  by_cases big1 : n1 ≤ 1048576
  · skip
    have bd0 := fit_bd wf0
    have bdl0 := bd0.1
    have bdr0 := bd0.2
    clear bd0
    have bb := Below.refl w.heap.size w
    have g1 := h1
    go_enter Try.func9, Try.ntmps9
    go_wp2_with fail
    refine (toInt64S_len _ _ _ z1 _ g1 big1).mono ?_
    rintro e w1 ⟨Ap1, cp1, rfl, op1, b⟩
    replace op1 := op1.low bb.size
    replace g1 := g1.below b
    replace bb := ext_trans bb b
    clear b
    go_wp2_with fail
    refine (specExactCovers_r a0 Ap1 n1 cp1 z1 _ op1.ints big1).mono ?_
    rintro e w2 ⟨rfl, b⟩
    replace op1 := op1.below b
    replace g1 := g1.below b
    replace bb := ext_trans bb b
    clear b
    clear op1
    go_wp2_with fail
    refine (toInt64S_len _ _ _ z1 _ g1 big1).mono ?_
    rintro e w3 ⟨Ax1, cx1, rfl, ox1, b⟩
    replace ox1 := ox1.low bb.size
    replace g1 := g1.below b
    replace bb := ext_trans bb b
    clear b
    go_wp2_with fail
    refine (implExactCovers_r a0 Ax1 n1 cx1 z1 _ ox1.ints big1).mono ?_
    rintro e w4 ⟨rfl, b⟩
    replace ox1 := ox1.below b
    replace g1 := g1.below b
    replace bb := ext_trans bb b
    clear b
    go_wp2_with fail
    refine (toInt64S_len _ _ _ z1 _ g1 big1).mono ?_
    rintro e w5 ⟨Ay1, cy1, rfl, oy1, b⟩
    have s_x1_y1 := sep_new ox1 oy1
    replace oy1 := oy1.low bb.size
    replace ox1 := ox1.below b
    replace g1 := g1.below b
    replace bb := ext_trans bb b
    clear b
    go_wp2_with fail
    refine (eqInt64S_same _ _ _ _ _ _ _ _ ox1.ints oy1.ints ox1.le).mono ?_
    rintro e w6 ⟨rfl, b⟩
    replace ox1 := ox1.below b
    replace oy1 := oy1.below b
    replace g1 := g1.below b
    replace bb := ext_trans bb b
    clear b
    clear oy1
    clear s_x1_y1
    go_wp2
    go_ret
    exact ⟨rfl, bb⟩
  · go_enter Try.func9, Try.ntmps9
    go_wp2
    go_ret
    exact ⟨rfl, Below.refl _ _⟩
end Go.Proofs.Ytpmhddcbbajpkaa
