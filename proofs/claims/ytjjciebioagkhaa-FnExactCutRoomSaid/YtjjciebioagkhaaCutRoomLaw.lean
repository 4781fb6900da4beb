/- The walk of the law FnExactCutRoom. -/
import Derived.Test.YtjjciebioagkhaaCut2
import Derived.Test.YtjjciebioagkhaaNetMark
import Derived.Test.YtjjciebioagkhaaOpenNet
namespace Go.Proofs.Ytjjciebioagkhaa
open Go.RowKit

set_option maxRecDepth 100000 in
set_option maxHeartbeats 3200000 in
theorem walk_CutRoom (nd0 : Int) (A0 : Option Addr) (n0 c0 : Nat) (z0 : List ArcR) (A1 : Option Addr) (n1 c1 : Nat) (z1 : List Int) (w : World) (_wf0 : (Lit.int .i64 nd0).wf = true) (h0 : ArcsAt w A0 n0 z0) (_fit0 : FitA z0) (hm0 : n0 ≤ maxLen) (h1 : IntsAt w A1 n1 z1) (_fit1 : FitI z1) (hm1 : n1 ≤ maxLen) :
    Calls Try.prog 6 #[.agg #[.int .i64 nd0, .slice A0 n0 c0], .slice A1 n1 c1] w fun e w' => e = .returned (.bool true) ∧ Below w.heap.size w w' := by
  have HM0 := Lib.hid hm0
  have HM1 := Lib.hid hm1
  have hW : Below w.heap.size w (w.alloc (.cells #[.int .i64 nd0, .slice A0 n0 c0] 36)) := (Below.refl _ _).alloc (Nat.le_refl _) _
  have KB0 := Lib.hid (Blk.new w 36 #[.int .i64 nd0, .slice A0 n0 c0])
  have hlt0 : w.heap.size < (w.alloc (.cells #[.int .i64 nd0, .slice A0 n0 c0] 36)).heap.size := by simp
  have k0 := h0.alloc (.cells #[.int .i64 nd0, .slice A0 n0 c0] 36)
  have k1 := h1.alloc (.cells #[.int .i64 nd0, .slice A0 n0 c0] 36)
  have KB := KB0
  clear h0
  clear h1
  by_cases big1 : n1 ≤ 1048576
  · skip
    by_cases big0 : n0 ≤ 1048576
    · skip
      go_enter Try.func6, Try.ntmps6
      go_wp2_with fail
      generalize w.alloc (.cells #[.int .i64 nd0, .slice A0 n0 c0] 36) = w0 at *
      have bb := Below.refl w0.heap.size w0
      have g0 := k0
      have g1 := k1
      refine (szNet_yes nd0 A0 n0 c0 _ _ (by omega) (by omega)).mono ?_
      rintro e w1 ⟨rfl, b⟩
      replace g0 := g0.below b
      replace g1 := g1.below b
      replace KB := Lib.hid (KB.out.ext b)
      replace bb := ext_trans bb b
      clear b
      have hpos : ¬ ((1048576 : Int) - n0 < 0) := by omega
      have p0 := KB.out.cell 0
      have p1 := KB.out.cell 1
      go_wp2_with fail
      refine (toNet_any nd0 _ _ _ z0 _ g0 big0).mono ?_
      rintro e w2 ⟨Ap0, cp0, rfl, op0, b⟩
      clear p0 p1
      replace op0 := OwnC.low op0 bb.size
      replace g0 := g0.below b
      replace g1 := g1.below b
      replace KB := Lib.hid (KB.out.ext b)
      replace bb := ext_trans bb b
      clear b
      go_wp2_with fail
      refine (toInt64S_len _ _ _ z1 _ g1 big1).mono ?_
      rintro e w3 ⟨Ap1, cp1, rfl, op1, b⟩
      have s_p0_p1 := sepC op0 op1
      replace op1 := OwnI.low op1 bb.size
      replace op0 := OwnC.below op0 b
      replace g0 := g0.below b
      replace g1 := g1.below b
      replace KB := Lib.hid (KB.out.ext b)
      replace bb := ext_trans bb b
      clear b
      go_wp2_with fail
      refine (specCutRoom_r nd0 Ap0 n0 cp0 z0 Ap1 n1 cp1 z1 _ (OwnA.arcs op0) HM0.out op1.ints big1).mono ?_
      rintro e w4 ⟨rfl, b⟩
      replace op0 := OwnC.below op0 b
      replace op1 := OwnI.below op1 b
      replace g0 := g0.below b
      replace g1 := g1.below b
      replace KB := Lib.hid (KB.out.ext b)
      replace bb := ext_trans bb b
      clear b
      clear op0
      clear s_p0_p1
      clear op1
      clear hpos
      have p0 := KB.out.cell 0
      have p1 := KB.out.cell 1
      go_wp2_with fail
      refine (toNet_any nd0 _ _ _ z0 _ g0 big0).mono ?_
      rintro e w5 ⟨Ax0, cx0, rfl, ox0, b⟩
      clear p0 p1
      replace ox0 := OwnC.low ox0 bb.size
      replace g0 := g0.below b
      replace g1 := g1.below b
      replace KB := Lib.hid (KB.out.ext b)
      replace bb := ext_trans bb b
      clear b
      replace g0 := g0.alloc (.cells #[.int .i64 nd0, .slice Ax0 n0 cx0] 26)
      replace g1 := g1.alloc (.cells #[.int .i64 nd0, .slice Ax0 n0 cx0] 26)
      replace ox0 := OwnC.alloc ox0 (.cells #[.int .i64 nd0, .slice Ax0 n0 cx0] 26)
      replace KB := Lib.hid (KB.out.alloc (.cells #[.int .i64 nd0, .slice Ax0 n0 cx0] 26))
      have KX := Lib.hid (Blk.new w5 26 #[.int .i64 nd0, .slice Ax0 n0 cx0])
      replace bb := bb.alloc bb.size (.cells #[.int .i64 nd0, .slice Ax0 n0 cx0] 26)
      go_wp2_with fail
      generalize w5.alloc (.cells #[.int .i64 nd0, .slice Ax0 n0 cx0] 26) = w6 at *
      go_wp2_with fail
      refine (toInt64S_len _ _ _ z1 _ g1 big1).mono ?_
      rintro e w7 ⟨Ax1, cx1, rfl, ox1, b⟩
      have s_x0_x1 := sepC ox0 ox1
      replace ox1 := OwnI.low ox1 bb.size
      replace ox0 := OwnC.below ox0 b
      replace g0 := g0.below b
      replace g1 := g1.below b
      replace KB := Lib.hid (KB.out.ext b)
      replace KX := Lib.hid (KX.out.ext b)
      replace bb := ext_trans bb b
      clear b
      have p0 := KX.out.cell 0
      have p1 := KX.out.cell 1
      go_wp2_with fail
      refine (implCutRoom_r nd0 Ax0 n0 cx0 z0 Ax1 n1 cx1 z1 _ (OwnA.arcs ox0) HM0.out ox1.ints big1).mono ?_
      rintro e w8 ⟨rfl, b⟩
      clear p0 p1
      replace ox0 := OwnC.below ox0 b
      replace ox1 := OwnI.below ox1 b
      replace g0 := g0.below b
      replace g1 := g1.below b
      replace KB := Lib.hid (KB.out.ext b)
      replace KX := Lib.hid (KX.out.ext b)
      replace bb := ext_trans bb b
      clear b
      have p0 := KB.out.cell 0
      have p1 := KB.out.cell 1
      have q0 := KX.out.cell 0
      have q1 := KX.out.cell 1
      go_wp2_with fail
      go_cut [50] (fun sx wx => sx = .bool false ∧ Below w8.heap.size w8 wx)
      case first =>
        go_region_with (first | (go_at_call 21; refine (toNet_any nd0 A0 n0 c0 z0 _ g0.drew big0).mono ?_; rintro e w7 ⟨A3, c3, rfl, o3, b⟩; have q0 := (KX.out.drew.ext b).cell 0; have q1 := (KX.out.drew.ext b).cell 1) | (go_at_call 14; refine (eqNet_same nd0 Ax0 A3 n0 cx0 n0 c3 z0 _ (OwnA.arcs (OwnC.below (OwnC.drew ox0) b)) o3.arcs HM0.out).mono ?_; rintro e w8 ⟨rfl, b8⟩))
        all_goals
          go_wp2_with fail
          go_meet
          exact ⟨rfl, ext_trans (ext_trans (Below.drew (Below.refl _ _)) b) b8⟩
      case rest =>
        obtain ⟨rfl, b⟩ := hcut
        clear q0 q1
        clear p0 p1
        replace ox0 := OwnC.below ox0 b
        replace ox1 := OwnI.below ox1 b
        replace g0 := g0.below b
        replace g1 := g1.below b
        replace KB := Lib.hid (KB.out.ext b)
        replace KX := Lib.hid (KX.out.ext b)
        replace bb := ext_trans bb b
        clear b
        go_wp2_with fail
        refine (toInt64S_len _ _ _ z1 _ g1 big1).mono ?_
        rintro e w10 ⟨Ay1, cy1, rfl, oy1, b⟩
        have s_x0_y1 := sepC ox0 oy1
        have s_x1_y1 := sepC ox1 oy1
        replace oy1 := OwnI.low oy1 bb.size
        replace ox0 := OwnC.below ox0 b
        replace ox1 := OwnI.below ox1 b
        replace g0 := g0.below b
        replace g1 := g1.below b
        replace KB := Lib.hid (KB.out.ext b)
        replace KX := Lib.hid (KX.out.ext b)
        replace bb := ext_trans bb b
        clear b
        go_wp2_with fail
        refine (eqInt64S_same _ _ _ _ _ _ _ _ ox1.ints oy1.ints ox1.le).mono ?_
        rintro e w11 ⟨rfl, b⟩
        replace ox0 := OwnC.below ox0 b
        replace ox1 := OwnI.below ox1 b
        replace oy1 := OwnI.below oy1 b
        replace g0 := g0.below b
        replace g1 := g1.below b
        replace KB := Lib.hid (KB.out.ext b)
        replace KX := Lib.hid (KX.out.ext b)
        replace bb := ext_trans bb b
        clear b
        clear oy1
        clear s_x1_y1
        clear s_x0_y1
        go_wp2
        go_ret
        exact ⟨rfl, below_ext hW hW.size bb⟩
    · go_enter Try.func6, Try.ntmps6
      go_wp2_with fail
      generalize w.alloc (.cells #[.int .i64 nd0, .slice A0 n0 c0] 36) = w0 at *
      refine (szNet_no nd0 A0 n0 c0 _ _ (by omega) (by omega) (by omega) HM0.out).mono ?_
      rintro e w1 ⟨rfl, b⟩
      go_wp2_with fail
      go_ret
      exact ⟨rfl, below_ext hW hW.size b⟩
  · go_enter Try.func6, Try.ntmps6
    go_wp2
    go_ret
    exact ⟨rfl, hW⟩
end Go.Proofs.Ytjjciebioagkhaa
