/- The walk of the law FnExactTreesIn. -/
import Derived.Test.YtigaopfhjimpmaaKirS
import Derived.Test.YtigaopfhjimpmaaKirT
import Derived.Test.YtigaopfhjimpmaaNetMark
import Derived.Test.YtigaopfhjimpmaaOpenNet
namespace Go.Proofs.Ytigaopfhjimpmaa
open Go.RowKit

set_option maxRecDepth 100000 in
set_option maxHeartbeats 3200000 in
theorem walk_TreesIn (nd0 : Int) (A0 : Option Addr) (n0 c0 : Nat) (z0 : List ArcR) (w : World) (_wf0 : (Lit.int .i64 nd0).wf = true) (h0 : ArcsAt w A0 n0 z0) (_fit0 : FitA z0) (hm0 : n0 ≤ maxLen) :
    Calls Try.prog 4 #[.agg #[.int .i64 nd0, .slice A0 n0 c0]] w fun e w' => e = .returned (.bool true) ∧ Below w.heap.size w w' := by
  have HM0 := Lib.hid hm0
  have hW : Below w.heap.size w (w.alloc (.cells #[.int .i64 nd0, .slice A0 n0 c0] 24)) := (Below.refl _ _).alloc (Nat.le_refl _) _
  have KB0 := Lib.hid (Blk.new w 24 #[.int .i64 nd0, .slice A0 n0 c0])
  have hlt0 : w.heap.size < (w.alloc (.cells #[.int .i64 nd0, .slice A0 n0 c0] 24)).heap.size := by simp
  have k0 := h0.alloc (.cells #[.int .i64 nd0, .slice A0 n0 c0] 24)
  have KB := KB0
  clear h0
  by_cases big0 : n0 ≤ 1048576
  · skip
    go_enter Try.func4, Try.ntmps4
    go_wp2_with fail
    generalize w.alloc (.cells #[.int .i64 nd0, .slice A0 n0 c0] 24) = w0 at *
    have bb := Below.refl w0.heap.size w0
    have g0 := k0
    refine (szNet_yes nd0 A0 n0 c0 _ _ (by omega) (by omega)).mono ?_
    rintro e w1 ⟨rfl, b⟩
    replace g0 := g0.below b
    replace KB := Lib.hid (KB.out.ext b)
    replace bb := ext_trans bb b
    clear b
    have hpos : ¬ ((1048576 : Int) - n0 < 0) := by omega
    have p0 := KB.out.cell 0
    have p1 := KB.out.cell 1
    go_wp2_with fail
    refine (toNet_any nd0 _ _ _ z0 _ g0 big0).mono ?_
    rintro e w2 ⟨Ap0, cp0, rfl, op0, b⟩
    clear p0 p1
    replace op0 := OwnC.low op0 bb.size
    replace g0 := g0.below b
    replace KB := Lib.hid (KB.out.ext b)
    replace bb := ext_trans bb b
    clear b
    go_wp2_with fail
    refine (specTreesIn_r nd0 Ap0 n0 cp0 z0 _ (OwnA.arcs op0) HM0.out).mono ?_
    rintro e w3 ⟨rfl, b⟩
    replace op0 := OwnC.below op0 b
    replace g0 := g0.below b
    replace KB := Lib.hid (KB.out.ext b)
    replace bb := ext_trans bb b
    clear b
    clear op0
    clear hpos
    have p0 := KB.out.cell 0
    have p1 := KB.out.cell 1
    go_wp2_with fail
    refine (toNet_any nd0 _ _ _ z0 _ g0 big0).mono ?_
    rintro e w4 ⟨Ax0, cx0, rfl, ox0, b⟩
    clear p0 p1
    replace ox0 := OwnC.low ox0 bb.size
    replace g0 := g0.below b
    replace KB := Lib.hid (KB.out.ext b)
    replace bb := ext_trans bb b
    clear b
    replace g0 := g0.alloc (.cells #[.int .i64 nd0, .slice Ax0 n0 cx0] 31)
    replace ox0 := OwnC.alloc ox0 (.cells #[.int .i64 nd0, .slice Ax0 n0 cx0] 31)
    replace KB := Lib.hid (KB.out.alloc (.cells #[.int .i64 nd0, .slice Ax0 n0 cx0] 31))
    have KX := Lib.hid (Blk.new w4 31 #[.int .i64 nd0, .slice Ax0 n0 cx0])
    replace bb := bb.alloc bb.size (.cells #[.int .i64 nd0, .slice Ax0 n0 cx0] 31)
    go_wp2_with fail
    generalize w4.alloc (.cells #[.int .i64 nd0, .slice Ax0 n0 cx0] 31) = w5 at *
    have p0 := KX.out.cell 0
    have p1 := KX.out.cell 1
    go_wp2_with fail
    refine (implTreesIn_r nd0 Ax0 n0 cx0 z0 _ (OwnA.arcs ox0) HM0.out).mono ?_
    rintro e w6 ⟨rfl, b⟩
    clear p0 p1
    replace ox0 := OwnC.below ox0 b
    replace g0 := g0.below b
    replace KB := Lib.hid (KB.out.ext b)
    replace KX := Lib.hid (KX.out.ext b)
    replace bb := ext_trans bb b
    clear b
    have p0 := KB.out.cell 0
    have p1 := KB.out.cell 1
    have q0 := KX.out.cell 0
    have q1 := KX.out.cell 1
    go_wp2_with fail
    go_cut [39] (fun sx wx => sx = .bool false ∧ Below w6.heap.size w6 wx)
    case first =>
      go_region_with (first | (go_at_call 8; refine (toNet_any nd0 A0 n0 c0 z0 _ g0.drew big0).mono ?_; rintro e w7 ⟨A3, c3, rfl, o3, b⟩; have q0 := (KX.out.drew.ext b).cell 0; have q1 := (KX.out.drew.ext b).cell 1) | (go_at_call 11; refine (eqNet_same nd0 Ax0 A3 n0 cx0 n0 c3 z0 _ (OwnA.arcs (OwnC.below (OwnC.drew ox0) b)) o3.arcs HM0.out).mono ?_; rintro e w8 ⟨rfl, b8⟩))
      all_goals
        go_wp2_with fail
        go_meet
        exact ⟨rfl, ext_trans (ext_trans (Below.drew (Below.refl _ _)) b) b8⟩
    case rest =>
      obtain ⟨rfl, b⟩ := hcut
      clear q0 q1
      clear p0 p1
      replace ox0 := OwnC.below ox0 b
      replace g0 := g0.below b
      replace KB := Lib.hid (KB.out.ext b)
      replace KX := Lib.hid (KX.out.ext b)
      replace bb := ext_trans bb b
      clear b
      go_wp2
      go_ret
      exact ⟨rfl, below_ext hW hW.size bb⟩
  · go_enter Try.func4, Try.ntmps4
    go_wp2_with fail
    generalize w.alloc (.cells #[.int .i64 nd0, .slice A0 n0 c0] 24) = w0 at *
    refine (szNet_no nd0 A0 n0 c0 _ _ (by omega) (by omega) (by omega) HM0.out).mono ?_
    rintro e w1 ⟨rfl, b⟩
    go_wp2_with fail
    go_ret
    exact ⟨rfl, below_ext hW hW.size b⟩
end Go.Proofs.Ytigaopfhjimpmaa
