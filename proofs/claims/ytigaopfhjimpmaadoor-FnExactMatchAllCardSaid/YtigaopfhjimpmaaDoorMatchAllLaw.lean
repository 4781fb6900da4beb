/- The walk of the law FnExactMatchAll. -/
import Derived.Test.YtigaopfhjimpmaaDoorMatS
import Derived.Test.YtigaopfhjimpmaaDoorMatL
import Derived.Test.YtigaopfhjimpmaaDoorNetMark
import Derived.Test.YtigaopfhjimpmaaDoorOpenNet
namespace Go.Proofs.YtigaopfhjimpmaaDoor
open Go.RowKit

set_option maxRecDepth 100000 in
set_option maxHeartbeats 3200000 in
theorem walk_MatchAll (nd0 : Int) (A0 : Option Addr) (n0 c0 : Nat) (z0 : List ArcR) (w : World) (_wf0 : (Lit.int .i64 nd0).wf = true) (h0 : ArcsAt w A0 n0 z0) (_fit0 : FitA z0) (hm0 : n0 ≤ maxLen) (ht : HTab w) :
    Calls Tryd.prog 3 #[.agg #[.int .i64 nd0, .slice A0 n0 c0]] w fun e w' => e = .returned (.bool true) ∧ Below w.heap.size w w' := by
  have HM0 := Lib.hid hm0
  have hW : Below w.heap.size w (w.alloc (.cells #[.int .i64 nd0, .slice A0 n0 c0] 24)) := (Below.refl _ _).alloc (Nat.le_refl _) _
  have KB0 := Lib.hid (Blk.new w 24 #[.int .i64 nd0, .slice A0 n0 c0])
  have hlt0 : w.heap.size < (w.alloc (.cells #[.int .i64 nd0, .slice A0 n0 c0] 24)).heap.size := by simp
  have k0 := h0.alloc (.cells #[.int .i64 nd0, .slice A0 n0 c0] 24)
  have KB := KB0
  have HT0 := Lib.hid (ht.alloc (.cells #[.int .i64 nd0, .slice A0 n0 c0] 24))
  clear ht
  clear h0
  by_cases big0 : n0 ≤ 1048576
  · skip
    go_enter Tryd.func3, Tryd.ntmps3
    go_wp2_with fail
    generalize w.alloc (.cells #[.int .i64 nd0, .slice A0 n0 c0] 24) = w0 at *
    have bb := Below.refl w0.heap.size w0
    have g0 := k0
    refine (szNet_yes nd0 A0 n0 c0 _ _ (by omega) (by omega)).mono ?_
    rintro e w1 ⟨rfl, b⟩
    replace g0 := g0.below b
    replace KB := Lib.hid (KB.out.ext b)
    replace bb := ext_trans bb b
    clear b
    have hpos : ¬ ((1048576 : Int) - n0 < 0) := by omega
    have p0 := KB.out.cell 0
    have p1 := KB.out.cell 1
    go_wp2_with fail
    refine (toNet_any nd0 _ _ _ z0 _ g0 big0).mono ?_
    rintro e w2 ⟨Ap0, cp0, rfl, op0, b⟩
    clear p0 p1
    replace op0 := OwnC.low op0 bb.size
    replace g0 := g0.below b
    replace KB := Lib.hid (KB.out.ext b)
    replace bb := ext_trans bb b
    clear b
    go_wp2_with fail
    refine (specMatchAll_r nd0 Ap0 n0 cp0 z0 _ (OwnA.arcs op0) HM0.out).mono ?_
    rintro e w3 ⟨Aw, nw, cw, rfl, ow, b⟩
    have lw : nw ≤ 1048576 := by rw [← ow.len]; exact maV_len nd0 z0
    have s_p0_w := sepC op0 ow
    replace ow := OwnI.low ow bb.size
    replace op0 := OwnC.below op0 b
    replace g0 := g0.below b
    replace KB := Lib.hid (KB.out.ext b)
    replace bb := ext_trans bb b
    clear b
    clear op0
    clear s_p0_w
    clear hpos
    have p0 := KB.out.cell 0
    have p1 := KB.out.cell 1
    go_wp2_with fail
    refine (toNet_any nd0 _ _ _ z0 _ g0 big0).mono ?_
    rintro e w4 ⟨Ax0, cx0, rfl, ox0, b⟩
    clear p0 p1
    have s_w_x0 := sepC ow ox0
    replace ox0 := OwnC.low ox0 bb.size
    replace ow := OwnI.below ow b
    replace g0 := g0.below b
    replace KB := Lib.hid (KB.out.ext b)
    replace bb := ext_trans bb b
    clear b
    replace g0 := g0.alloc (.cells #[.int .i64 nd0, .slice Ax0 n0 cx0] 31)
    replace ow := OwnI.alloc ow (.cells #[.int .i64 nd0, .slice Ax0 n0 cx0] 31)
    replace ox0 := OwnC.alloc ox0 (.cells #[.int .i64 nd0, .slice Ax0 n0 cx0] 31)
    replace KB := Lib.hid (KB.out.alloc (.cells #[.int .i64 nd0, .slice Ax0 n0 cx0] 31))
    have KX := Lib.hid (Blk.new w4 31 #[.int .i64 nd0, .slice Ax0 n0 cx0])
    replace bb := bb.alloc bb.size (.cells #[.int .i64 nd0, .slice Ax0 n0 cx0] 31)
    go_wp2_with fail
    generalize w4.alloc (.cells #[.int .i64 nd0, .slice Ax0 n0 cx0] 31) = w5 at *
    have p0 := KX.out.cell 0
    have p1 := KX.out.cell 1
    go_wp2_with fail
    refine (implMatchAll_r nd0 Ax0 n0 cx0 z0 _ (OwnA.arcs ox0) HM0.out (HT0.out.below bb)).mono ?_
    rintro e w6 ⟨Ag, ng, cg, rfl, og, b⟩
    have lg : ng ≤ 1048576 := by rw [← og.len]; exact maV_len nd0 z0
    clear p0 p1
    have s_w_g := sepC ow og
    have s_x0_g := sepC ox0 og
    replace og := OwnI.low og bb.size
    replace ow := OwnI.below ow b
    replace ox0 := OwnC.below ox0 b
    replace g0 := g0.below b
    replace KB := Lib.hid (KB.out.ext b)
    replace KX := Lib.hid (KX.out.ext b)
    replace bb := ext_trans bb b
    clear b
    go_wp2_with fail
    refine (eqInt64S_same _ _ _ _ _ _ _ _ og.ints ow.ints og.le).mono ?_
    rintro e w7 ⟨rfl, b⟩
    replace ow := OwnI.below ow b
    replace ox0 := OwnC.below ox0 b
    replace og := OwnI.below og b
    replace g0 := g0.below b
    replace KB := Lib.hid (KB.out.ext b)
    replace KX := Lib.hid (KX.out.ext b)
    replace bb := ext_trans bb b
    clear b
    have p0 := KB.out.cell 0
    have p1 := KB.out.cell 1
    have q0 := KX.out.cell 0
    have q1 := KX.out.cell 1
    go_wp2_with fail
    go_cut [45] (fun sx wx => sx = .bool false ∧ Below w7.heap.size w7 wx)
    case first =>
      go_region_with (first | (go_at_call 7; refine (toNet_any nd0 A0 n0 c0 z0 _ g0.drew big0).mono ?_; rintro e w7 ⟨A3, c3, rfl, o3, b⟩; have q0 := (KX.out.drew.ext b).cell 0; have q1 := (KX.out.drew.ext b).cell 1) | (go_at_call 10; refine (eqNet_same nd0 Ax0 A3 n0 cx0 n0 c3 z0 _ (OwnA.arcs (OwnC.below (OwnC.drew ox0) b)) o3.arcs HM0.out).mono ?_; rintro e w8 ⟨rfl, b8⟩))
      all_goals
        go_wp2_with fail
        go_meet
        exact ⟨rfl, ext_trans (ext_trans (Below.drew (Below.refl _ _)) b) b8⟩
    case rest =>
      obtain ⟨rfl, b⟩ := hcut
      clear q0 q1
      clear p0 p1
      replace ow := OwnI.below ow b
      replace ox0 := OwnC.below ox0 b
      replace og := OwnI.below og b
      replace g0 := g0.below b
      replace KB := Lib.hid (KB.out.ext b)
      replace KX := Lib.hid (KX.out.ext b)
      replace bb := ext_trans bb b
      clear b
      have KBt := KB0
      have p0 := KX.out.cell 0
      have p1 := KX.out.cell 1
      go_wp2_with fail
      refine (markNet_ret _ nd0 _ _ _ _ _ _ ox0 (by omega) (by omega)).mono ?_
      rintro e w9 ⟨kkx0, rfl, klx0, krx0, u⟩
      clear p0 p1
      clear KBt
      replace bb := below_blkC bb bb.size u ox0 (Nat.le_refl _)
      replace ow := OwnI.sep ow u s_w_x0
      replace og := OwnI.sep og u s_x0_g.symm
      clear g0
      have g0 := k0.below bb
      clear KB
      have KB := Lib.hid (KB0.out.below bb hlt0)
      clear KX
      clear u
      clear ox0
      clear s_x0_g
      clear s_w_x0
      go_wp2_with fail
      refine (eqInt64S_same _ _ _ _ _ _ _ _ og.ints ow.ints og.le).mono ?_
      rintro e w10 ⟨rfl, b⟩
      replace ow := OwnI.below ow b
      replace og := OwnI.below og b
      replace g0 := g0.below b
      replace KB := Lib.hid (KB.out.ext b)
      replace bb := ext_trans bb b
      clear b
      have KBt := KB0
      go_wp2_with fail
      refine (markInt64S_ret _ _ _ _ _ _ _ _ og (by omega) (by omega)).mono ?_
      rintro e w11 ⟨kkg, rfl, HKg, klg, krg, om, u⟩
      clear KBt
      replace bb := below_blkC bb bb.size u og (Nat.le_refl _)
      replace ow := OwnI.sep ow u s_w_g
      clear g0
      have g0 := k0.below bb
      clear KB
      have KB := Lib.hid (KB0.out.below bb hlt0)
      clear og u
      have og := om
      clear om
      go_wp2_with fail
      refine (pure_ret (heldInt64S_any _ _ _ _ _ og.ints (by omega) (by omega))).mono ?_
      rw [← HKg.out]
      rintro e w12 ⟨rfl, b⟩
      replace ow := OwnI.below ow b
      replace og := OwnI.below og b
      replace g0 := g0.below b
      replace KB := Lib.hid (KB.out.ext b)
      replace bb := ext_trans bb b
      clear b
      have p0 := KB.out.cell 0
      have p1 := KB.out.cell 1
      go_wp2_with fail
      refine (toNet_any nd0 _ _ _ z0 _ g0 big0).mono ?_
      rintro e w13 ⟨Aq0, cq0, rfl, oq0, b⟩
      clear p0 p1
      have s_w_q0 := sepC ow oq0
      have s_g_q0 := sepC og oq0
      replace oq0 := OwnC.low oq0 bb.size
      replace ow := OwnI.below ow b
      replace og := OwnI.below og b
      replace g0 := g0.below b
      replace KB := Lib.hid (KB.out.ext b)
      replace bb := ext_trans bb b
      clear b
      go_wp2_with fail
      refine (implMatchAll_r nd0 Aq0 n0 cq0 z0 _ (OwnA.arcs oq0) HM0.out (HT0.out.below bb)).mono ?_
      rintro e w14 ⟨Av, nv, cv, rfl, ov, b⟩
      have lv : nv ≤ 1048576 := by rw [← ov.len]; exact maV_len nd0 z0
      have s_w_v := sepC ow ov
      have s_g_v := sepC og ov
      have s_q0_v := sepC oq0 ov
      replace ov := OwnI.low ov bb.size
      replace ow := OwnI.below ow b
      replace og := OwnI.below og b
      replace oq0 := OwnC.below oq0 b
      replace g0 := g0.below b
      replace KB := Lib.hid (KB.out.ext b)
      replace bb := ext_trans bb b
      clear b
      go_wp2_with fail
      refine (eqInt64S_same _ _ _ _ _ _ _ _ ov.ints ow.ints ov.le).mono ?_
      rintro e w15 ⟨rfl, b⟩
      replace ow := OwnI.below ow b
      replace og := OwnI.below og b
      replace oq0 := OwnC.below oq0 b
      replace ov := OwnI.below ov b
      replace g0 := g0.below b
      replace KB := Lib.hid (KB.out.ext b)
      replace bb := ext_trans bb b
      clear b
      go_wp2_with fail
      refine (pure_ret (heldInt64S_any _ _ _ _ _ og.ints (by omega) (by omega))).mono ?_
      rw [← HKg.out]
      rintro e w16 ⟨rfl, b⟩
      replace ow := OwnI.below ow b
      replace og := OwnI.below og b
      replace oq0 := OwnC.below oq0 b
      replace ov := OwnI.below ov b
      replace g0 := g0.below b
      replace KB := Lib.hid (KB.out.ext b)
      replace bb := ext_trans bb b
      clear b
      go_wp2
      go_ret
      exact ⟨rfl, below_ext hW hW.size bb⟩
  · go_enter Tryd.func3, Tryd.ntmps3
    go_wp2_with fail
    generalize w.alloc (.cells #[.int .i64 nd0, .slice A0 n0 c0] 24) = w0 at *
    refine (szNet_no nd0 A0 n0 c0 _ _ (by omega) (by omega) (by omega) HM0.out).mono ?_
    rintro e w1 ⟨rfl, b⟩
    go_wp2_with fail
    go_ret
    exact ⟨rfl, below_ext hW hW.size b⟩
end Go.Proofs.YtigaopfhjimpmaaDoor
