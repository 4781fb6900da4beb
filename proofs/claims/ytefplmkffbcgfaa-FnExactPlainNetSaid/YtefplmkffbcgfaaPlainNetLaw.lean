/- The walk of the law FnExactPlainNet. -/
import Derived.Test.YtefplmkffbcgfaaPlainNet
import Derived.Test.YtefplmkffbcgfaaOpenNet
namespace Go.Proofs.Ytefplmkffbcgfaa
open Go.RowKit

theorem plainA_le (nodes : Int) (xs : List ArcR) : (plainA nodes xs).length ≤ xs.length := by unfold plainA; split <;> simp
set_option maxRecDepth 100000 in
set_option maxHeartbeats 3200000 in
theorem walk_PlainNet (a0 : Int) (A1 : Option Addr) (n1 c1 : Nat) (z1 : List ArcR) (w : World) (_wf0 : (Lit.int .i64 a0).wf = true) (h1 : ArcsAt w A1 n1 z1) (_fit1 : FitA z1) (hm1 : n1 ≤ maxLen) :
    Calls Try.prog 3 #[.int .i64 a0, .slice A1 n1 c1] w fun e w' => e = .returned (.bool true) ∧ Below w.heap.size w w' := by
  have HM1 := Lib.hid hm1
  by_cases big1 : n1 ≤ 1048576
  · skip
    have bb := Below.refl w.heap.size w
    have g1 := h1
    have hb1 : (validB a0 z1 != validB a0 z1) = false := by simp
    go_enter Try.func3, Try.ntmps3
    go_wp2_with fail
    refine (szArcS_yes A1 n1 c1 1048576 _ (by omega) (by omega)).mono ?_
    rintro e w1 ⟨rfl, b⟩
    replace g1 := g1.below b
    replace bb := ext_trans bb b
    clear b
    have hpos : ¬ ((1048576 : Int) - n1 < 0) := by omega
    go_wp2_with fail
    refine (toArcS_any _ _ _ z1 _ g1 big1).mono ?_
    rintro e w2 ⟨Ap, cp, rfl, op, b⟩
    replace op := OwnC.low op bb.size
    replace g1 := g1.below b
    replace bb := ext_trans bb b
    clear b
    go_wp2_with fail
    refine (specPlainNet_r a0 Ap n1 cp z1 _ (OwnA.arcs op) big1).mono ?_
    rintro e w3 ⟨Aw, nw, cw, rfl, ow, b⟩
    have lw : nw ≤ 1048576 := by have h2 := OwnA.len ow; have h3 := plainA_le a0 z1; have h4 := g1.len; omega
    have hbw : nw ≤ maxLen := by unfold maxLen; omega
    have s_p_w := sepC op ow
    replace ow := OwnC.low ow bb.size
    replace op := OwnC.below op b
    replace g1 := g1.below b
    replace bb := ext_trans bb b
    clear b
    have t_p_W := Lib.hid (fun ad (ha : Ap = some ad) => (show ad.block ≠ w3.heap.size from by have h2 := (OwnC.lt op ha).2; omega))
    have t_w_W := Lib.hid (fun ad (ha : Aw = some ad) => (show ad.block ≠ w3.heap.size from by have h2 := (OwnC.lt ow ha).2; omega))
    replace op := OwnC.alloc op (.cells #[.int .i64 (plainN a0 z1), .slice Aw nw cw] 26)
    replace ow := OwnC.alloc ow (.cells #[.int .i64 (plainN a0 z1), .slice Aw nw cw] 26)
    have KW := Lib.hid (Blk.new w3 26 #[.int .i64 (plainN a0 z1), .slice Aw nw cw])
    replace g1 := g1.alloc (.cells #[.int .i64 (plainN a0 z1), .slice Aw nw cw] 26)
    replace bb := bb.alloc bb.size (.cells #[.int .i64 (plainN a0 z1), .slice Aw nw cw] 26)
    go_wp2_with fail
    generalize w3.alloc (.cells #[.int .i64 (plainN a0 z1), .slice Aw nw cw] 26) = w4 at *
    clear op
    go_wp2_with fail
    refine (toArcS_any _ _ _ z1 _ g1 big1).mono ?_
    rintro e w5 ⟨Ax, cx, rfl, ox, b⟩
    have s_w_x := sepC ow ox
    have t_x_W := Lib.hid (fun ad (ha : Ax = some ad) => (show ad.block ≠ w3.heap.size from by have h2 := (OwnC.lt ox ha).1; have h3 := KW.out.lt; omega))
    replace ox := OwnC.low ox bb.size
    replace ow := OwnC.below ow b
    replace KW := Lib.hid (KW.out.ext b)
    replace g1 := g1.below b
    replace bb := ext_trans bb b
    clear b
    go_wp2_with fail
    refine (implPlainNet_r a0 Ax n1 cx z1 _ (OwnA.arcs ox) big1).mono ?_
    rintro e w6 ⟨Ag, ng, cg, rfl, og, b⟩
    have lg : ng ≤ 1048576 := by have h2 := OwnA.len og; have h3 := plainA_le a0 z1; have h4 := g1.len; omega
    have hbg : ng ≤ maxLen := by unfold maxLen; omega
    have s_w_g := sepC ow og
    have s_x_g := sepC ox og
    have t_g_W := Lib.hid (fun ad (ha : Ag = some ad) => (show ad.block ≠ w3.heap.size from by have h2 := (OwnC.lt og ha).1; have h3 := KW.out.lt; omega))
    replace og := OwnC.low og bb.size
    replace ow := OwnC.below ow b
    replace ox := OwnC.below ox b
    replace KW := Lib.hid (KW.out.ext b)
    replace g1 := g1.below b
    replace bb := ext_trans bb b
    clear b
    have t_w_G := Lib.hid (fun ad (ha : Aw = some ad) => (show ad.block ≠ w6.heap.size from by have h2 := (OwnC.lt ow ha).2; omega))
    have t_x_G := Lib.hid (fun ad (ha : Ax = some ad) => (show ad.block ≠ w6.heap.size from by have h2 := (OwnC.lt ox ha).2; omega))
    have t_g_G := Lib.hid (fun ad (ha : Ag = some ad) => (show ad.block ≠ w6.heap.size from by have h2 := (OwnC.lt og ha).2; omega))
    replace ow := OwnC.alloc ow (.cells #[.int .i64 (plainN a0 z1), .slice Ag ng cg] 26)
    replace ox := OwnC.alloc ox (.cells #[.int .i64 (plainN a0 z1), .slice Ag ng cg] 26)
    replace og := OwnC.alloc og (.cells #[.int .i64 (plainN a0 z1), .slice Ag ng cg] 26)
    replace KW := Lib.hid (KW.out.alloc (.cells #[.int .i64 (plainN a0 z1), .slice Ag ng cg] 26))
    have KG := Lib.hid (Blk.new w6 26 #[.int .i64 (plainN a0 z1), .slice Ag ng cg])
    replace g1 := g1.alloc (.cells #[.int .i64 (plainN a0 z1), .slice Ag ng cg] 26)
    replace bb := bb.alloc bb.size (.cells #[.int .i64 (plainN a0 z1), .slice Ag ng cg] 26)
    have p00 := (KG.out.cell 0).trans (show _ = some (Value.int .i64 (plainN a0 z1)) from rfl)
    have p01 := (KG.out.cell 1).trans (show _ = some (Value.slice Ag ng cg) from rfl)
    have p10 := (KW.out.cell 0).trans (show _ = some (Value.int .i64 (plainN a0 z1)) from rfl)
    have p11 := (KW.out.cell 1).trans (show _ = some (Value.slice Aw nw cw) from rfl)
    go_wp2_with fail
    generalize w6.alloc (.cells #[.int .i64 (plainN a0 z1), .slice Ag ng cg] 26) = w7 at *
    refine (eqNet_same (plainN a0 z1) Ag Aw ng cg nw cw (plainA a0 z1) _ (OwnA.arcs og) (OwnA.arcs ow) hbg).mono ?_
    rintro e w8 ⟨rfl, b⟩
    clear p00 p01 p10 p11
    replace ow := OwnC.below ow b
    replace ox := OwnC.below ox b
    replace og := OwnC.below og b
    replace KW := Lib.hid (KW.out.ext b)
    replace KG := Lib.hid (KG.out.ext b)
    replace g1 := g1.below b
    replace bb := ext_trans bb b
    clear b
    go_wp2_with fail
    refine (toArcS_any _ _ _ z1 _ g1 big1).mono ?_
    rintro e w9 ⟨Ay, cy, rfl, oy, b⟩
    have s_w_y := sepC ow oy
    have s_x_y := sepC ox oy
    have s_g_y := sepC og oy
    have t_y_W := Lib.hid (fun ad (ha : Ay = some ad) => (show ad.block ≠ w3.heap.size from by have h2 := (OwnC.lt oy ha).1; have h3 := KW.out.lt; omega))
    have t_y_G := Lib.hid (fun ad (ha : Ay = some ad) => (show ad.block ≠ w6.heap.size from by have h2 := (OwnC.lt oy ha).1; have h3 := KG.out.lt; omega))
    replace oy := OwnC.low oy bb.size
    replace ow := OwnC.below ow b
    replace ox := OwnC.below ox b
    replace og := OwnC.below og b
    replace KW := Lib.hid (KW.out.ext b)
    replace KG := Lib.hid (KG.out.ext b)
    replace g1 := g1.below b
    replace bb := ext_trans bb b
    clear b
    go_wp2_with fail
    refine (eqArcS_same Ax Ay n1 cx n1 cy z1 _ (OwnA.arcs ox) (OwnA.arcs oy) HM1.out).mono ?_
    rintro e w10 ⟨rfl, b⟩
    replace ow := OwnC.below ow b
    replace ox := OwnC.below ox b
    replace og := OwnC.below og b
    replace oy := OwnC.below oy b
    replace KW := Lib.hid (KW.out.ext b)
    replace KG := Lib.hid (KG.out.ext b)
    replace g1 := g1.below b
    replace bb := ext_trans bb b
    clear b
    clear oy
    go_wp2_with fail
    refine (markArcS_any _ Ax n1 cx z1 1 _ ox (by omega) (by omega)).mono ?_
    rintro e w11 ⟨ys, rfl, ox2, u⟩
    replace bb := below_blkC bb bb.size u ox (Nat.le_refl _)
    replace ow := OwnC.sep ow u s_w_x
    replace og := OwnC.sep og u s_x_g.symm
    replace KW := Lib.hid (KW.out.upd u (by rintro ⟨ad, h2, h3⟩; exact t_x_W.out ad h2 h3))
    replace KG := Lib.hid (KG.out.upd u (by rintro ⟨ad, h2, h3⟩; exact t_x_G.out ad h2 h3))
    clear g1
    have g1 := h1.below bb
    clear u ox2
    clear ox
    have hk1 : ¬ ((1 : Int) + 4 * n1 < 0) := by omega
    have p00 := (KG.out.cell 0).trans (show _ = some (Value.int .i64 (plainN a0 z1)) from rfl)
    have p01 := (KG.out.cell 1).trans (show _ = some (Value.slice Ag ng cg) from rfl)
    have p10 := (KW.out.cell 0).trans (show _ = some (Value.int .i64 (plainN a0 z1)) from rfl)
    have p11 := (KW.out.cell 1).trans (show _ = some (Value.slice Aw nw cw) from rfl)
    go_wp2_with fail
    refine (eqNet_same (plainN a0 z1) Ag Aw ng cg nw cw (plainA a0 z1) _ (OwnA.arcs og) (OwnA.arcs ow) hbg).mono ?_
    rintro e w12 ⟨rfl, b⟩
    clear p00 p01 p10 p11
    replace ow := OwnC.below ow b
    replace og := OwnC.below og b
    replace KW := Lib.hid (KW.out.ext b)
    replace KG := Lib.hid (KG.out.ext b)
    replace g1 := g1.below b
    replace bb := ext_trans bb b
    clear b
    have p00 := (KG.out.cell 0).trans (show _ = some (Value.int .i64 (plainN a0 z1)) from rfl)
    have p01 := (KG.out.cell 1).trans (show _ = some (Value.slice Ag ng cg) from rfl)
    go_wp2_with fail
    refine (markNet_seq _ (plainN a0 z1) Ag ng cg (plainA a0 z1) 1 _ og (by omega) (by omega)).mono ?_
    rintro e w13 ⟨km, rfl, HKM, km0, km1, og2, u⟩
    clear p00 p01
    replace bb := below_blkC bb bb.size u og (Nat.le_refl _)
    replace ow := OwnC.sep ow u s_w_g
    replace KW := Lib.hid (KW.out.upd u (by rintro ⟨ad, h2, h3⟩; exact t_g_W.out ad h2 h3))
    replace KG := Lib.hid (KG.out.upd u (by rintro ⟨ad, h2, h3⟩; exact t_g_G.out ad h2 h3))
    clear g1
    have g1 := h1.below bb
    clear u og
    have og := og2
    clear og2
    have p00 := (KG.out.cell 0).trans (show _ = some (Value.int .i64 (plainN a0 z1)) from rfl)
    have p01 := (KG.out.cell 1).trans (show _ = some (Value.slice Ag ng cg) from rfl)
    go_wp2_with fail
    refine (heldNet_any (plainN a0 z1) Ag ng cg 1 _ (OwnA.arcs og) (by omega) (by omega)).mono ?_
    rw [← HKM.out]
    rintro e w14 ⟨rfl, b⟩
    clear p00 p01
    replace ow := OwnC.below ow b
    replace og := OwnC.below og b
    replace KW := Lib.hid (KW.out.ext b)
    replace KG := Lib.hid (KG.out.ext b)
    replace g1 := g1.below b
    replace bb := ext_trans bb b
    clear b
    go_wp2_with fail
    refine (toArcS_any _ _ _ z1 _ g1 big1).mono ?_
    rintro e w15 ⟨Aq, cq, rfl, oq, b⟩
    have s_w_q := sepC ow oq
    have s_g_q := sepC og oq
    have t_q_W := Lib.hid (fun ad (ha : Aq = some ad) => (show ad.block ≠ w3.heap.size from by have h2 := (OwnC.lt oq ha).1; have h3 := KW.out.lt; omega))
    have t_q_G := Lib.hid (fun ad (ha : Aq = some ad) => (show ad.block ≠ w6.heap.size from by have h2 := (OwnC.lt oq ha).1; have h3 := KG.out.lt; omega))
    replace oq := OwnC.low oq bb.size
    replace ow := OwnC.below ow b
    replace og := OwnC.below og b
    replace KW := Lib.hid (KW.out.ext b)
    replace KG := Lib.hid (KG.out.ext b)
    replace g1 := g1.below b
    replace bb := ext_trans bb b
    clear b
    go_wp2_with fail
    refine (implPlainNet_r a0 Aq n1 cq z1 _ (OwnA.arcs oq) big1).mono ?_
    rintro e w16 ⟨Ah, nh, ch, rfl, oh, b⟩
    have lh : nh ≤ 1048576 := by have h2 := OwnA.len oh; have h3 := plainA_le a0 z1; have h4 := g1.len; omega
    have hbh : nh ≤ maxLen := by unfold maxLen; omega
    have s_w_h := sepC ow oh
    have s_g_h := sepC og oh
    have s_q_h := sepC oq oh
    have t_h_W := Lib.hid (fun ad (ha : Ah = some ad) => (show ad.block ≠ w3.heap.size from by have h2 := (OwnC.lt oh ha).1; have h3 := KW.out.lt; omega))
    have t_h_G := Lib.hid (fun ad (ha : Ah = some ad) => (show ad.block ≠ w6.heap.size from by have h2 := (OwnC.lt oh ha).1; have h3 := KG.out.lt; omega))
    replace oh := OwnC.low oh bb.size
    replace ow := OwnC.below ow b
    replace og := OwnC.below og b
    replace oq := OwnC.below oq b
    replace KW := Lib.hid (KW.out.ext b)
    replace KG := Lib.hid (KG.out.ext b)
    replace g1 := g1.below b
    replace bb := ext_trans bb b
    clear b
    have t_w_H := Lib.hid (fun ad (ha : Aw = some ad) => (show ad.block ≠ w16.heap.size from by have h2 := (OwnC.lt ow ha).2; omega))
    have t_g_H := Lib.hid (fun ad (ha : Ag = some ad) => (show ad.block ≠ w16.heap.size from by have h2 := (OwnC.lt og ha).2; omega))
    have t_q_H := Lib.hid (fun ad (ha : Aq = some ad) => (show ad.block ≠ w16.heap.size from by have h2 := (OwnC.lt oq ha).2; omega))
    have t_h_H := Lib.hid (fun ad (ha : Ah = some ad) => (show ad.block ≠ w16.heap.size from by have h2 := (OwnC.lt oh ha).2; omega))
    replace ow := OwnC.alloc ow (.cells #[.int .i64 (plainN a0 z1), .slice Ah nh ch] 26)
    replace og := OwnC.alloc og (.cells #[.int .i64 (plainN a0 z1), .slice Ah nh ch] 26)
    replace oq := OwnC.alloc oq (.cells #[.int .i64 (plainN a0 z1), .slice Ah nh ch] 26)
    replace oh := OwnC.alloc oh (.cells #[.int .i64 (plainN a0 z1), .slice Ah nh ch] 26)
    replace KW := Lib.hid (KW.out.alloc (.cells #[.int .i64 (plainN a0 z1), .slice Ah nh ch] 26))
    replace KG := Lib.hid (KG.out.alloc (.cells #[.int .i64 (plainN a0 z1), .slice Ah nh ch] 26))
    have KH := Lib.hid (Blk.new w16 26 #[.int .i64 (plainN a0 z1), .slice Ah nh ch])
    replace g1 := g1.alloc (.cells #[.int .i64 (plainN a0 z1), .slice Ah nh ch] 26)
    replace bb := bb.alloc bb.size (.cells #[.int .i64 (plainN a0 z1), .slice Ah nh ch] 26)
    have p00 := (KH.out.cell 0).trans (show _ = some (Value.int .i64 (plainN a0 z1)) from rfl)
    have p01 := (KH.out.cell 1).trans (show _ = some (Value.slice Ah nh ch) from rfl)
    have p10 := (KW.out.cell 0).trans (show _ = some (Value.int .i64 (plainN a0 z1)) from rfl)
    have p11 := (KW.out.cell 1).trans (show _ = some (Value.slice Aw nw cw) from rfl)
    go_wp2_with fail
    generalize w16.alloc (.cells #[.int .i64 (plainN a0 z1), .slice Ah nh ch] 26) = w17 at *
    clear oq
    refine (eqNet_same (plainN a0 z1) Ah Aw nh ch nw cw (plainA a0 z1) _ (OwnA.arcs oh) (OwnA.arcs ow) hbh).mono ?_
    rintro e w18 ⟨rfl, b⟩
    clear p00 p01 p10 p11
    replace ow := OwnC.below ow b
    replace og := OwnC.below og b
    replace oh := OwnC.below oh b
    replace KW := Lib.hid (KW.out.ext b)
    replace KG := Lib.hid (KG.out.ext b)
    replace KH := Lib.hid (KH.out.ext b)
    replace g1 := g1.below b
    replace bb := ext_trans bb b
    clear b
    have p00 := (KG.out.cell 0).trans (show _ = some (Value.int .i64 (plainN a0 z1)) from rfl)
    have p01 := (KG.out.cell 1).trans (show _ = some (Value.slice Ag ng cg) from rfl)
    go_wp2_with fail
    refine (heldNet_any (plainN a0 z1) Ag ng cg 1 _ (OwnA.arcs og) (by omega) (by omega)).mono ?_
    rw [← HKM.out]
    rintro e w19 ⟨rfl, b⟩
    clear p00 p01
    replace ow := OwnC.below ow b
    replace og := OwnC.below og b
    replace oh := OwnC.below oh b
    replace KW := Lib.hid (KW.out.ext b)
    replace KG := Lib.hid (KG.out.ext b)
    replace KH := Lib.hid (KH.out.ext b)
    replace g1 := g1.below b
    replace bb := ext_trans bb b
    clear b
    go_wp2
    go_ret
    exact ⟨rfl, bb⟩
  · go_enter Try.func3, Try.ntmps3
    go_wp2_with fail
    refine (szArcS_no A1 n1 c1 1048576 _ (by omega) (by omega) (by omega) HM1.out).mono ?_
    rintro e w1 ⟨rfl, b⟩
    go_wp2_with fail
    go_ret
    exact ⟨rfl, b⟩
end Go.Proofs.Ytefplmkffbcgfaa
