/- The walk of the law FnProducts. -/
import Derived.Test.YtnjipckpkcandaaDoorProdF
import Derived.Test.YtnjipckpkcandaaDoorB10
namespace Go.Proofs.YtnjipckpkcandaaDoor
open Go.RowKit
theorem eqF_o {a b : Nat} (h : Who.eqF a b = true) : FloatKind.f32.format.order a b = some .eq := eq_of_beq h
theorem run_cadd {P : Program} (t : TypeId) (a b r s : Nat) (h1 : floatBits .add .f32 a a = some r) (h2 : floatBits .add .f32 b b = some s) (w : World) : (binOp .add t (.complex .f32 a b) (.complex .f32 a b)).run P w = .ok (.complex .f32 r s) w := by
  have h1 : FloatKind.f32.format.add a a = some r := h1
  have h2 : FloatKind.f32.format.add b b = some s := h2
  simp [binOp, Op.complexOp, Op.Complex.arith, Op.floatArith, h1, h2]
set_option maxRecDepth 100000 in
set_option maxHeartbeats 3200000 in
theorem walk_Products (A0 : Option Addr) (n0 c0 : Nat) (A1 : Option Addr) (n1 c1 : Nat) (w : World) (h0 : BytesAt w A0 n0) (m0 : n0 ≤ maxLen) (h1 : BytesAt w A1 n1) (m1 : n1 ≤ maxLen) :
    Calls Tryd.prog 3 #[.slice A0 n0 c0, .slice A1 n1 c1] w fun e w' => e = .returned (.bool true) ∧ Below w.heap.size w w' := by
  have bb := Below.refl w.heap.size w
  by_cases hlong : (decide (1048576 < n0) || decide (1048576 < n1)) = true
  · have HX := Lib.hid hlong
    clear hlong
    go_enter Tryd.func3, Tryd.ntmps3
    go_wp2_with (go_at_call 4; refine (b10Long_any _ _ _ _ _ _ _ m0 m1).mono ?_; rw [HX.out]; rintro e w1 ⟨rfl, rfl⟩)
    go_ret
    exact ⟨rfl, bb⟩
  · rw [Bool.not_eq_true] at hlong
    have HX := Lib.hid hlong
    clear hlong
    have cF := fun (n : Int) (W : World) => run_toF32 n W
    go_enter Tryd.func3, Tryd.ntmps3
    go_wp2_with fail
    refine (b10Long_any _ _ _ _ _ _ _ m0 m1).mono ?_
    rw [HX.out]
    rintro e w1 ⟨rfl, rfl⟩
    go_wp2_with fail
    refine (b10Whole_any _ _ _ _ h0 m0).mono ?_
    rintro e w1 ⟨S, sc, za, x, y, rfl, own, ia, hx, hy, hb⟩
    have q0 := own.cell (j := 0) (by omega)
    replace q0 : w1.cell? ⟨S, 0, none⟩ = some (.complex .f32 za.1 za.2) := q0
    have IA := Lib.hid ia
    replace h0 := h0.below hb
    replace h1 := h1.below hb
    replace bb := hb
    clear ia own hb
    go_wp2_with fail
    refine (b10Whole_any _ _ _ _ h1 m1).mono ?_
    rintro e w2 ⟨S2, sc2, zb, u, v, rfl, own, ib, hu, hv, hb⟩
    have q1 := own.cell (j := 0) (by omega)
    replace q1 : w2.cell? ⟨S2, 0, none⟩ = some (.complex .f32 zb.1 zb.2) := q1
    replace h0 := h0.below hb
    replace h1 := h1.below hb
    replace bb := ext_trans bb hb
    obtain ⟨r1, r2, s1, s2, k, l, m1', m2, z, qq1, qq2, d1, d2, e1, e2, hF⟩ := prodF_at IA.out ib hx hy hu hv
    obtain ⟨a1, a2⟩ := za
    obtain ⟨b1, b2⟩ := zb
    dsimp only at q1 hF
    have F := Lib.hid hF
    clear ib own hb q0 hx hy hu hv IA
    have ra := fun W => run_convert_float_int (P := Tryd.prog) W 28 2 .f32 .i64 a1 x (by kernel_rfl) Tryd.underlying2 hF.xa
    have rb := fun W => run_convert_float_int (P := Tryd.prog) W 28 2 .f32 .i64 a2 y (by kernel_rfl) Tryd.underlying2 hF.ya
    have rc := fun W => run_convert_float_int (P := Tryd.prog) W 28 2 .f32 .i64 b1 u (by kernel_rfl) Tryd.underlying2 hF.ub
    have rd := fun W => run_convert_float_int (P := Tryd.prog) W 28 2 .f32 .i64 b2 v (by kernel_rfl) Tryd.underlying2 hF.vb
    clear hF
    go_wp2_with fail
    refine (F.out.mul _).mono ?_
    rintro e w3 ⟨rfl, rfl⟩
    clear q1
    obtain ⟨g1, g2⟩ := F.out.b11
    obtain ⟨g3, g4⟩ := F.out.b12
    obtain ⟨g5, g6⟩ := F.out.b21
    obtain ⟨g7, g8⟩ := F.out.b22
    obtain ⟨g9, g10⟩ := F.out.bxx
    obtain ⟨g11, g12⟩ := F.out.byy
    have o1 := eqF_o F.out.e1
    have o2 := eqF_o F.out.e2
    have o3 := eqF_o F.out.e3
    have o4 := eqF_o F.out.e4
    have o5 := eqF_o F.out.e5
    have o6 := eqF_o F.out.e6
    have o7 := eqF_o F.out.e7
    go_wp2_with fail
    refine (F.out.mul2 _).mono ?_
    rintro e w4 ⟨rfl, rfl⟩
    go_wp2_with fail
    refine (F.out.pow _).mono ?_
    rintro e w4 ⟨rfl, rfl⟩
    go_wp2_with fail
    refine (F.out.conj _).mono ?_
    rintro e w4 ⟨rfl, rfl⟩
    go_wp2_with fail
    refine (F.out.mul3 _).mono ?_
    rintro e w4 ⟨rfl, rfl⟩
    go_wp2_with fail
    refine (F.out.long _).mono ?_
    rintro e w4 ⟨rfl, rfl⟩
    go_wp2_with fail
    refine (F.out.root _).mono ?_
    rintro e w4 ⟨rfl, rfl⟩
    go_wp2_with fail
    refine (F.out.same _).mono ?_
    rintro e w4 ⟨rfl, rfl⟩
    have o9 := eqF_o F.out.e9
    have o10 := eqF_o F.out.e10
    have re := fun W => run_cadd (P := Tryd.prog) 24 a1 a2 e1 e2 F.out.ad1 F.out.ad2 W
    have bbH := Lib.hid bb
    have h0H := Lib.hid h0
    have h1H := Lib.hid h1
    clear bb h0 h1
    go_upto_region 11 with (fail)
    go_cut [136] (fun s136 wx => s136 = .bool false ∧ wx = w2)
    case first =>
      by_cases hnz : (Who.eqF b1 0 && Who.eqF b2 0) = true
      · rw [Bool.and_eq_true] at hnz
        have p1 := eqF_o hnz.1
        have p2 := eqF_o hnz.2
        clear hnz
        go_wp2_with fail
        refine (F.out.scale _).mono ?_
        rintro e w4 ⟨rfl, rfl⟩
        go_wp2_with fail
        go_meet
        exact ⟨rfl, rfl⟩
      · rw [Bool.not_eq_true] at hnz
        have Q := fun W => Lib.hid (F.out.quo hnz W)
        have o11 := eqF_o (F.out.e8 hnz).1
        have o12 := eqF_o (F.out.e8 hnz).2
        have hne : ¬ FloatKind.f32.format.order b1 0 = some .eq ∨ ¬ FloatKind.f32.format.order b2 0 = some .eq := by
          by_cases g1 : FloatKind.f32.format.order b1 0 = some .eq
          · right
            intro g2
            have e1 : Who.eqF b1 0 = true := by unfold Who.eqF; rw [g1]; rfl
            have e2 : Who.eqF b2 0 = true := by unfold Who.eqF; rw [g2]; rfl
            rw [e1, e2] at hnz
            cases hnz
          · exact Or.inl g1
        clear hnz
        go_wp2_with fail
        refine (Q _).out.mono ?_
        rintro e w4 ⟨rfl, rfl⟩
        go_wp2_with fail
        refine (F.out.scale _).mono ?_
        rintro e w4 ⟨rfl, rfl⟩
        go_wp2_with fail
        go_meet
        exact ⟨rfl, rfl⟩
    case rest =>
      obtain ⟨rfl, rfl⟩ := hcut
      have h0 := h0H.out
      have h1 := h1H.out
      clear ra rb rc rd re o1 o2 o3 o4 o5 o6 o7 o9 o10 g1 g2 g3 g4 g5 g6 g7 g8 g9 g10 g11 g12 F
      go_wp2_with fail
      refine (b10At_any _ _ _ _ _ _ h0 m0 (by omega) (by omega) (by omega)).mono ?_
      rintro e w3 ⟨⟨i, rfl, hi⟩, rfl⟩
      have hi : i < 9 := by omega
      go_wp2_with fail
      refine (b10Any_any _ _ _ i _ h1 m1 (by omega)).mono ?_
      rintro e w4 ⟨T, tc, zs, rfl, own, hf, hb⟩
      replace h0 := h0.below hb
      have bb := ext_trans bbH.out hb
      have HF := Lib.hid hf
      have HO := Lib.hid own
      clear h1 bbH hf own hb h0H h1H
      go_wp2_with fail
      refine (complexText_any T i tc _ zs _ HO.out HF.out (by omega)).mono ?_
      rintro e w5 ⟨rfl, hb⟩
      replace h0 := h0.below hb
      replace bb := ext_trans bb hb
      replace HO := Lib.hid (HO.out.below hb)
      clear hb
      go_wp2_with fail
      have hzl : zs.length = i := by have := OwnC.len HO.out; rw [List.length_map] at this; omega
      refine (readComplex_any zs HF.out (by omega) _).mono ?_
      rintro e w6 ⟨R, rc, rfl, own2, hb⟩
      rw [hzl] at own2 ⊢
      have HO2 := Lib.hid own2
      clear own2
      replace h0 := h0.below hb
      replace bb := ext_trans bb hb
      replace HO := Lib.hid (HO.out.below hb)
      clear hb hzl
      go_wp2_with fail
      refine (b10Number_any _ _ _ _ h0 m0).mono ?_
      rintro e w7 ⟨zn, rfl, hzn, hb⟩
      replace h0 := h0.below hb
      replace bb := ext_trans bb hb
      replace HO := Lib.hid (HO.out.below hb)
      replace HO2 := Lib.hid (HO2.out.below hb)
      clear hb
      have hzb := bitsB_lt hzn
      have HBB := Lib.hid (bitsB_bitsB zn)
      have BO := fun W => Lib.hid (implBits_any zn hzn W)
      generalize hG : bitsB zn = zb at *
      have HG := Lib.hid hG
      clear hG
      go_wp2_with fail
      refine (BO _).out.mono ?_
      rintro e w8 ⟨rfl, rfl⟩
      go_wp2_with fail
      refine (implFromBits_any zb hzb _).mono ?_
      rintro e w8 ⟨rfl, rfl⟩
      go_wp2_with fail
      refine (b10Complex_any _ _ _ _ h0 m0).mono ?_
      rintro e w8 ⟨p1, p2, rfl, hp1, hp2, hb⟩
      replace bb := ext_trans bb hb
      replace HO := Lib.hid (HO.out.below hb)
      replace HO2 := Lib.hid (HO2.out.below hb)
      clear hb h0
      go_upto_region 19 with (fail)
      go_wp2_with (first | (refine wp_widA _ rfl _ _ _ rfl (by kernel_rfl) Tryd.underlying46 p1 hp1 rfl ?_; intro D w9 hN9 hD9) | (refine wp_widA _ rfl _ _ _ rfl (by kernel_rfl) Tryd.underlying46 p2 hp2 rfl ?_; intro E w10 hN10 hD10))
      have HN9 := Lib.hid hN9
      have HN10 := Lib.hid hN10
      replace bb := ext_trans (ext_trans bb hD9.below) hD10.below
      replace HO := Lib.hid ((HO.out.below hD9.below).below hD10.below)
      replace HO2 := Lib.hid ((HO2.out.below hD9.below).below hD10.below)
      clear hD9 hD10 hN9 hN10
      refine (b10Same_any R T i rc tc _ _ zs _ HO2.out HO.out HF.out (by omega)).mono ?_
      rintro e w11 ⟨rfl, hd⟩
      replace bb := ext_trans bb hd.below
      clear hd HO HO2
      go_wp2_with fail
      refine (specSame_any zb zn hzb hzn _).mono ?_
      rw [HBB.out, HG.out, decide_eq_true rfl]
      rintro e w12 ⟨rfl, rfl⟩
      go_wp2_with fail
      refine (narrowC_any D E p1 p2 HN9.out HN10.out _).mono ?_
      rintro e w13 ⟨r, s, rfl, hr, hs, hd⟩
      replace bb := ext_trans bb hd.below
      have HR := Lib.hid hr
      have HS := Lib.hid hs
      clear hd hr hs
      go_wp2_with fail
      refine (implSameC_any (r, s) (p1, p2) HR.out HS.out _).mono ?_
      rintro e w14 ⟨rfl, rfl⟩
      go_wp2_with fail
      refine (conj_any (p1, p2) _).mono ?_
      rintro e w14 ⟨rfl, rfl⟩
      go_wp2_with fail
      refine (conj_any (p1, Op.negFloat .f32 p2) _).mono ?_
      rintro e w14 ⟨rfl, rfl⟩
      go_wp2_with fail
      refine (implSameC_any (p1, Op.negFloat .f32 (Op.negFloat .f32 p2)) (p1, p2) rfl (by rw [Who.neg_neg]) _).mono ?_
      rintro e w14 ⟨rfl, rfl⟩
      go_wp2_with fail
      refine (implFinC_any (p1, p2) _).mono ?_
      rintro e w14 ⟨rfl, hd⟩
      replace bb := ext_trans bb hd.below
      clear hd
      have FA := fun W => Lib.hid (specFin_any p1 W)
      have FB := fun W => Lib.hid (specFin_any p2 W)
      generalize finO (absK .f32 p1) = f1 at *
      generalize finO (absK .f32 p2) = f2 at *
      go_wp2_with fail
      refine (FA _).out.mono ?_
      rintro e w15 ⟨rfl, hd⟩
      replace bb := ext_trans bb hd.below
      clear hd
      cases f1
      · go_wp2_with fail
        go_ret
        exact ⟨rfl, bb⟩
      · go_wp2_with fail
        refine (FB _).out.mono ?_
        rintro e w16 ⟨rfl, hd⟩
        replace bb := ext_trans bb hd.below
        clear hd
        go_wp2_with fail
        go_ret
        exact ⟨by simp, bb⟩
end Go.Proofs.YtnjipckpkcandaaDoor
