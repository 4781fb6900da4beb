/- The walk of the law FnCircles. -/
import Derived.Test.YtnjipckpkcandaaCirC
import Derived.Test.YtnjipckpkcandaaCirS
import Derived.Test.YtnjipckpkcandaaCirW
import Derived.Test.YtnjipckpkcandaaB10
namespace Go.Proofs.Ytnjipckpkcandaa
open Go.RowKit
theorem run_toD (n : Int) (w : World) : (convert 2 27 (.int .i64 n)).run Try.prog w = .ok (.float .f64 (Cir.ofI n)) w := by
  simp [convert, run_underlying Try.underlying2, run_underlying Try.underlying27, Conv.intToFloat]
  rfl
theorem run_toF (n : Int) (w : World) : (convert 2 28 (.int .i64 n)).run Try.prog w = .ok (.float .f32 (Cir.ofI32 n)) w := by
  simp [convert, run_underlying Try.underlying2, run_underlying Try.underlying28, Conv.intToFloat]
  rfl
/-- all that the law asks of circles -/
structure CirF (a b ta tb tc p1 p2 q1 q2 r1 r2 z1 z2 an anw sc tn y : Nat) (wh : Int) (g x xw g2 : Nat) : Prop where
  qa : floatBits .quo .f64 (Cir.ofI ((a : Int) - 128)) 4634204016564240384 = some ta
  qb : floatBits .quo .f64 (Cir.ofI ((b : Int) - 128)) 4634204016564240384 = some tb
  qc : floatBits .quo .f64 (Cir.ofI ((a : Int) - 128 + ((b : Int) - 128))) 4634204016564240384 = some tc
  pa : ∀ w : World, Calls Try.prog 7 #[.float .f64 ta] w fun e w' => e = .returned (.complex .f32 p1 p2) ∧ w = w'
  pb : ∀ w : World, Calls Try.prog 7 #[.float .f64 tb] w fun e w' => e = .returned (.complex .f32 q1 q2) ∧ w = w'
  pc : ∀ w : World, Calls Try.prog 7 #[.float .f64 tc] w fun e w' => e = .returned (.complex .f32 r1 r2) ∧ w = w'
  ang : ∀ w : World, Calls Try.prog 8 #[.complex .f32 p1 p2] w fun e w' => e = .returned (.float .f32 an) ∧ w = w'
  mul : ∀ w : World, Calls Try.prog 12 #[.complex .f32 p1 p2, .complex .f32 q1 q2] w fun e w' => e = .returned (.complex .f32 z1 z2) ∧ w = w'
  near : ∀ w : World, Calls Try.prog 11 #[.complex .f32 z1 z2, .complex .f32 r1 r2, .float .f64 4547007122018943789] w fun e w' => e = .returned (.bool true) ∧ w = w'
  wA : Cir.gen.wid an = some anw
  mA : floatBits .mul .f64 anw 4634204016564240384 = some sc
  sA : floatBits .sub .f64 sc (Cir.ofI ((a : Int) - 128)) = some tn
  yA : floatBits .add .f64 tn 4666723447345250304 = some y
  iA : floatToIntVal .f64 y .i64 = some wh
  lo : 0 ≤ wh
  hi : wh < 20000
  rem : (wh - 10000).tmod 64 = 0
  gap : ∀ w : World, Calls Try.prog 9 #[.float .f64 tn, .float .f64 (Cir.ofI (wh - 10000))] w fun e w' => e = .returned (.float .f64 g) ∧ w = w'
  gt : (FloatKind.f64.format.order g 4562254508917369340 == some .gt) = false
  pow : ∀ w : World, Calls Try.prog 10 #[.complex .f32 p1 p2] w fun e w' => e = .returned (.float .f32 x) ∧ w = w'
  wX : Cir.gen.wid x = some xw
  gap2 : ∀ w : World, Calls Try.prog 9 #[.float .f64 xw, .float .f64 4607182418800017408] w fun e w' => e = .returned (.float .f64 g2) ∧ w = w'
  gt2 : (FloatKind.f64.format.order g2 4547007122018943789 == some .gt) = false
  four : ((a : Int) - 128).tmod 16 = 0 → ∃ pw g4, Cir.gen.wid p1 = some pw ∧ (∀ w : World, Calls Try.prog 9 #[.float .f64 pw, .float .f64 0] w fun e w' => e = .returned (.float .f64 g4) ∧ w = w') ∧ ((FloatKind.f64.format.order g4 0 != some .eq) = false ∨ (FloatKind.f64.format.order g4 4607182418800017408 != some .eq) = false)
theorem cirF_at {a b : Nat} (ha : a < 256) (hb : b < 256) : ∃ ta tb tc p1 p2 q1 q2 r1 r2 z1 z2 an anw sc tn y wh g x xw g2, CirF a b ta tb tc p1 p2 q1 q2 r1 r2 z1 z2 an anw sc tn y wh g x xw g2 := by
  obtain ⟨ta, qa, pa⟩ := phasor_at (k := a + 128) (by omega)
  obtain ⟨tb, qb, pb⟩ := phasor_at (k := b + 128) (by omega)
  obtain ⟨tc, qc, pc⟩ := phasor_at (k := a + b) (by omega)
  obtain ⟨m, hm, hn⟩ := Cir.near_at (i := (a + 128) % 64) (j := (b + 128) % 64) (by omega) (by omega)
  rw [show ((a + 128) % 64 + (b + 128) % 64) % 64 = (a + b) % 64 by omega] at hn
  obtain ⟨tn, wh, g, ht, hw, w1, w2, w3, hg, hgt⟩ := Cir.turn_at ha
  obtain ⟨x, xw, g2, hx, hxw, hg2, hgt2⟩ := Cir.pow_at (i := (a + 128) % 64) (by omega)
  unfold Cir.turnO at ht
  obtain ⟨anw, t1, ht⟩ := Option.bind_eq_some_iff.1 ht
  obtain ⟨sc, t2, ht⟩ := Option.bind_eq_some_iff.1 ht
  rw [show a % 64 = (a + 128) % 64 by omega] at t1
  unfold Cir.wholeO at hw
  obtain ⟨y, t3, hw⟩ := Option.bind_eq_some_iff.1 hw
  refine ⟨ta, tb, tc, _, _, _, _, _, _, m.1, m.2, _, anw, sc, tn, y, wh, g, x, xw, g2, ?_, ?_, ?_, pa, pb, pc, fun w => angle_at (by omega) w, fun w => mulC_any _ _ _ hm w, fun w => near_any _ _ hn w, t1, t2, ht, t3, hw, w1, w2, w3, fun w => gap_any _ _ _ hg w, hgt, fun w => power_any _ _ hx w, hxw, fun w => gap_any _ _ _ hg2 w, hgt2, ?_⟩
  · rw [show (a : Int) - 128 = ((a + 128 : Nat) : Int) - 256 by omega]; exact qa
  · rw [show (b : Int) - 128 = ((b + 128 : Nat) : Int) - 256 by omega]; exact qb
  · rw [show (a : Int) - 128 + ((b : Int) - 128) = ((a + b : Nat) : Int) - 256 by omega]; exact qc
  · intro h16
    obtain ⟨i, hi, e⟩ : ∃ i, i < 4 ∧ (a + 128) % 64 = 16 * i := ⟨(a + 128) % 64 / 16, by omega, by
      have : (16 : Int) ∣ (a : Int) - 128 := Int.dvd_of_tmod_eq_zero h16
      omega⟩
    obtain ⟨pw, g4, h1, h2, h3⟩ := Cir.four_at hi
    rw [e]
    refine ⟨pw, g4, h1, fun w => gap_any _ _ _ h2 w, ?_⟩
    rcases h3 with h3 | h3
    · exact Or.inl (by rw [bne]; exact congrArg not h3)
    · exact Or.inr (by rw [bne]; exact congrArg not h3)
theorem one_i_at (w : World) : Calls Try.prog 8 #[.complex .f32 0 1065353216] w fun e w' => e = .returned (.float .f32 1048576000) ∧ w = w' := angle_at (i := 16) (by omega) w

set_option maxRecDepth 100000 in
set_option maxHeartbeats 1600000 in
theorem walk_Circles (A0 : Option Addr) (n0 c0 : Nat) (A1 : Option Addr) (n1 c1 : Nat) (w : World) (h0 : BytesAt w A0 n0) (m0 : n0 ≤ maxLen) (h1 : BytesAt w A1 n1) (m1 : n1 ≤ maxLen) :
    Calls Try.prog 3 #[.slice A0 n0 c0, .slice A1 n1 c1] w fun e w' => e = .returned (.bool true) ∧ Below w.heap.size w w' := by
  have bb := Below.refl w.heap.size w
  by_cases hlong : (decide (1048576 < n0) || decide (1048576 < n1)) = true
  · have HX := Lib.hid hlong
    clear hlong
    go_enter Try.func3, Try.ntmps3
    go_wp2_with (go_at_call 5; refine (b10Long_any _ _ _ _ _ _ _ m0 m1).mono ?_; rw [HX.out]; rintro e w1 ⟨rfl, rfl⟩)
    go_ret
    exact ⟨rfl, bb⟩
  · rw [Bool.not_eq_true] at hlong
    have HX := Lib.hid hlong
    clear hlong
    have cD := fun (n : Int) (W : World) => run_toD n W
    have cF := fun (n : Int) (W : World) => run_toF n W
    go_enter Try.func3, Try.ntmps3
    go_wp2_with fail
    refine (b10Long_any _ _ _ _ _ _ _ m0 m1).mono ?_
    rw [HX.out]
    rintro e w1 ⟨rfl, rfl⟩
    go_wp2_with fail
    refine (b10At_any _ _ _ _ _ _ h0 m0 (by omega) (by omega) (by omega)).mono ?_
    rintro e w1 ⟨⟨a, rfl, ha⟩, rfl⟩
    have ha : a < 256 := by omega
    go_wp2_with fail
    refine (b10At_any _ _ _ _ _ _ h0 m0 (by omega) (by omega) (by omega)).mono ?_
    rintro e w1 ⟨⟨b, rfl, hb⟩, rfl⟩
    have hb : b < 256 := by omega
    go_wp2_with fail
    obtain ⟨ta, tb, tc, p1, p2, q1, q2, r1, r2, z1, z2, an, anw, sc, tn, y, wh, g, x, xw, g2, hF⟩ := cirF_at ha hb
    have F := Lib.hid hF
    clear hF
    have ra := fun W => run_f64 (P := Try.prog) 27 F.out.qa W
    have rb := fun W => run_f64 (P := Try.prog) 27 F.out.qb W
    have rc := fun W => run_f64 (P := Try.prog) 27 F.out.qc W
    have rd := fun W => run_widC F.out.wA W
    have re := fun W => run_f64 (P := Try.prog) 27 F.out.mA W
    have rf := fun W => run_f64 (P := Try.prog) 27 F.out.sA W
    have rg := fun W => run_f64 (P := Try.prog) 27 F.out.yA W
    have rh := fun W => run_convert_float_int (P := Try.prog) W 27 2 .f64 .i64 y wh (by kernel_rfl) Try.underlying2 F.out.iA
    have ri := fun W => run_widC F.out.wX W
    have d1 := F.out.gt
    have d2 := F.out.gt2
    have lo := F.out.lo
    have hi := F.out.hi
    go_simp
    go_wp2_with fail
    refine (F.out.pa _).mono ?_
    rintro e w1 ⟨rfl, rfl⟩
    go_wp2_with fail
    refine (F.out.pb _).mono ?_
    rintro e w1 ⟨rfl, rfl⟩
    go_wp2_with fail
    refine (F.out.pc _).mono ?_
    rintro e w1 ⟨rfl, rfl⟩
    go_wp2_with fail
    refine (F.out.ang _).mono ?_
    rintro e w1 ⟨rfl, rfl⟩
    go_wp2_with fail
    refine (F.out.pow _).mono ?_
    rintro e w1 ⟨rfl, rfl⟩
    go_wp2_with fail
    refine (F.out.gap2 _).mono ?_
    rintro e w1 ⟨rfl, rfl⟩
    go_wp2_with fail
    refine (F.out.mul _).mono ?_
    rintro e w1 ⟨rfl, rfl⟩
    go_wp2_with fail
    refine (F.out.near _).mono ?_
    rintro e w1 ⟨rfl, rfl⟩
    have hrm := F.out.rem
    go_wp2_with fail
    refine (F.out.gap _).mono ?_
    rintro e w1 ⟨rfl, rfl⟩
    by_cases h16 : ((a : Int) - 128).tmod 16 = 0
    · obtain ⟨pw, g4, w4, c4, h4⟩ := F.out.four h16
      have C4 := fun w => Lib.hid (c4 w)
      have H4 := Lib.hid h4
      clear c4 h4
      have rj := fun W => run_widC w4 W
      have e16 : (((a : Int) - 128).tmod 16 == 0) = true := by rw [h16]; rfl
      clear h16
      cases e0 : (FloatKind.f64.format.order g4 0 != some .eq)
      · go_wp2_with fail
        refine (C4 _).out.mono ?_
        rintro e w1 ⟨rfl, rfl⟩
        go_wp2_with fail
        clear ra rb rc rd re rf rg rh ri d1 d2 lo hi hrm F
        refine (b10At_any _ _ _ _ _ _ h1 m1 (by omega) (by omega) (by omega)).mono ?_
        rintro e w1 ⟨⟨i, rfl, hi⟩, rfl⟩
        have hi : i < 200 := by omega
        obtain ⟨x3, hx⟩ : ∃ x, x = Cir.x32 (8 * (i + 1)) := ⟨_, rfl⟩
        have rk := fun W => run_f32 (P := Try.prog) 28 (show floatBits .quo .f32 (Cir.ofI32 ((1 : Int) + (i : Int))) 1090519040 = some x3 by rw [hx]; exact (Cir.eig_at hi).2) W
        have HXX := Lib.hid hx
        clear hx
        go_wp2_with fail
        refine (b10At_any _ _ _ _ _ _ h1 m1 (by omega) (by omega) (by omega)).mono ?_
        rintro e w1 ⟨⟨j, rfl, hj⟩, rfl⟩
        have hj : j < 200 := by omega
        obtain ⟨xy, m, n, o, hT⟩ := tenF_at hi hj
        rw [← HXX.out] at hT
        generalize Cir.x32 (8 * (j + 1)) = y3 at hT
        have T := Lib.hid hT
        have rl := fun W => run_f32 (P := Try.prog) 28 (show floatBits .quo .f32 (Cir.ofI32 ((1 : Int) + (j : Int))) 1090519040 = some y3 from hT.qy) W
        have rm := fun W => run_f32 (P := Try.prog) 28 (show floatBits .mul .f32 x3 y3 = some xy from hT.mul) W
        have l1 := hT.bm.1
        have l2 := hT.bm.2
        have l3 := hT.bn.1
        have l4 := hT.bn.2
        have l5 := hT.bo.1
        have l6 := hT.bo.2
        have l7 := hT.le
        have l8 := hT.ge
        clear hT
        go_wp2_with fail
        refine (T.out.tx _).mono ?_
        rintro e w1 ⟨rfl, rfl⟩
        go_wp2_with fail
        refine (T.out.ty _).mono ?_
        rintro e w1 ⟨rfl, rfl⟩
        go_wp2_with fail
        refine (T.out.txy _).mono ?_
        rintro e w1 ⟨rfl, rfl⟩
        go_wp2_with fail
        refine (ten_one_at _).mono ?_
        rintro e w1 ⟨rfl, rfl⟩
        go_wp2_with fail
        refine (one_i_at _).mono ?_
        rintro e w1 ⟨rfl, rfl⟩
        go_wp2_with fail
        refine (specSame_any _ _ (by decide) (by decide) _).mono ?_
        rw [show decide (bitsB 1048576000 = bitsB 0) = false by decide +kernel]
        rintro e w1 ⟨rfl, rfl⟩
        go_wp2_with fail
        go_ret
        exact ⟨rfl, bb⟩
      · have e1 : (FloatKind.f64.format.order g4 4607182418800017408 != some .eq) = false := by
          rcases H4.out with h | h
          · rw [e0] at h; cases h
          · exact h
        go_wp2_with fail
        refine (C4 _).out.mono ?_
        rintro e w1 ⟨rfl, rfl⟩
        go_wp2_with fail
        refine (C4 _).out.mono ?_
        rintro e w1 ⟨rfl, rfl⟩
        go_wp2_with fail
        clear ra rb rc rd re rf rg rh ri d1 d2 lo hi hrm F
        refine (b10At_any _ _ _ _ _ _ h1 m1 (by omega) (by omega) (by omega)).mono ?_
        rintro e w1 ⟨⟨i, rfl, hi⟩, rfl⟩
        have hi : i < 200 := by omega
        obtain ⟨x3, hx⟩ : ∃ x, x = Cir.x32 (8 * (i + 1)) := ⟨_, rfl⟩
        have rk := fun W => run_f32 (P := Try.prog) 28 (show floatBits .quo .f32 (Cir.ofI32 ((1 : Int) + (i : Int))) 1090519040 = some x3 by rw [hx]; exact (Cir.eig_at hi).2) W
        have HXX := Lib.hid hx
        clear hx
        go_wp2_with fail
        refine (b10At_any _ _ _ _ _ _ h1 m1 (by omega) (by omega) (by omega)).mono ?_
        rintro e w1 ⟨⟨j, rfl, hj⟩, rfl⟩
        have hj : j < 200 := by omega
        obtain ⟨xy, m, n, o, hT⟩ := tenF_at hi hj
        rw [← HXX.out] at hT
        generalize Cir.x32 (8 * (j + 1)) = y3 at hT
        have T := Lib.hid hT
        have rl := fun W => run_f32 (P := Try.prog) 28 (show floatBits .quo .f32 (Cir.ofI32 ((1 : Int) + (j : Int))) 1090519040 = some y3 from hT.qy) W
        have rm := fun W => run_f32 (P := Try.prog) 28 (show floatBits .mul .f32 x3 y3 = some xy from hT.mul) W
        have l1 := hT.bm.1
        have l2 := hT.bm.2
        have l3 := hT.bn.1
        have l4 := hT.bn.2
        have l5 := hT.bo.1
        have l6 := hT.bo.2
        have l7 := hT.le
        have l8 := hT.ge
        clear hT
        go_wp2_with fail
        refine (T.out.tx _).mono ?_
        rintro e w1 ⟨rfl, rfl⟩
        go_wp2_with fail
        refine (T.out.ty _).mono ?_
        rintro e w1 ⟨rfl, rfl⟩
        go_wp2_with fail
        refine (T.out.txy _).mono ?_
        rintro e w1 ⟨rfl, rfl⟩
        go_wp2_with fail
        refine (ten_one_at _).mono ?_
        rintro e w1 ⟨rfl, rfl⟩
        go_wp2_with fail
        refine (one_i_at _).mono ?_
        rintro e w1 ⟨rfl, rfl⟩
        go_wp2_with fail
        refine (specSame_any _ _ (by decide) (by decide) _).mono ?_
        rw [show decide (bitsB 1048576000 = bitsB 0) = false by decide +kernel]
        rintro e w1 ⟨rfl, rfl⟩
        go_wp2_with fail
        go_ret
        exact ⟨rfl, bb⟩
    · have e16 : (((a : Int) - 128).tmod 16 == 0) = false := beq_eq_false_iff_ne.2 h16
      clear h16
      go_wp2_with fail
      clear ra rb rc rd re rf rg rh ri d1 d2 lo hi hrm F
      refine (b10At_any _ _ _ _ _ _ h1 m1 (by omega) (by omega) (by omega)).mono ?_
      rintro e w1 ⟨⟨i, rfl, hi⟩, rfl⟩
      have hi : i < 200 := by omega
      obtain ⟨x3, hx⟩ : ∃ x, x = Cir.x32 (8 * (i + 1)) := ⟨_, rfl⟩
      have rk := fun W => run_f32 (P := Try.prog) 28 (show floatBits .quo .f32 (Cir.ofI32 ((1 : Int) + (i : Int))) 1090519040 = some x3 by rw [hx]; exact (Cir.eig_at hi).2) W
      have HXX := Lib.hid hx
      clear hx
      go_wp2_with fail
      refine (b10At_any _ _ _ _ _ _ h1 m1 (by omega) (by omega) (by omega)).mono ?_
      rintro e w1 ⟨⟨j, rfl, hj⟩, rfl⟩
      have hj : j < 200 := by omega
      obtain ⟨xy, m, n, o, hT⟩ := tenF_at hi hj
      rw [← HXX.out] at hT
      generalize Cir.x32 (8 * (j + 1)) = y3 at hT
      have T := Lib.hid hT
      have rl := fun W => run_f32 (P := Try.prog) 28 (show floatBits .quo .f32 (Cir.ofI32 ((1 : Int) + (j : Int))) 1090519040 = some y3 from hT.qy) W
      have rm := fun W => run_f32 (P := Try.prog) 28 (show floatBits .mul .f32 x3 y3 = some xy from hT.mul) W
      have l1 := hT.bm.1
      have l2 := hT.bm.2
      have l3 := hT.bn.1
      have l4 := hT.bn.2
      have l5 := hT.bo.1
      have l6 := hT.bo.2
      have l7 := hT.le
      have l8 := hT.ge
      clear hT
      go_wp2_with fail
      refine (T.out.tx _).mono ?_
      rintro e w1 ⟨rfl, rfl⟩
      go_wp2_with fail
      refine (T.out.ty _).mono ?_
      rintro e w1 ⟨rfl, rfl⟩
      go_wp2_with fail
      refine (T.out.txy _).mono ?_
      rintro e w1 ⟨rfl, rfl⟩
      go_wp2_with fail
      refine (ten_one_at _).mono ?_
      rintro e w1 ⟨rfl, rfl⟩
      go_wp2_with fail
      refine (one_i_at _).mono ?_
      rintro e w1 ⟨rfl, rfl⟩
      go_wp2_with fail
      refine (specSame_any _ _ (by decide) (by decide) _).mono ?_
      rw [show decide (bitsB 1048576000 = bitsB 0) = false by decide +kernel]
      rintro e w1 ⟨rfl, rfl⟩
      go_wp2_with fail
      go_ret
      exact ⟨rfl, bb⟩
end Go.Proofs.Ytnjipckpkcandaa
