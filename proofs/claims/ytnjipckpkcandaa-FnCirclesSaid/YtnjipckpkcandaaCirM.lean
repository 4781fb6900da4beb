/- Logarithms and tenths of decibels. -/
import Derived.Test.YtnjipckpkcandaaCirL
namespace Go.Proofs.Ytnjipckpkcandaa
open Go.RowKit

theorem angleOf_any (p : Nat × Nat) (r zx zy : Nat) (h : Cir.angO Cir.gen p.2 p.1 = some r) (hx1 : floatBits .sub .f32 p.1 p.1 = some zx) (hx2 : (FloatKind.f32.format.order zx 0 == some .eq) = true) (hy1 : floatBits .sub .f32 p.2 p.2 = some zy) (hy2 : (FloatKind.f32.format.order zy 0 == some .eq) = true)
    (hno : (FloatKind.f32.format.order p.1 0 == some .eq && FloatKind.f32.format.order p.2 0 == some .eq) = false) (w : World) :
    Calls Try.prog 8 #[.complex .f32 p.1 p.2] w fun e w' => e = .returned (.float .f32 r) ∧ w = w' := by
  have HA := Lib.hid (angle_any p.2 p.1 r zx zy h hx1 hx2 hy1 hy2 hno w)
  obtain ⟨x, y⟩ := p
  clear h hx1 hx2 hy1 hy2 hno
  go_enter Try.func8, Try.ntmps8
  go_wp2_with fail
  refine HA.out.mono ?_
  rintro e w1 ⟨rfl, rfl⟩
  go_wp2_with fail
  go_ret
  exact ⟨rfl, rfl⟩
set_option maxRecDepth 100000 in
set_option maxHeartbeats 3200000 in
theorem log_any (x r : Nat) (h : Cir.logO Cir.gen x = some r) (w : World) : Calls Try.prog 30 #[.float .f64 x] w fun e w' => e = .returned (.float .f64 r) ∧ w = w' := by
  unfold Cir.logO at h
  replace h := Option.bind_eq_some_iff.1 h
  obtain ⟨⟨x1, e1⟩, hd, h⟩ := h
  replace h := Option.bind_eq_some_iff.1 h
  obtain ⟨⟨x2, e2⟩, hu, h⟩ := h
  dsimp only at h hu
  replace h := Option.bind_eq_some_iff.1 h
  obtain ⟨a, ha, h⟩ := h
  replace h := Option.bind_eq_some_iff.1 h
  obtain ⟨b, hb, h⟩ := h
  replace h := Option.bind_eq_some_iff.1 h
  obtain ⟨s, hs, h⟩ := h
  replace h := Option.bind_eq_some_iff.1 h
  obtain ⟨u, huu, h⟩ := h
  replace h := Option.bind_eq_some_iff.1 h
  obtain ⟨qE, hq, h⟩ := h
  replace h := Option.bind_eq_some_iff.1 h
  obtain ⟨v1, hv1, h⟩ := h
  replace h := Option.bind_eq_some_iff.1 h
  obtain ⟨v2, hv2, h⟩ := h
  replace h := Option.bind_eq_some_iff.1 h
  obtain ⟨v3, hv3, h⟩ := h
  have r1 := fun W => run_f64 (P := Try.prog) 27 (show floatBits .sub .f64 x2 4607182418800017408 = some a from ha) W
  have r2 := fun W => run_f64 (P := Try.prog) 27 (show floatBits .add .f64 x2 4607182418800017408 = some b from hb) W
  have r3 := fun W => run_f64 (P := Try.prog) 27 (show floatBits .quo .f64 a b = some s from hs) W
  have r4 := fun W => run_f64 (P := Try.prog) 27 (show floatBits .mul .f64 s s = some u from huu) W
  have r5 := fun W => run_f64 (P := Try.prog) 27 (show floatBits .mul .f64 s qE = some v1 from hv1) W
  have r6 := fun W => run_f64 (P := Try.prog) 27 (show floatBits .mul .f64 4611686018427387904 v1 = some v2 from hv2) W
  have r7 := fun W => run_f64 (P := Try.prog) 27 (show floatBits .mul .f64 e2 4604418534313441775 = some v3 from hv3) W
  have r8 := fun W => run_f64 (P := Try.prog) 27 (show floatBits .add .f64 v2 v3 = some r from h) W
  have HD := Lib.hid hd
  have HU := Lib.hid hu
  have HQ := Lib.hid (show Cir.logLoop Cir.gen u (Cir.odd25.drop 0) 0 = some qE from hq)
  clear hd hu ha hb hs huu hq hv1 hv2 hv3 h
  go_enter Try.func30, Try.ntmps30
  go_wp2_with fail
  go_loopg [0, 3] 64 (fun rr xv ev wi => ∃ (n y f : Nat), rr = n ∧ xv = .float .f64 y ∧ ev = .float .f64 f ∧ Hid (Cir.down Cir.gen n y f = some (x1, e1)) ∧ wi = w)
  case atStart => exact ⟨64, x, 0, rfl, rfl, rfl, HD, rfl⟩
  case round =>
    obtain ⟨n, y, f, hr, rfl, rfl, H1, rfl⟩ := hrel
    obtain ⟨wo, rfl⟩ : ∃ wo : World, wo = wr := ⟨_, rfl⟩
    have HRR := Lib.hid hr
    clear hr HD
    cases n with
    | zero =>
      have h9 : (none : Option (Nat × Nat)) = some (x1, e1) := H1.out
      cases h9
    | succ n =>
      have h9 := H1.out
      unfold Cir.down at h9
      cases hb : Cir.isGe y Cir.c15
      · have d1 : (FloatKind.f64.format.order y 4609434218613702656 == some .gt || FloatKind.f64.format.order y 4609434218613702656 == some .eq) = false := hb
        rw [hb] at h9
        have h9 : some (y, f) = some (x1, e1) := h9
        injection h9 with h9
        injection h9 with e3 e4
        subst e3 e4
        clear hb H1
        go_wp2_with fail
        go_loopg [0, 3] 64 (fun rr xv ev wi => ∃ (n y f : Nat), rr = n ∧ xv = .float .f64 y ∧ ev = .float .f64 f ∧ Hid (Cir.up Cir.gen n y f = some (x2, e2)) ∧ wi = wo)
        case atStart => exact ⟨64, _, _, rfl, rfl, rfl, HU, rfl⟩
        case round =>
          clear d1
          obtain ⟨n2, y, f, hr, rfl, rfl, H1, rfl⟩ := hrel
          obtain ⟨wo, rfl⟩ : ∃ wo : World, wo = wr := ⟨_, rfl⟩
          have HRR2 := Lib.hid hr
          clear hr HU
          cases n2 with
          | zero =>
            have h9 : (none : Option (Nat × Nat)) = some (x2, e2) := H1.out
            cases h9
          | succ n2 =>
            have h9 := H1.out
            unfold Cir.up at h9
            cases hb : Cir.isLt y Cir.c075
            · have d1 : (FloatKind.f64.format.order y 4604930618986332160 == some .lt) = false := hb
              rw [hb] at h9
              have h9 : some (y, f) = some (x2, e2) := h9
              injection h9 with h9
              injection h9 with e3 e4
              subst e3 e4
              clear hb H1
              go_wp2_with fail
              go_loopg [6, 7] 13 (fun rr pv kv wi => ∃ (j p : Nat), rr = 13 - j ∧ j ≤ 13 ∧ pv = .float .f64 p ∧ kv = .float .f64 (Cir.kX j) ∧ Hid (Cir.logLoop Cir.gen u (Cir.odd25.drop j) p = some qE) ∧ wi = wo)
              case atStart => exact ⟨0, 0, rfl, Nat.zero_le _, rfl, rfl, HQ, rfl⟩
              case round =>
                clear d1
                obtain ⟨j, p, hr, hj, rfl, rfl, HL, rfl⟩ := hrel
                have HRR3 := Lib.hid hr
                clear hr
                by_cases hj8 : j < 13
                · have hl := HL.out
                  rw [Cir.kX_drop hj8] at hl
                  unfold Cir.logLoop at hl
                  obtain ⟨p', hs, hl2⟩ := Option.bind_eq_some_iff.1 hl
                  replace hs := Option.bind_eq_some_iff.1 hs
                  obtain ⟨q1, hq1, hs⟩ := hs
                  replace hs := Option.bind_eq_some_iff.1 hs
                  obtain ⟨q2, hq2, hs⟩ := hs
                  have HL2 := Lib.hid hl2
                  have z1 := fun W => run_f64 (P := Try.prog) 27 (show floatBits .quo .f64 4607182418800017408 (Cir.kX j) = some q1 from hq1) W
                  have z2 := fun W => run_f64 (P := Try.prog) 27 (show floatBits .mul .f64 u p = some q2 from hq2) W
                  have z3 := fun W => run_f64 (P := Try.prog) 27 (show floatBits .add .f64 q1 q2 = some p' from hs) W
                  have z4 := fun W => run_f64 (P := Try.prog) 27 (show floatBits .sub .f64 (Cir.kX j) 4611686018427387904 = some (Cir.kX (j + 1)) from Cir.kX_next j hj8) W
                  have dk : (FloatKind.f64.format.order (Cir.kX j) 4607182418800017408 == some .gt || FloatKind.f64.format.order (Cir.kX j) 4607182418800017408 == some .eq) = true := Cir.kX_ge j hj8
                  clear hl hl2 hq1 hq2 hs
                  generalize hk1 : Cir.kX (j + 1) = k1 at *
                  have HK1 := Lib.hid hk1
                  clear hk1
                  generalize hk0 : Cir.kX j = k0 at *
                  clear hk0
                  go_wp2_with fail
                  go_roundg (13 - (j + 1))
                  case measure => rw [HRR3.out]; omega
                  case rel => exact ⟨j + 1, p', rfl, hj8, rfl, by rw [HK1.out], HL2, rfl⟩
                · obtain rfl : j = 13 := by omega
                  have hl : some p = some qE := HL.out
                  injection hl with hl
                  subst hl
                  have dk : (FloatKind.f64.format.order (Cir.kX 13) 4607182418800017408 == some .gt || FloatKind.f64.format.order (Cir.kX 13) 4607182418800017408 == some .eq) = false := Cir.kX_end
                  generalize Cir.kX 13 = k0 at *
                  go_wp2_with fail
                  go_ret
                  exact ⟨rfl, rfl⟩
            · have d1 : (FloatKind.f64.format.order y 4604930618986332160 == some .lt) = true := hb
              rw [hb] at h9
              obtain ⟨y', hy', h9⟩ := Option.bind_eq_some_iff.1 (show (Cir.gen.mul y Cir.two).bind (fun x => (Cir.gen.sub f Cir.one).bind fun e => Cir.up Cir.gen n2 x e) = some (x2, e2) from h9)
              obtain ⟨f', hf', h9⟩ := Option.bind_eq_some_iff.1 h9
              have z1 := fun W => run_f64 (P := Try.prog) 27 (show floatBits .mul .f64 y 4611686018427387904 = some y' from hy') W
              have z2 := fun W => run_f64 (P := Try.prog) 27 (show floatBits .sub .f64 f 4607182418800017408 = some f' from hf') W
              have H2 := Lib.hid h9
              clear hb hy' hf' h9
              go_wp2_with fail
              go_roundg n2
              case measure => rw [HRR2.out]; omega
              case rel => exact ⟨n2, y', f', rfl, rfl, rfl, H2, rfl⟩
      · have d1 : (FloatKind.f64.format.order y 4609434218613702656 == some .gt || FloatKind.f64.format.order y 4609434218613702656 == some .eq) = true := hb
        rw [hb] at h9
        obtain ⟨y', hy', h9⟩ := Option.bind_eq_some_iff.1 (show (Cir.gen.quo y Cir.two).bind (fun x => (Cir.gen.add f Cir.one).bind fun e => Cir.down Cir.gen n x e) = some (x1, e1) from h9)
        obtain ⟨f', hf', h9⟩ := Option.bind_eq_some_iff.1 h9
        have z1 := fun W => run_f64 (P := Try.prog) 27 (show floatBits .quo .f64 y 4611686018427387904 = some y' from hy') W
        have z2 := fun W => run_f64 (P := Try.prog) 27 (show floatBits .add .f64 f 4607182418800017408 = some f' from hf') W
        have H2 := Lib.hid h9
        clear hb hy' hf' h9
        go_wp2_with fail
        go_roundg n
        case measure => rw [HRR.out]; omega
        case rel => exact ⟨n, y', f', rfl, rfl, rfl, H2, rfl⟩
theorem tenths_any (x zx : Nat) (n : Int) (h : Cir.tenO Cir.gen x = some n) (hx1 : floatBits .sub .f32 x x = some zx) (hx2 : (FloatKind.f32.format.order zx 0 == some .eq) = true) (hx3 : (FloatKind.f32.format.order x 0 == some .lt || FloatKind.f32.format.order x 0 == some .eq) = false) (w : World) :
    Calls Try.prog 13 #[.float .f32 x] w fun e w' => e = .returned (.tuple #[.int .i64 n, .bool true]) ∧ w = w' := by
  have HF := Lib.hid (isFinite32_any x zx hx1 hx2 w)
  unfold Cir.tenO at h
  replace h := Option.bind_eq_some_iff.1 h
  obtain ⟨y, hy, h⟩ := h
  replace h := Option.bind_eq_some_iff.1 h
  obtain ⟨l, hl, h⟩ := h
  replace h := Option.bind_eq_some_iff.1 h
  obtain ⟨m, hm, h⟩ := h
  replace h := Option.bind_eq_some_iff.1 h
  obtain ⟨v, hv, h⟩ := h
  have HL := Lib.hid (log_any y l hl w)
  have HFL := Lib.hid (floor_any v (floatBits_no (op := .add) (k := .f64) hv) w)
  have r1 := fun W => run_widC hy W
  have r2 := fun W => run_f64 (P := Try.prog) 27 (show floatBits .mul .f64 l 4631308968768463603 = some m from hm) W
  have r3 := fun W => run_f64 (P := Try.prog) 27 (show floatBits .add .f64 m 4602678819172646912 = some v from hv) W
  have r4 := fun W => run_convert_float_int (P := Try.prog) W 27 2 .f64 .i64 (Cir.floorB v) n (by kernel_rfl) Try.underlying2 h
  generalize Cir.floorB v = fv at *
  clear hx1 hx2 hy hl hm hv h
  go_enter Try.func13, Try.ntmps13
  go_wp2_with fail
  refine HF.out.mono ?_
  rintro e w1 ⟨rfl, rfl⟩
  go_wp2_with fail
  refine HL.out.mono ?_
  rintro e w1 ⟨rfl, rfl⟩
  go_wp2_with fail
  refine HFL.out.mono ?_
  rintro e w1 ⟨rfl, rfl⟩
  go_wp2_with fail
  go_ret2
  exact ⟨rfl, rfl⟩
end Go.Proofs.Ytnjipckpkcandaa
