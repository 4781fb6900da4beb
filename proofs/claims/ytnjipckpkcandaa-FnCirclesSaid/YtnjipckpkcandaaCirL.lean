/- Circles: angles. -/
import Derived.Test.YtnjipckpkcandaaCirJ
namespace Go.Proofs.Ytnjipckpkcandaa
open Go.RowKit

theorem run_f32 {P : Program} {op : BinOp} {x y r : Nat} (t : TypeId) (h : floatBits op .f32 x y = some r) (w : World) : (binOp op t (.float .f32 x) (.float .f32 y)).run P w = .ok (.float .f32 r) w := run_float_arith w op t .f32 x y r h
theorem isFinite32_any (t z : Nat) (h : floatBits .sub .f32 t t = some z) (hz : (FloatKind.f32.format.order z 0 == some .eq) = true) (w : World) : Calls Try.prog 28 #[.float .f32 t] w fun e w' => e = .returned (.bool true) ∧ w = w' := by
  have r1 := fun W => run_f32 (P := Try.prog) 28 h W
  clear h
  go_enter Try.func28, Try.ntmps28
  go_wp2_with fail
  go_ret
  exact ⟨rfl, rfl⟩
theorem encode64C (d : Ieee.Datum) : FloatKind.f64.encode d < 18446744073709551616 := by
  have := encode_wf FloatKind.f64 d
  simp [Lit.wf] at this
  exact this
theorem wid_lt {a r : Nat} (h : Cir.gen.wid a = some r) : r < 18446744073709551616 := by
  have h : floatToFloatBits .f32 a .f64 = some r := h
  unfold floatToFloatBits at h
  rw [if_neg (by decide)] at h
  split at h
  · cases h
  · injection h with h; subst h; exact encode64C _
  · split at h
    · cases h
    · injection h with h; subst h; exact encode64C _
set_option maxRecDepth 100000 in
set_option maxHeartbeats 3200000 in
theorem angle_any (y x r zx zy : Nat) (h : Cir.angO Cir.gen y x = some r) (hx1 : floatBits .sub .f32 x x = some zx) (hx2 : (FloatKind.f32.format.order zx 0 == some .eq) = true) (hy1 : floatBits .sub .f32 y y = some zy) (hy2 : (FloatKind.f32.format.order zy 0 == some .eq) = true)
    (hno : (FloatKind.f32.format.order x 0 == some .eq && FloatKind.f32.format.order y 0 == some .eq) = false) (w : World) :
    Calls Try.prog 25 #[.float .f32 y, .float .f32 x] w fun e w' => e = .returned (.float .f32 r) ∧ w = w' := by
  have HFX := Lib.hid (isFinite32_any x zx hx1 hx2 w)
  have HFY := Lib.hid (isFinite32_any y zy hy1 hy2 w)
  unfold Cir.angO at h
  replace h := Option.bind_eq_some_iff.1 h
  obtain ⟨ya, hya, h⟩ := h
  replace h := Option.bind_eq_some_iff.1 h
  obtain ⟨xa, hxa, h⟩ := h
  have HAY := Lib.hid (abs_anyC ya w (wid_lt hya))
  have HAX := Lib.hid (abs_anyC xa w (wid_lt hxa))
  have c1 := fun W => run_widC hya W
  have c2 := fun W => run_widC hxa W
  clear hx1 hx2 hy1 hy2 hya hxa
  generalize Cir.absB ya = a at *
  generalize Cir.absB xa = b at *
  replace h := Option.bind_eq_some_iff.1 h
  obtain ⟨t0, ht0, h⟩ := h
  replace h := Option.bind_eq_some_iff.1 h
  obtain ⟨t, ht, h⟩ := h
  replace h := Option.bind_eq_some_iff.1 h
  obtain ⟨t3, ht3, h⟩ := h
  replace h := Option.bind_eq_some_iff.1 h
  obtain ⟨u, hu, h⟩ := h
  replace h := Option.bind_eq_some_iff.1 h
  obtain ⟨pE, hp, h⟩ := h
  replace h := Option.bind_eq_some_iff.1 h
  obtain ⟨s1, hs1, h⟩ := h
  replace h := Option.bind_eq_some_iff.1 h
  obtain ⟨s2, hs2, h⟩ := h
  replace h := Option.bind_eq_some_iff.1 h
  obtain ⟨s3, hs3, h⟩ := h
  replace h := Option.bind_eq_some_iff.1 h
  obtain ⟨s4, hs4, h⟩ := h
  replace h := Option.bind_eq_some_iff.1 h
  obtain ⟨s5, hs5, h⟩ := h
  have r0 := fun W => run_f64 (P := Try.prog) 27 (show floatBits .quo .f64 a b = some t0 from ht0) W
  have r4 := fun W => run_f64 (P := Try.prog) 27 (show floatBits .mul .f64 t3 t3 = some u from hu) W
  have r5 := fun W => run_f64 (P := Try.prog) 27 (show floatBits .mul .f64 t3 pE = some s1 from hs1) W
  have r6 := fun W => run_f64 (P := Try.prog) 27 (show floatBits .mul .f64 4620693217682128896 s1 = some s2 from hs2) W
  have r7 := fun W => run_f64 (P := Try.prog) 27 (show floatBits .quo .f64 s2 4618760256179416344 = some s3 from hs3) W
  have HIT := Lib.hid ht3
  have HLP := Lib.hid (show Cir.angLoop Cir.gen u (Cir.odd15.drop 0) 0 = some pE from hp)
  have hneg := fun (w : World) (b : Nat) => run_neg64 (P := Try.prog) w b
  clear ht0 ht3 hu hp hs1 hs2 hs3
  cases hb1 : Cir.isGt a b
  all_goals
    have d1 : (FloatKind.f64.format.order a b == some .gt) = _ := hb1
    rw [hb1] at ht hs4
    first
      | (have ht : some t0 = some t := ht
         have hs4 : some s3 = some s4 := hs4
         injection ht with ht
         injection hs4 with hs4
         subst ht
         subst hs4)
      | (have ra := fun W => run_f64 (P := Try.prog) 27 (show floatBits .quo .f64 b a = some t from ht) W
         have rb := fun W => run_f64 (P := Try.prog) 27 (show floatBits .sub .f64 4598175219545276416 s3 = some s4 from hs4) W
         clear ht hs4)
    clear hb1
    cases hb2 : (FloatKind.f32.format.order x 0 == some .lt)
    all_goals
      have hb2' : (Ieee.single.order x 0 == some .lt) = _ := hb2
      rw [hb2'] at hs5
      first
        | (have hs5 : some s4 = some s5 := hs5
           injection hs5 with hs5
           subst hs5)
        | (have hs5 : some s3 = some s5 := hs5
           injection hs5 with hs5
           subst hs5)
        | (have rc := fun W => run_f64 (P := Try.prog) 27 (show floatBits .sub .f64 4602678819172646912 _ = some s5 from hs5) W
           clear hs5)
      clear hb2'
      cases hb3 : (FloatKind.f32.format.order y 0 == some .lt)
      all_goals
        have hb3' : (Ieee.single.order y 0 == some .lt) = _ := hb3
        rw [hb3'] at h
        first | rw [if_pos rfl] at h | rw [if_neg (by decide)] at h
        try unfold Cir.negB at h
        have rd := fun W => run_narC h W
        clear hb3' h
  all_goals
    go_enter Try.func25, Try.ntmps25
    go_wp2_with fail
    refine HFX.out.mono ?_
    rintro e w1 ⟨rfl, rfl⟩
    go_wp2_with fail
    refine HFY.out.mono ?_
    rintro e w1 ⟨rfl, rfl⟩
    go_upto_region 3 with (fail)
    go_cut [24] (fun sx wx => sx = .bool false ∧ wx = w)
    case first =>
      cases hx0 : (FloatKind.f32.format.order x 0 == some .eq)
      · go_wp2_with fail
        go_meet
        exact ⟨rfl, rfl⟩
      · rw [hx0, Bool.true_and] at hno
        go_wp2_with fail
        go_meet
        exact ⟨rfl, rfl⟩
    case rest =>
      obtain ⟨rfl, rfl⟩ := hcut
      go_wp2_with fail
      refine HAY.out.mono ?_
      rintro e w1 ⟨rfl, rfl⟩
      go_wp2_with fail
      refine HAX.out.mono ?_
      rintro e w1 ⟨rfl, rfl⟩
      go_wp2_with fail
      go_loopg [7, 8] 3 (fun rr tv kv wi => ∃ (j v : Nat), rr = 3 - j ∧ j ≤ 3 ∧ tv = .float .f64 v ∧ kv = .int .i64 (j : Int) ∧ Hid (Cir.angIt Cir.gen (3 - j) v = some t3) ∧ wi = wc)
      case atStart => exact ⟨0, _, rfl, Nat.zero_le _, rfl, rfl, HIT, rfl⟩
      case round =>
        obtain ⟨j, v, hr, hj, rfl, rfl, HI, rfl⟩ := hrel
        obtain ⟨wo, rfl⟩ : ∃ wo : World, wo = wr := ⟨_, rfl⟩
        have HRR := Lib.hid hr
        clear hr
        by_cases hj3 : j < 3
        · have hjI : (j : Int) < 3 := by omega
          have hi := HI.out
          rw [show 3 - j = (3 - (j + 1)) + 1 by omega] at hi
          unfold Cir.angIt Cir.angStep at hi
          obtain ⟨v', hs, hi2⟩ := Option.bind_eq_some_iff.1 hi
          replace hs := Option.bind_eq_some_iff.1 hs
          obtain ⟨q1, hq1, hs⟩ := hs
          replace hs := Option.bind_eq_some_iff.1 hs
          obtain ⟨q2, hq2, hs⟩ := hs
          replace hs := Option.bind_eq_some_iff.1 hs
          obtain ⟨q3, hq3, hs⟩ := hs
          replace hs := Option.bind_eq_some_iff.1 hs
          obtain ⟨q4, hq4, hs⟩ := hs
          have HI2 := Lib.hid hi2
          have HSQ := Lib.hid (sqrt_any q2 q3 hq3 wo)
          have z1 := fun W => run_f64 (P := Try.prog) 27 (show floatBits .mul .f64 v v = some q1 from hq1) W
          have z2 := fun W => run_f64 (P := Try.prog) 27 (show floatBits .add .f64 4607182418800017408 q1 = some q2 from hq2) W
          have z3 := fun W => run_f64 (P := Try.prog) 27 (show floatBits .add .f64 4607182418800017408 q3 = some q4 from hq4) W
          have z4 := fun W => run_f64 (P := Try.prog) 27 (show floatBits .quo .f64 v q4 = some v' from hs) W
          clear hi hi2 hq1 hq2 hq3 hq4 hs
          go_wp2_with fail
          refine HSQ.out.mono ?_
          rintro e w1 ⟨rfl, rfl⟩
          go_wp2_with fail
          go_roundg (3 - (j + 1))
          case measure => rw [HRR.out]; omega
          case rel => exact ⟨j + 1, v', rfl, hj3, rfl, by first | rfl | go_num, HI2, rfl⟩
        · obtain rfl : j = 3 := by omega
          have hi : some v = some t3 := HI.out
          injection hi with hi
          subst hi
          clear HI HIT
          go_wp2_with fail
          go_loopg [10, 11] 8 (fun rr pv kv wi => ∃ (j p : Nat), rr = 8 - j ∧ j ≤ 8 ∧ pv = .float .f64 p ∧ kv = .float .f64 (Cir.kW j) ∧ Hid (Cir.angLoop Cir.gen u (Cir.odd15.drop j) p = some pE) ∧ wi = wo)
          case atStart => exact ⟨0, 0, rfl, Nat.zero_le _, rfl, rfl, HLP, rfl⟩
          case round =>
            obtain ⟨j, p, hr, hj, rfl, rfl, HL, rfl⟩ := hrel
            have HRR2 := Lib.hid hr
            clear hr
            by_cases hj8 : j < 8
            · have hl := HL.out
              rw [Cir.kW_drop hj8] at hl
              unfold Cir.angLoop at hl
              obtain ⟨p', hs, hl2⟩ := Option.bind_eq_some_iff.1 hl
              replace hs := Option.bind_eq_some_iff.1 hs
              obtain ⟨q1, hq1, hs⟩ := hs
              replace hs := Option.bind_eq_some_iff.1 hs
              obtain ⟨q2, hq2, hs⟩ := hs
              have HL2 := Lib.hid hl2
              have z1 := fun W => run_f64 (P := Try.prog) 27 (show floatBits .quo .f64 4607182418800017408 (Cir.kW j) = some q1 from hq1) W
              have z2 := fun W => run_f64 (P := Try.prog) 27 (show floatBits .mul .f64 u p = some q2 from hq2) W
              have z3 := fun W => run_f64 (P := Try.prog) 27 (show floatBits .sub .f64 q1 q2 = some p' from hs) W
              have z4 := fun W => run_f64 (P := Try.prog) 27 (show floatBits .sub .f64 (Cir.kW j) 4611686018427387904 = some (Cir.kW (j + 1)) from Cir.kW_next j hj8) W
              have dk : (FloatKind.f64.format.order (Cir.kW j) 4607182418800017408 == some .gt || FloatKind.f64.format.order (Cir.kW j) 4607182418800017408 == some .eq) = true := Cir.kW_ge j hj8
              clear hl hl2 hq1 hq2 hs
              generalize hk1 : Cir.kW (j + 1) = k1 at *
              have HK1 := Lib.hid hk1
              clear hk1
              generalize hk0 : Cir.kW j = k0 at *
              clear hk0
              go_wp2_with fail
              go_roundg (8 - (j + 1))
              case measure => rw [HRR2.out]; omega
              case rel => exact ⟨j + 1, p', rfl, hj8, rfl, by rw [HK1.out], HL2, rfl⟩
            · obtain rfl : j = 8 := by omega
              have hl : some p = some pE := HL.out
              injection hl with hl
              subst hl
              have dk : (FloatKind.f64.format.order (Cir.kW 8) 4607182418800017408 == some .gt || FloatKind.f64.format.order (Cir.kW 8) 4607182418800017408 == some .eq) = false := Cir.kW_end
              generalize Cir.kW 8 = k0 at *
              go_wp2_with fail
              go_ret
              exact ⟨rfl, rfl⟩
end Go.Proofs.Ytnjipckpkcandaa
