/- Circles: phasors, products, powers. -/
import Derived.Test.YtnjipckpkcandaaCirI
import Derived.Laws.Cover3
namespace Go.Proofs.Ytnjipckpkcandaa
open Go.RowKit

theorem run_narC {a r : Nat} (h : Cir.gen.nar a = some r) (w : World) : (convert 27 28 (.float .f64 a)).run Try.prog w = .ok (.float .f32 r) w := run_convert_float_float w 27 28 .f64 .f32 a r (by kernel_rfl) Try.underlying28 h
theorem run_widC {a r : Nat} (h : Cir.gen.wid a = some r) (w : World) : (convert 28 27 (.float .f32 a)).run Try.prog w = .ok (.float .f64 r) w := run_convert_float_float w 28 27 .f32 .f64 a r (by kernel_rfl) Try.underlying27 h
theorem clearC (b : Nat) (h : b < 18446744073709551616) : (bits .andNot .u64 (b : Int) 9223372036854775808).toNat = b % 9223372036854775808 := by
  rw [u64_andNot (b : Int) 9223372036854775808 (by omega) (by omega) (by omega) (by omega)]
  show ((b &&& 9223372036854775807 : Nat) : Int).toNat = _
  rw [Int.toNat_natCast]
  exact Nat.and_two_pow_sub_one_eq_mod b 63
theorem run_f64bitsC (b : Nat) (w : World) : (callFunc 45 #[.float .f64 b]).run Try.prog w = .ok (.value (.int .u64 b)) w := by
  rw [run_callFunc_extern Try.func45 (e := Extern.MathFloatBits.float64bits) (by kernel_rfl) (by kernel_rfl) (by kernel_rfl) (by kernel_rfl)]
  rfl
theorem run_f64frombitsC (n : Int) (w : World) : (callFunc 36 #[.int .u64 n]).run Try.prog w = .ok (.value (.float .f64 n.toNat)) w := by
  rw [run_callFunc_extern Try.func36 (e := Extern.MathFloatBits.float64frombits) (by kernel_rfl) (by kernel_rfl) (by kernel_rfl) (by kernel_rfl)]
  rfl
theorem abs_anyC (b : Nat) (w : World) (h : b < 18446744073709551616) :
    Calls Try.prog 37 #[.float .f64 b] w fun e w' => e = .returned (.float .f64 (Cir.absB b)) ∧ w = w' := by
  have h1 := fun (b : Nat) (w : World) => run_f64bitsC b w
  have h2 := fun (b : Int) (w : World) => run_f64frombitsC b w
  have HC := Lib.hid (clearC b h)
  go_enter Try.func37, Try.ntmps37
  go_wp2_with fail
  go_ret
  exact ⟨by show Ending.returned (.float .f64 _) = _; rw [HC.out]; rfl, rfl⟩
theorem isFinite_any (t z : Nat) (h : floatBits .sub .f64 t t = some z) (hz : (FloatKind.f64.format.order z 0 == some .eq) = true) (w : World) : Calls Try.prog 19 #[.float .f64 t] w fun e w' => e = .returned (.bool true) ∧ w = w' := by
  have r1 := fun W => run_f64 (P := Try.prog) 27 h W
  clear h
  go_enter Try.func19, Try.ntmps19
  go_wp2_with fail
  go_ret
  exact ⟨rfl, rfl⟩
theorem isFar_any (t : Nat) (ht : t < 18446744073709551616) (h : (FloatKind.f64.format.order (Cir.absB t) 4841369599423283200 == some .gt || FloatKind.f64.format.order (Cir.absB t) 4841369599423283200 == some .eq) = false) (w : World) : Calls Try.prog 22 #[.float .f64 t] w fun e w' => e = .returned (.bool false) ∧ w = w' := by
  have HA := Lib.hid (abs_anyC t w ht)
  generalize Cir.absB t = a at *
  go_enter Try.func22, Try.ntmps22
  go_wp2_with fail
  refine HA.out.mono ?_
  rintro e w1 ⟨rfl, rfl⟩
  go_wp2_with fail
  go_ret
  exact ⟨rfl, rfl⟩
theorem narrowed_any (a b : Nat) (p : Nat × Nat) (h : Cir.narP Cir.gen a b = some p) (w : World) : Calls Try.prog 20 #[.float .f64 a, .float .f64 b] w fun e w' => e = .returned (.complex .f32 p.1 p.2) ∧ w = w' := by
  unfold Cir.narP at h
  obtain ⟨x, hx, h⟩ := Option.bind_eq_some_iff.1 h
  obtain ⟨y, hy, h⟩ := Option.bind_eq_some_iff.1 h
  injection h with h
  subst h
  have r1 := fun W => run_narC hx W
  have r2 := fun W => run_narC hy W
  clear hx hy
  go_enter Try.func20, Try.ntmps20
  go_wp2_with fail
  go_ret
  exact ⟨rfl, rfl⟩
theorem wide_any (p : Nat × Nat) (a b : Nat) (hx : Cir.gen.wid p.1 = some a) (hy : Cir.gen.wid p.2 = some b) (w : World) : Calls Try.prog 40 #[.complex .f32 p.1 p.2] w fun e w' => e = .returned (.tuple #[.float .f64 a, .float .f64 b]) ∧ w = w' := by
  obtain ⟨x, y⟩ := p
  have r1 := fun W => run_widC hx W
  have r2 := fun W => run_widC hy W
  clear hx hy
  go_enter Try.func40, Try.ntmps40
  go_wp2_with fail
  go_ret2
  exact ⟨rfl, rfl⟩
theorem rest_no {t f : Nat} (h : Cir.restO Cir.gen t = some f) : nanK .f64 f = false := by
  unfold Cir.restO at h
  rw [Fst.force_eq, Fst.force_eq] at h
  obtain ⟨g, hg, h2⟩ := Option.bind_eq_some_iff.1 h
  split at h2
  · exact floatBits_no (op := .add) (k := .f64) h2
  · injection h2 with h2
    subst h2
    exact floatBits_no (op := .sub) (k := .f64) hg
set_option maxRecDepth 100000 in
set_option maxHeartbeats 1600000 in
theorem phasor_any (t z : Nat) (p : Nat × Nat) (h : Cir.phasO Cir.gen t = some p) (ht : t < 18446744073709551616) (hn : nanK .f64 t = false) (hz1 : floatBits .sub .f64 t t = some z) (hz2 : (FloatKind.f64.format.order z 0 == some .eq) = true)
    (hf : (FloatKind.f64.format.order (Cir.absB t) 4841369599423283200 == some .gt || FloatKind.f64.format.order (Cir.absB t) 4841369599423283200 == some .eq) = false) (w : World) :
    Calls Try.prog 7 #[.float .f64 t] w fun e w' => e = .returned (.complex .f32 p.1 p.2) ∧ w = w' := by
  have HF := Lib.hid (isFinite_any t z hz1 hz2 w)
  have HR := Lib.hid (isFar_any t ht hf w)
  unfold Cir.phasO at h
  obtain ⟨f0, hf0, h⟩ := Option.bind_eq_some_iff.1 h
  have HREST := Lib.hid (rest_any t f0 hf0 hn w)
  obtain ⟨⟨f, q⟩, hq, h⟩ := Option.bind_eq_some_iff.1 h
  have HQ := Lib.hid hq
  have HH := Lib.hid h
  have HN0 := Lib.hid (rest_no hf0)
  clear hz1 hz2 hf hf0 hq h ht hn
  go_enter Try.func7, Try.ntmps7
  go_wp2_with fail
  refine HF.out.mono ?_
  rintro e w1 ⟨rfl, rfl⟩
  go_wp2_with fail
  refine HR.out.mono ?_
  rintro e w1 ⟨rfl, rfl⟩
  go_wp2_with fail
  refine HREST.out.mono ?_
  rintro e w1 ⟨rfl, rfl⟩
  go_wp2_with fail
  go_loopg [3, 4] 5 (fun rr fv qv wi => ∃ (n g k : Nat), rr = n ∧ fv = .float .f64 g ∧ qv = .int .i64 (k : Int) ∧ k + n = 5 ∧ Hid (nanK .f64 g = false) ∧ Hid (Cir.quarters Cir.gen n g k = some (f, q)) ∧ wi = w)
  case atStart => exact ⟨5, f0, 0, rfl, rfl, rfl, rfl, HN0, HQ, rfl⟩
  case round =>
    obtain ⟨n, g, k, hr, rfl, rfl, hkn, HNG, HQ2, rfl⟩ := hrel
    have HRR := Lib.hid hr
    clear hr
    cases n with
    | zero =>
      have h9 : (none : Option (Nat × Nat)) = some (f, q) := HQ2.out
      cases h9
    | succ n =>
      have h9 := HQ2.out
      unfold Cir.quarters at h9
      cases hb : Cir.isGe g Cir.quart
      · have d1 : (FloatKind.f64.format.order g 4598175219545276416 == some .gt || FloatKind.f64.format.order g 4598175219545276416 == some .eq) = false := hb
        rw [hb] at h9
        have h9 : some (g, k) = some (f, q) := h9
        injection h9 with h9
        injection h9 with e1 e2
        subst e1 e2
        obtain ⟨g2, hg2, hh⟩ := Option.bind_eq_some_iff.1 HH.out
        obtain ⟨c, hc, hh⟩ := Option.bind_eq_some_iff.1 hh
        obtain ⟨s, hs, hh⟩ := Option.bind_eq_some_iff.1 hh
        have HC := Lib.hid (sine_any g2 c hc (floatBits_no (op := .sub) (k := .f64) hg2))
        have HS := Lib.hid (sine_any g s hs HNG.out)
        have r1 := fun W => run_f64 (P := Try.prog) 27 (show floatBits .sub .f64 4598175219545276416 g = some g2 from hg2) W
        have HHH := Lib.hid hh
        clear hb hg2 hc hs hh
        have hk4 : k = 0 ∨ k = 1 ∨ k = 2 ∨ k = 3 ∨ k = 4 := by omega
        clear hkn
        rcases hk4 with hk | hk | hk | hk | hk
        · subst hk
          have hp : Cir.narP Cir.gen c s = some p := HHH.out
          have HNR := Lib.hid (narrowed_any c s p hp)
          clear hp
          go_wp2_with fail
          refine (HC.out _).mono ?_
          rintro e w1 ⟨rfl, rfl⟩
          go_wp2_with fail
          refine (HS.out _).mono ?_
          rintro e w1 ⟨rfl, rfl⟩
          go_wp2_with fail
          refine (HNR.out _).mono ?_
          rintro e w1 ⟨rfl, rfl⟩
          go_wp2_with fail
          go_ret
          exact ⟨rfl, rfl⟩
        · subst hk
          obtain ⟨a, ha, hp⟩ := Option.bind_eq_some_iff.1 (show (Cir.gen.sub 0 s).bind (fun a => Cir.narP Cir.gen a c) = some p from HHH.out)
          have HNR := Lib.hid (narrowed_any a c p hp)
          have r2 := fun W => run_f64 (P := Try.prog) 27 (show floatBits .sub .f64 0 s = some a from ha) W
          clear hp ha
          go_wp2_with fail
          refine (HC.out _).mono ?_
          rintro e w1 ⟨rfl, rfl⟩
          go_wp2_with fail
          refine (HS.out _).mono ?_
          rintro e w1 ⟨rfl, rfl⟩
          go_wp2_with fail
          refine (HNR.out _).mono ?_
          rintro e w1 ⟨rfl, rfl⟩
          go_wp2_with fail
          go_ret
          exact ⟨rfl, rfl⟩
        · subst hk
          obtain ⟨a, ha, hp⟩ := Option.bind_eq_some_iff.1 (show (Cir.gen.sub 0 c).bind (fun a => (Cir.gen.sub 0 s).bind fun b => Cir.narP Cir.gen a b) = some p from HHH.out)
          obtain ⟨b, hb, hp⟩ := Option.bind_eq_some_iff.1 hp
          have HNR := Lib.hid (narrowed_any a b p hp)
          have r2 := fun W => run_f64 (P := Try.prog) 27 (show floatBits .sub .f64 0 c = some a from ha) W
          have r3 := fun W => run_f64 (P := Try.prog) 27 (show floatBits .sub .f64 0 s = some b from hb) W
          clear hp ha hb
          go_wp2_with fail
          refine (HC.out _).mono ?_
          rintro e w1 ⟨rfl, rfl⟩
          go_wp2_with fail
          refine (HS.out _).mono ?_
          rintro e w1 ⟨rfl, rfl⟩
          go_wp2_with fail
          refine (HNR.out _).mono ?_
          rintro e w1 ⟨rfl, rfl⟩
          go_wp2_with fail
          go_ret
          exact ⟨rfl, rfl⟩
        · subst hk
          obtain ⟨b, hb, hp⟩ := Option.bind_eq_some_iff.1 (show (Cir.gen.sub 0 c).bind (fun b => Cir.narP Cir.gen s b) = some p from HHH.out)
          have HNR := Lib.hid (narrowed_any s b p hp)
          have r3 := fun W => run_f64 (P := Try.prog) 27 (show floatBits .sub .f64 0 c = some b from hb) W
          clear hp hb
          go_wp2_with fail
          refine (HC.out _).mono ?_
          rintro e w1 ⟨rfl, rfl⟩
          go_wp2_with fail
          refine (HS.out _).mono ?_
          rintro e w1 ⟨rfl, rfl⟩
          go_wp2_with fail
          refine (HNR.out _).mono ?_
          rintro e w1 ⟨rfl, rfl⟩
          go_wp2_with fail
          go_ret
          exact ⟨rfl, rfl⟩
        · subst hk
          have hp : Cir.narP Cir.gen c s = some p := HHH.out
          have HNR := Lib.hid (narrowed_any c s p hp)
          clear hp
          go_wp2_with fail
          refine (HC.out _).mono ?_
          rintro e w1 ⟨rfl, rfl⟩
          go_wp2_with fail
          refine (HS.out _).mono ?_
          rintro e w1 ⟨rfl, rfl⟩
          go_wp2_with fail
          refine (HNR.out _).mono ?_
          rintro e w1 ⟨rfl, rfl⟩
          go_wp2_with fail
          go_ret
          exact ⟨rfl, rfl⟩
      · have d1 : (FloatKind.f64.format.order g 4598175219545276416 == some .gt || FloatKind.f64.format.order g 4598175219545276416 == some .eq) = true := hb
        rw [hb] at h9
        obtain ⟨g', hg', h9⟩ := Option.bind_eq_some_iff.1 (show (Cir.gen.sub g Cir.quart).bind (fun f => Cir.quarters Cir.gen n f (k + 1)) = some (f, q) from h9)
        have r1 := fun W => run_f64 (P := Try.prog) 27 (show floatBits .sub .f64 g 4598175219545276416 = some g' from hg') W
        have HN2 := Lib.hid (floatBits_no (op := .sub) (k := .f64) hg')
        have HQ3 := Lib.hid h9
        have hk5 : k ≤ 4 := by omega
        have HKN := Lib.hid (show k + 1 + n = 5 by omega)
        clear hb hg' h9 hkn
        go_wp2_with fail
        go_roundg n
        case measure => rw [HRR.out]; omega
        case rel => exact ⟨n, g', k + 1, rfl, rfl, by first | rfl | go_num, HKN.out, HN2, HQ3, rfl⟩
end Go.Proofs.Ytnjipckpkcandaa
