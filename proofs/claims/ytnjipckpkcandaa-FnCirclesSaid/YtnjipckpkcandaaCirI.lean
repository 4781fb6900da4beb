/- Circles: the contracts of the program's functions on floats. -/
import Derived.Test.YtnjipckpkcandaaCirP
import Derived.Test.YtnjipckpkcandaaFlt
import Derived.Laws.BitsAllLaws
namespace Go.Proofs.Ytnjipckpkcandaa
open Go.RowKit

theorem run_f64 {P : Program} {op : BinOp} {x y r : Nat} (t : TypeId) (h : floatBits op .f64 x y = some r) (w : World) : (binOp op t (.float .f64 x) (.float .f64 y)).run P w = .ok (.float .f64 r) w := run_float_arith w op t .f64 x y r h
/-- what the library's ways to whole numbers answer -/
def wholeS (way : Ieee.Toward) (x : Nat) : Ieee.Datum → Sem Value
  | .nan s t => if FloatKind.f64.format.quiet t = t then pure (.float .f64 x) else do
      let kept ← choose (.extern "math.Floor,Ceil,Trunc,RoundToEven.signallingNaN kept" 2)
      pure (.float .f64 (if kept == 1 then x else FloatKind.f64.encode (.nan s (FloatKind.f64.format.quiet t))))
  | d => pure (.float .f64 (FloatKind.f64.encode (d.integral way)))
theorem wholeS_is (name : String) (way : Ieee.Toward) (x : Nat) : Extern.MathFloor.toIntegral name way #[.float .f64 x] = wholeS way x (FloatKind.f64.decode x) := rfl
theorem wholeS_run {P : Program} (name : String) (way : Ieee.Toward) (b : Nat) (h : nanK .f64 b = false) (w : World) : ((Extern.MathFloor.toIntegral name way #[.float .f64 b]).run P w) = .ok (.float .f64 (Ieee.double.write ((Ieee.double.read b).integral way))) w := by
  have h' : (FloatKind.f64.decode b).isNaN = false := h
  rw [wholeS_is]
  have e : Ieee.double.write ((Ieee.double.read b).integral way) = FloatKind.f64.encode ((FloatKind.f64.decode b).integral way) := rfl
  rw [e]
  cases hd : FloatKind.f64.decode b with
  | nan s t => rw [hd] at h'; cases h'
  | infinity s => rfl
  | number s m p => rfl
theorem run_archTrunc (b : Nat) (h : nanK .f64 b = false) (w : World) : (callFunc 46 #[.float .f64 b]).run Try.prog w = .ok (.value (.float .f64 (Cir.truncB b))) w := by
  rw [run_callFunc_extern Try.func46 (e := Extern.MathFloor.toIntegral "math.archTrunc" .zero) (by kernel_rfl) (by kernel_rfl) (by kernel_rfl) (by kernel_rfl)]
  rw [wholeS_run _ _ b h]
  rfl
theorem trunc_any (b : Nat) (h : nanK .f64 b = false) (w : World) : Calls Try.prog 38 #[.float .f64 b] w fun e w' => e = .returned (.float .f64 (Cir.truncB b)) ∧ w = w' := by
  have h1 := fun (w : World) => run_archTrunc b h w
  clear h
  generalize Cir.truncB b = r at *
  go_enter Try.func38, Try.ntmps38
  go_wp2_with fail
  go_ret
  exact ⟨rfl, rfl⟩
theorem run_archFloor (b : Nat) (h : nanK .f64 b = false) (w : World) : (callFunc 41 #[.float .f64 b]).run Try.prog w = .ok (.value (.float .f64 (Cir.floorB b))) w := by
  rw [run_callFunc_extern Try.func41 (e := Extern.MathFloor.toIntegral "math.archFloor" .down) (by kernel_rfl) (by kernel_rfl) (by kernel_rfl) (by kernel_rfl)]
  rw [wholeS_run _ _ b h]
  rfl
theorem floor_any (b : Nat) (h : nanK .f64 b = false) (w : World) : Calls Try.prog 29 #[.float .f64 b] w fun e w' => e = .returned (.float .f64 (Cir.floorB b)) ∧ w = w' := by
  have h1 := fun (w : World) => run_archFloor b h w
  clear h
  generalize Cir.floorB b = r at *
  go_enter Try.func29, Try.ntmps29
  go_wp2_with fail
  go_ret
  exact ⟨rfl, rfl⟩
theorem run_sqrt (b r : Nat) (h : Cir.sqrtB b = some r) (w : World) : (callFunc 48 #[.float .f64 b]).run Try.prog w = .ok (.value (.float .f64 r)) w := by
  rw [run_callFunc_extern Try.func48 (e := Extern.MathSqrt.sqrt) (by kernel_rfl) (by kernel_rfl) (by kernel_rfl) (by kernel_rfl)]
  have h2 : FloatKind.f64.format.sqrt b = some r := h
  have e : Extern.MathSqrt.sqrt #[.float .f64 b] = (match FloatKind.f64.format.sqrt b with
    | some r => pure (.float .f64 r)
    | none => do pure (.float .f64 (← choose (.nanBits .f64 b b)))) := rfl
  rw [e, h2]
  rfl
theorem sqrt_any (b r : Nat) (h : Cir.sqrtB b = some r) (w : World) : Calls Try.prog 39 #[.float .f64 b] w fun e w' => e = .returned (.float .f64 r) ∧ w = w' := by
  have h1 := fun (w : World) => run_sqrt b r h w
  clear h
  go_enter Try.func39, Try.ntmps39
  go_wp2_with fail
  go_ret
  exact ⟨rfl, rfl⟩
theorem rest_any (t f : Nat) (h : Cir.restO Cir.gen t = some f) (hn : nanK .f64 t = false) (w : World) : Calls Try.prog 23 #[.float .f64 t] w fun e w' => e = .returned (.float .f64 f) ∧ w = w' := by
  have HT := Lib.hid (trunc_any t hn)
  unfold Cir.restO at h
  rw [Fst.force_eq, Fst.force_eq] at h
  obtain ⟨g, hg, h2⟩ := Option.bind_eq_some_iff.1 h
  clear h hn
  generalize hwv : Cir.truncB t = wv at *
  clear hwv
  cases he : Cir.isEq wv 0
  · have d1 : (FloatKind.f64.format.order wv 0 == some .eq) = false := he
    rw [he] at hg
    have r1 := fun W => run_f64 (P := Try.prog) 27 (show floatBits .sub .f64 t wv = some g from hg) W
    cases hl : Cir.isLt g 0
    · have d2 : (FloatKind.f64.format.order g 0 == some .lt) = false := hl
      rw [hl] at h2
      have h2 : some g = some f := h2
      injection h2 with h2
      subst h2
      clear he hl hg
      go_enter Try.func23, Try.ntmps23
      go_wp2_with fail
      refine (HT.out _).mono ?_
      rintro e w1 ⟨rfl, rfl⟩
      go_wp2_with fail
      go_ret
      exact ⟨rfl, rfl⟩
    · have d2 : (FloatKind.f64.format.order g 0 == some .lt) = true := hl
      rw [hl] at h2
      have r2 := fun W => run_f64 (P := Try.prog) 27 (show floatBits .add .f64 g 4607182418800017408 = some f from h2) W
      clear he hl hg h2
      go_enter Try.func23, Try.ntmps23
      go_wp2_with fail
      refine (HT.out _).mono ?_
      rintro e w1 ⟨rfl, rfl⟩
      go_wp2_with fail
      go_ret
      exact ⟨rfl, rfl⟩
  · have d1 : (FloatKind.f64.format.order wv 0 == some .eq) = true := he
    rw [he] at hg
    have r1 := fun W => run_f64 (P := Try.prog) 27 (show floatBits .sub .f64 t 0 = some g from hg) W
    cases hl : Cir.isLt g 0
    · have d2 : (FloatKind.f64.format.order g 0 == some .lt) = false := hl
      rw [hl] at h2
      have h2 : some g = some f := h2
      injection h2 with h2
      subst h2
      clear he hl hg
      go_enter Try.func23, Try.ntmps23
      go_wp2_with fail
      refine (HT.out _).mono ?_
      rintro e w1 ⟨rfl, rfl⟩
      go_wp2_with fail
      go_ret
      exact ⟨rfl, rfl⟩
    · have d2 : (FloatKind.f64.format.order g 0 == some .lt) = true := hl
      rw [hl] at h2
      have r2 := fun W => run_f64 (P := Try.prog) 27 (show floatBits .add .f64 g 4607182418800017408 = some f from h2) W
      clear he hl hg h2
      go_enter Try.func23, Try.ntmps23
      go_wp2_with fail
      refine (HT.out _).mono ?_
      rintro e w1 ⟨rfl, rfl⟩
      go_wp2_with fail
      go_ret
      exact ⟨rfl, rfl⟩
theorem run_neg64 {P : Program} (w : World) (b : Nat) : (Op.unary .neg (.float .f64 b)).run P w = .ok (.float .f64 (Op.negFloat .f64 b)) w := by simp [Op.unary]
set_option maxRecDepth 100000 in
set_option maxHeartbeats 1600000 in
theorem sine_any (t r : Nat) (h : Cir.sineO Cir.gen t = some r) (hn : nanK .f64 t = false) (w : World) : Calls Try.prog 24 #[.float .f64 t] w fun e w' => e = .returned (.float .f64 r) ∧ w = w' := by
  unfold Cir.sineO at h
  obtain ⟨f, hf, h⟩ := Option.bind_eq_some_iff.1 h
  have HR := Lib.hid (rest_any t f hf hn)
  obtain ⟨f1, hf1, h⟩ := Option.bind_eq_some_iff.1 h
  obtain ⟨f2, hf2, h⟩ := Option.bind_eq_some_iff.1 h
  obtain ⟨z, hz, h⟩ := Option.bind_eq_some_iff.1 h
  obtain ⟨u, hu, h⟩ := Option.bind_eq_some_iff.1 h
  obtain ⟨pE, hp, h⟩ := Option.bind_eq_some_iff.1 h
  obtain ⟨q, hq, h⟩ := Option.bind_eq_some_iff.1 h
  rw [Fst.force_eq] at h
  injection h with h
  have r3 := fun W => run_f64 (P := Try.prog) 27 (show floatBits .mul .f64 f2 4618760256179416344 = some z from hz) W
  have r4 := fun W => run_f64 (P := Try.prog) 27 (show floatBits .mul .f64 z z = some u from hu) W
  have r5 := fun W => run_f64 (P := Try.prog) 27 (show floatBits .mul .f64 z pE = some q from hq) W
  have HLP := Lib.hid (show Cir.sinLoop Cir.gen u (Cir.kList.drop 0) Cir.one = some pE from hp)
  have hneg := fun (w : World) (b : Nat) => run_neg64 (P := Try.prog) w b
  clear hf hz hu hp hq hn
  have HEND : Hid (∀ b : Bool, Cir.isGe f Cir.half = b → r = if b then Op.negFloat .f64 q else q) := Lib.hid (fun b hb => by rw [← hb]; exact h.symm)
  clear h
  cases hb2 : Cir.isGt f1 Cir.quart
  all_goals
    have d2 : (FloatKind.f64.format.order f1 4598175219545276416 == some .gt) = _ := hb2
    rw [hb2] at hf2
    first
      | (have hf2 : some f1 = some f2 := hf2
         injection hf2 with hf2
         subst hf2)
      | (have r2 := fun W => run_f64 (P := Try.prog) 27 (show floatBits .sub .f64 4602678819172646912 f1 = some f2 from hf2) W
         clear hf2)
    clear hb2
    cases hb1 : Cir.isGe f Cir.half
    all_goals
      have d1 : (FloatKind.f64.format.order f 4602678819172646912 == some .gt || FloatKind.f64.format.order f 4602678819172646912 == some .eq) = _ := hb1
      rw [hb1] at hf1
      have HEN := Lib.hid (HEND.out _ hb1)
      first
        | (have hf1 : some f = some f1 := hf1
           injection hf1 with hf1
           subst hf1)
        | (have r1 := fun W => run_f64 (P := Try.prog) 27 (show floatBits .sub .f64 f 4602678819172646912 = some f1 from hf1) W
           clear hf1)
      clear hb1 HEND
  all_goals
    go_enter Try.func24, Try.ntmps24
    go_wp2_with fail
    refine (HR.out _).mono ?_
    rintro e w1 ⟨rfl, rfl⟩
    go_wp2_with fail
    go_loopg [7, 8] 8 (fun rr pv kv wi => ∃ (j p : Nat), rr = 8 - j ∧ j ≤ 8 ∧ pv = .float .f64 p ∧ kv = .float .f64 (Cir.kV j) ∧ Hid (Cir.sinLoop Cir.gen u (Cir.kList.drop j) p = some pE) ∧ wi = w)
    case atStart => exact ⟨0, 4607182418800017408, rfl, Nat.zero_le _, rfl, rfl, HLP, rfl⟩
    case round =>
      obtain ⟨j, p, hr, hj, rfl, rfl, HL, rfl⟩ := hrel
      have HRR := Lib.hid hr
      clear hr
      by_cases hj8 : j < 8
      · have hl := HL.out
        rw [Cir.kV_drop hj8] at hl
        unfold Cir.sinLoop Cir.sinStep at hl
        obtain ⟨p', hs, hl⟩ := Option.bind_eq_some_iff.1 hl
        obtain ⟨a, ha, hs⟩ := Option.bind_eq_some_iff.1 hs
        obtain ⟨b, hb, hs⟩ := Option.bind_eq_some_iff.1 hs
        obtain ⟨c, hc, hs⟩ := Option.bind_eq_some_iff.1 hs
        obtain ⟨d, hd, hs⟩ := Option.bind_eq_some_iff.1 hs
        obtain ⟨ee, he, hs⟩ := Option.bind_eq_some_iff.1 hs
        have HL2 := Lib.hid hl
        have t1 := fun W => run_f64 (P := Try.prog) 27 (show floatBits .mul .f64 u p = some a from ha) W
        have t2 := fun W => run_f64 (P := Try.prog) 27 (show floatBits .mul .f64 4611686018427387904 (Cir.kV j) = some b from hb) W
        have t3 := fun W => run_f64 (P := Try.prog) 27 (show floatBits .add .f64 b 4607182418800017408 = some c from hc) W
        have t4 := fun W => run_f64 (P := Try.prog) 27 (show floatBits .mul .f64 b c = some d from hd) W
        have t5 := fun W => run_f64 (P := Try.prog) 27 (show floatBits .quo .f64 a d = some ee from he) W
        have t6 := fun W => run_f64 (P := Try.prog) 27 (show floatBits .sub .f64 4607182418800017408 ee = some p' from hs) W
        have t7 := fun W => run_f64 (P := Try.prog) 27 (show floatBits .sub .f64 (Cir.kV j) 4607182418800017408 = some (Cir.kV (j + 1)) from Cir.kV_next j hj8) W
        have dk : (FloatKind.f64.format.order (Cir.kV j) 4607182418800017408 == some .gt || FloatKind.f64.format.order (Cir.kV j) 4607182418800017408 == some .eq) = true := Cir.kV_ge j hj8
        clear hl ha hb hc hd he hs
        generalize hk1 : Cir.kV (j + 1) = k1 at *
        have HK1 := Lib.hid hk1
        clear hk1
        generalize hk0 : Cir.kV j = k0 at *
        clear hk0
        go_wp2_with fail
        go_roundg (8 - (j + 1))
        case measure => rw [HRR.out]; omega
        case rel => exact ⟨j + 1, p', rfl, hj8, rfl, by rw [HK1.out], HL2, rfl⟩
      · obtain rfl : j = 8 := by omega
        have hl : some p = some pE := HL.out
        injection hl with hl
        subst hl
        have dk : (FloatKind.f64.format.order (Cir.kV 8) 4607182418800017408 == some .gt || FloatKind.f64.format.order (Cir.kV 8) 4607182418800017408 == some .eq) = false := Cir.kV_end
        generalize Cir.kV 8 = k0 at *
        go_wp2_with fail
        go_ret
        exact ⟨by rw [HEN.out]; rfl, rfl⟩
end Go.Proofs.Ytnjipckpkcandaa
