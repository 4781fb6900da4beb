/- Sums of products of floats: both sides. -/
import Derived.Test.YtbbcddbdinmaaaaFltFn
import Derived.Deep.RegionHeld3
import Derived.StillTailTactics
namespace Go.Proofs.Ytbbcddbdinmaaaa
open Go.RowKit

def dotUp (xs ys : List Nat) : Nat → Option Nat
  | 0 => some 0
  | k + 1 => fop .add .f32 (dotUp xs ys k) (fop .mul .f32 (absK .f32 (xs.getD k 0)) (absK .f32 (ys.getD k 0)))
def dotO (xs ys : List Nat) : Option Nat := dotUp xs ys xs.length
theorem run_fsome1 {P : Program} (op : BinOp) (t : TypeId) (x y r : Nat) (h : floatBits op .f32 x y = some r) (w : World) : (binOp op t (.float .f32 x) (.float .f32 y)).run P w = .ok (.float .f32 r) w := run_float_arith w op t .f32 x y r h
theorem run_fnone1 {P : Program} (op : BinOp) (hop : isFar op = true) (t : TypeId) (x y : Nat) (h : floatBits op .f32 x y = none) (w : World) : (binOp op t (.float .f32 x) (.float .f32 y)).run P w = .ok (.float .f32 ((Question.nanBits .f32 x y).cut (w.tape w.drawn (.nanBits .f32 x y)))) w.drew := by
  rw [run_fop w op hop]
  unfold fopV fopW
  rw [h]
set_option maxRecDepth 100000 in
set_option maxHeartbeats 1000000 in
theorem dot_any (A : Option Addr) (n c : Nat) (xs : List Nat) (B : Option Addr) (m d : Nat) (ys : List Nat) (w : World) (hA : FltsAt w A n xs) (hB : FltsAt w B m ys) (hnm : n ≤ m) (hm : m ≤ 1048576) :
    Calls Try.prog 99 #[.slice A n c, .slice B m d] w fun e w' => ∃ r, e = .returned (.float .f32 r) ∧ absK .f32 r = dotO xs ys ∧ Drew w w' := by
  have HL := Lib.hid hA.len
  have HA := Lib.hid hA
  have HB := Lib.hid hB
  clear hA hB
  go_enter Try.func99, Try.ntmps99
  go_wp2_with fail
  go_loopg [5, 9] n (fun rr sv iv wi => ∃ (k s : Nat), rr = n - k ∧ k ≤ n ∧ sv = .float .f32 s ∧ iv = .int .i64 k ∧ Hid (absK .f32 s = dotUp xs ys k) ∧ Drew w wi)
  case atStart => exact ⟨0, 0, rfl, Nat.zero_le _, rfl, rfl, Lib.hid abs0, Drew.refl _⟩
  case round =>
    obtain ⟨k, s, hr, hk, rfl, rfl, hs, hd⟩ := hrel
    have HRK := Lib.hid hr
    clear hr
    have HA1 := Lib.hid (HA.out.drewTo hd)
    have HB1 := Lib.hid (HB.out.drewTo hd)
    have HD := Lib.hid hd
    obtain ⟨wo, hwo⟩ : ∃ x, x = wr := ⟨_, rfl⟩
    rw [← hwo]
    rw [← hwo] at HA1 HB1 HD
    clear hwo hd
    by_cases hlt : k < n
    · have hlt' : (k : Int) < (n : Int) := by omega
      have hlm : (k : Int) < (m : Int) := by omega
      obtain ⟨ad, rfl, _, c1⟩ := HA1.out.at_ hlt
      obtain ⟨bd, rfl, _, c2⟩ := HB1.out.at_ (k := k) (by omega)
      have HS := Lib.hid (show dotUp xs ys (k + 1) = fop .add .f32 (absK .f32 s) (fop .mul .f32 (absK .f32 (xs.getD k 0)) (absK .f32 (ys.getD k 0))) by rw [hs.out]; rfl)
      generalize xs.getD k 0 = x at *
      generalize ys.getD k 0 = y at *
      rw [fop_abs] at HS
      cases hmu : floatBits .mul .f32 x y with
      | some a =>
        have hrm := fun W => run_fsome1 (P := Try.prog) .mul 34 x y a hmu W
        rw [hmu, ← absK_of (floatBits_no hmu), fop_abs] at HS
        clear hmu
        cases hsu : floatBits .add .f32 s a with
        | some b =>
          have hrs := fun W => run_fsome1 (P := Try.prog) .add 34 s a b hsu W
          have HV := Lib.hid (show absK .f32 b = dotUp xs ys (k + 1) by rw [HS.out, hsu]; exact absK_of (floatBits_no hsu))
          clear hsu
          go_wp2_with fail
          go_quiet (fail)
          go_wp2_with fail
          go_roundg (n - (k + 1))
          case measure => rw [HRK.out]; omega
          case rel => exact ⟨k + 1, b, rfl, by omega, rfl, by go_num, HV, HD.out.step _⟩
        | none =>
          have hrs := fun W => run_fnone1 (P := Try.prog) .add rfl 34 s a hsu W
          have HV := Lib.hid (fun t => show absK .f32 ((Question.nanBits .f32 s a).cut t) = dotUp xs ys (k + 1) by rw [HS.out, hsu]; exact absK_nan (cut_nan _ _ _ _))
          clear hsu
          go_wp2_with fail
          go_region_with fail
          all_goals
            go_wp2_with fail
            go_roundg (n - (k + 1))
            case measure => rw [HRK.out]; omega
            case rel => first | exact ⟨k + 1, _, rfl, by omega, rfl, by go_num, Lib.hid (HV.out _), HD.out.trans ⟨1, rfl⟩⟩ | exact ⟨k + 1, _, rfl, by omega, rfl, by go_num, Lib.hid (HV.out _), HD.out.trans ⟨2, rfl⟩⟩
      | none =>
        have hrm := fun W => run_fnone1 (P := Try.prog) .mul rfl 34 x y hmu W
        have hrs := fun t W => run_fnone1 (P := Try.prog) .add rfl 34 s ((Question.nanBits .f32 x y).cut t) (floatBits_nan_r (cut_nan _ _ _ _)) W
        have HV := Lib.hid (fun t2 t => show absK .f32 ((Question.nanBits .f32 s ((Question.nanBits .f32 x y).cut t2)).cut t) = dotUp xs ys (k + 1) by rw [HS.out, hmu, absK_nan (cut_nan _ _ _ _)]; cases absK .f32 s <;> rfl)
        clear hmu
        go_wp2_with fail
        go_region_with fail
        all_goals
          go_wp2_with fail
          go_roundg (n - (k + 1))
          case measure => rw [HRK.out]; omega
          case rel => first | exact ⟨k + 1, _, rfl, by omega, rfl, by go_num, Lib.hid (HV.out _ _), HD.out.trans ⟨2, rfl⟩⟩ | exact ⟨k + 1, _, rfl, by omega, rfl, by go_num, Lib.hid (HV.out _ _), HD.out.trans ⟨3, rfl⟩⟩
    · have e : k = n := by omega
      have HE := Lib.hid (show absK .f32 s = dotO xs ys by unfold dotO; rw [HL.out, ← e]; exact hs.out)
      clear e
      go_wp2_with fail
      go_ret
      exact ⟨s, rfl, HE.out, HD.out⟩
set_option maxRecDepth 100000 in
set_option maxHeartbeats 1000000 in
theorem l02Dot_any (A : Option Addr) (n c : Nat) (xs : List Nat) (B : Option Addr) (m d : Nat) (ys : List Nat) (w : World) (hA : FltsAt w A n xs) (hB : FltsAt w B m ys) (hnm : n ≤ m) (hm : m ≤ 1048576) :
    Calls Try.prog 95 #[.slice A n c, .slice B m d] w fun e w' => ∃ r, e = .returned (.float .f32 r) ∧ absK .f32 r = dotO xs ys ∧ Drew w w' := by
  have HL := Lib.hid hA.len
  have HA := Lib.hid hA
  have HB := Lib.hid hB
  clear hA hB
  go_enter Try.func95, Try.ntmps95
  go_wp2_with fail
  go_loopg [5, 6] n (fun rr sv iv wi => ∃ (k s : Nat), rr = n - k ∧ k ≤ n ∧ sv = .float .f32 s ∧ iv = .int .i64 k ∧ Hid (absK .f32 s = dotUp xs ys k) ∧ Drew w wi)
  case atStart => exact ⟨0, 0, rfl, Nat.zero_le _, rfl, rfl, Lib.hid abs0, Drew.refl _⟩
  case round =>
    obtain ⟨k, s, hr, hk, rfl, rfl, hs, hd⟩ := hrel
    have HRK := Lib.hid hr
    clear hr
    have HA1 := Lib.hid (HA.out.drewTo hd)
    have HB1 := Lib.hid (HB.out.drewTo hd)
    have HD := Lib.hid hd
    obtain ⟨wo, hwo⟩ : ∃ x, x = wr := ⟨_, rfl⟩
    rw [← hwo]
    rw [← hwo] at HA1 HB1 HD
    clear hwo hd
    by_cases hlt : k < n
    · have hlt' : (k : Int) < (n : Int) := by omega
      have hlm : (k : Int) < (m : Int) := by omega
      obtain ⟨ad, rfl, _, c1⟩ := HA1.out.at_ hlt
      obtain ⟨bd, rfl, _, c2⟩ := HB1.out.at_ (k := k) (by omega)
      have HS := Lib.hid (show dotUp xs ys (k + 1) = fop .add .f32 (absK .f32 s) (fop .mul .f32 (absK .f32 (xs.getD k 0)) (absK .f32 (ys.getD k 0))) by rw [hs.out]; rfl)
      generalize xs.getD k 0 = x at *
      generalize ys.getD k 0 = y at *
      rw [fop_abs] at HS
      cases hmu : floatBits .mul .f32 x y with
      | some a =>
        have hrm := fun W => run_fsome1 (P := Try.prog) .mul 34 x y a hmu W
        rw [hmu, ← absK_of (floatBits_no hmu), fop_abs] at HS
        clear hmu
        cases hsu : floatBits .add .f32 s a with
        | some b =>
          have hrs := fun W => run_fsome1 (P := Try.prog) .add 34 s a b hsu W
          have HV := Lib.hid (show absK .f32 b = dotUp xs ys (k + 1) by rw [HS.out, hsu]; exact absK_of (floatBits_no hsu))
          clear hsu
          go_wp2_with fail
          go_quiet (fail)
          go_wp2_with fail
          go_roundg (n - (k + 1))
          case measure => rw [HRK.out]; omega
          case rel => exact ⟨k + 1, b, rfl, by omega, rfl, by go_num, HV, HD.out.step _⟩
        | none =>
          have hrs := fun W => run_fnone1 (P := Try.prog) .add rfl 34 s a hsu W
          have HV := Lib.hid (fun t => show absK .f32 ((Question.nanBits .f32 s a).cut t) = dotUp xs ys (k + 1) by rw [HS.out, hsu]; exact absK_nan (cut_nan _ _ _ _))
          clear hsu
          go_wp2_with fail
          go_region_with fail
          all_goals
            go_wp2_with fail
            go_roundg (n - (k + 1))
            case measure => rw [HRK.out]; omega
            case rel => first | exact ⟨k + 1, _, rfl, by omega, rfl, by go_num, Lib.hid (HV.out _), HD.out.trans ⟨1, rfl⟩⟩ | exact ⟨k + 1, _, rfl, by omega, rfl, by go_num, Lib.hid (HV.out _), HD.out.trans ⟨2, rfl⟩⟩
      | none =>
        have hrm := fun W => run_fnone1 (P := Try.prog) .mul rfl 34 x y hmu W
        have hrs := fun t W => run_fnone1 (P := Try.prog) .add rfl 34 s ((Question.nanBits .f32 x y).cut t) (floatBits_nan_r (cut_nan _ _ _ _)) W
        have HV := Lib.hid (fun t2 t => show absK .f32 ((Question.nanBits .f32 s ((Question.nanBits .f32 x y).cut t2)).cut t) = dotUp xs ys (k + 1) by rw [HS.out, hmu, absK_nan (cut_nan _ _ _ _)]; cases absK .f32 s <;> rfl)
        clear hmu
        go_wp2_with fail
        go_region_with fail
        all_goals
          go_wp2_with fail
          go_roundg (n - (k + 1))
          case measure => rw [HRK.out]; omega
          case rel => first | exact ⟨k + 1, _, rfl, by omega, rfl, by go_num, Lib.hid (HV.out _ _), HD.out.trans ⟨2, rfl⟩⟩ | exact ⟨k + 1, _, rfl, by omega, rfl, by go_num, Lib.hid (HV.out _ _), HD.out.trans ⟨3, rfl⟩⟩
    · have e : k = n := by omega
      have HE := Lib.hid (show absK .f32 s = dotO xs ys by unfold dotO; rw [HL.out, ← e]; exact hs.out)
      clear e
      go_wp2_with fail
      go_ret
      exact ⟨s, rfl, HE.out, HD.out⟩
end Go.Proofs.Ytbbcddbdinmaaaa
