/- Tenths of decibels: the contracts at the law's numbers. -/
import Derived.Test.YtnjipckpkcandaaCirV0
import Derived.Test.YtnjipckpkcandaaCirV1
import Derived.Test.YtnjipckpkcandaaCirV2
import Derived.Test.YtnjipckpkcandaaCirV3
import Derived.Test.YtnjipckpkcandaaCirV4
import Derived.Test.YtnjipckpkcandaaCirV5
import Derived.Test.YtnjipckpkcandaaCirV6
import Derived.Test.YtnjipckpkcandaaCirV7
import Derived.Test.YtnjipckpkcandaaCirV8
import Derived.Test.YtnjipckpkcandaaCirM
import Derived.Test.YtnjipckpkcandaaCirA
namespace Go.Proofs.Ytnjipckpkcandaa
open Ieee
namespace Cir
theorem tenC_all {n : Nat} (h : n < 40960) : tenC fst n = true := by
  by_cases h0 : n < 2048
  · exact tenV0 (by omega) h0
  by_cases h1 : n < 4096
  · exact tenV1 (by omega) h1
  by_cases h2 : n < 7168
  · exact tenV2 (by omega) h2
  by_cases h3 : n < 10240
  · exact tenV3 (by omega) h3
  by_cases h4 : n < 13312
  · exact tenV4 (by omega) h4
  by_cases h5 : n < 17408
  · exact tenV5 (by omega) h5
  by_cases h6 : n < 22528
  · exact tenV6 (by omega) h6
  by_cases h7 : n < 28672
  · exact tenV7 (by omega) h7
  exact tenV8 (by omega) h
theorem eqI_iff {a : Option Int} {b : Nat} (h : eqI a b = true) : a = some ((b : Int) - 200) := by
  cases a with
  | none => cases h
  | some x =>
    have h := of_decide_eq_true (show decide (x + 200 = (b : Int)) = true from h)
    rw [show x = (b : Int) - 200 by omega]
theorem ten_at {n : Nat} (h : n < 40960) (hp : isP n = true) : tenO gen (x32 n) = some ((tenN n : Int) - 200) ∧ floatBits .sub .f32 (x32 n) (x32 n) = some 0 ∧ (FloatKind.f32.format.order (x32 n) 0 == some .lt || FloatKind.f32.format.order (x32 n) 0 == some .eq) = false := by
  have h := tenC_all h
  unfold tenC at h
  rw [Fst.force_eq, hp, cond_true, Fst.force_eq] at h
  obtain ⟨h1, h2⟩ := cond_t h
  unfold posC at h1
  obtain ⟨h3, h1⟩ := cond_t h1
  obtain ⟨h4, _⟩ := cond_f h1
  rw [gen_fst, fb_sub32]
  exact ⟨eqI_iff h2, eqN_iff h3, h4⟩
theorem pair_at {i j : Nat} (hi : i < 200) (hj : j < 200) : isP ((i + 1) * (j + 1)) = true ∧ (tenN (8 * (i + 1)) + tenN (8 * (j + 1)) ≤ tenN ((i + 1) * (j + 1)) + 201 ∧ tenN ((i + 1) * (j + 1)) + 199 ≤ tenN (8 * (i + 1)) + tenN (8 * (j + 1))) ∧ floatBits .mul .f32 (x32 (8 * (i + 1))) (x32 (8 * (j + 1))) = some (x32 ((i + 1) * (j + 1))) := by
  have h := allB_at 8 0 j (allB_at 8 0 i pair_ok (Nat.zero_le _) (by omega)) (Nat.zero_le _) (by omega)
  unfold pairC at h
  rw [Fst.force_eq, Fst.force_eq, show Nat.blt 200 (Nat.succ i) = false by rw [Bool.eq_false_iff, Ne, Fst.blt_iff]; omega, show Nat.blt 200 (Nat.succ j) = false by rw [Bool.eq_false_iff, Ne, Fst.blt_iff]; omega, cond_false, cond_false, Fst.force_eq, Fst.force_eq, Fst.force_eq] at h
  obtain ⟨h1, h⟩ := cond_t h
  obtain ⟨h2, h⟩ := cond_t h
  rw [Fst.force_eq, Fst.force_eq, Fst.force_eq] at h h2
  unfold pairN at h2
  rw [Fst.force_eq] at h2
  obtain ⟨h3, h4⟩ := cond_t h2
  rw [fb_mul32]
  exact ⟨h1, ⟨Nat.le_of_ble_eq_true h3, Nat.le_of_ble_eq_true h4⟩, eqN_iff h⟩
def eight32 : Nat := 1090519040
def ofI32 (n : Int) : Nat := single.nearest (n < 0) n.natAbs 0
def eigC (i : Nat) : Bool := cond (Nat.blt i 200) (cond (isP (8 * (i + 1))) (eqN (floatBits .quo .f32 (ofI32 ((1 : Int) + (i : Int))) eight32) (x32 (8 * (i + 1)))) false) true
theorem eig_ok : allB (fun i => Fst.force i eigC) 8 0 = true := by decide +kernel
theorem eig_at {i : Nat} (hi : i < 200) : isP (8 * (i + 1)) = true ∧ floatBits .quo .f32 (ofI32 ((1 : Int) + (i : Int))) eight32 = some (x32 (8 * (i + 1))) := by
  have h := allB_at 8 0 i eig_ok (Nat.zero_le _) (by omega)
  rw [Fst.force_eq] at h
  unfold eigC at h
  rw [show Nat.blt i 200 = true from Fst.blt_iff.2 hi, cond_true] at h
  obtain ⟨h1, h⟩ := cond_t h
  exact ⟨h1, eqN_iff h⟩
theorem small_ok : allB (fun n => Fst.force n fun n => Nat.ble (tenN n) 1000) 16 0 = true := by decide +kernel
theorem small_at {n : Nat} (h : n < 40960) : tenN n ≤ 1000 := by
  have h := allB_at 16 0 n small_ok (Nat.zero_le _) (by omega)
  rw [Fst.force_eq] at h
  exact Nat.le_of_ble_eq_true h
theorem ten_one : tenN 64 = 200 ∧ isP 64 = true ∧ x32 64 = 1065353216 := by decide +kernel
end Cir
open Go.RowKit
theorem tenths_at {n : Nat} (h : n < 40960) (hp : Cir.isP n = true) (w : World) : Calls Try.prog 13 #[.float .f32 (Cir.x32 n)] w fun e w' => e = .returned (.tuple #[.int .i64 ((Cir.tenN n : Int) - 200), .bool true]) ∧ w = w' := by
  obtain ⟨h1, h2, h3⟩ := Cir.ten_at h hp
  exact tenths_any _ 0 _ h1 h2 (by decide) h3 w
/-- all that the law asks of tenths -/
structure TenF (i j : Nat) (x y xy : Nat) (m n o : Int) : Prop where
  qx : floatBits .quo .f32 (Cir.ofI32 ((1 : Int) + (i : Int))) Cir.eight32 = some x
  qy : floatBits .quo .f32 (Cir.ofI32 ((1 : Int) + (j : Int))) Cir.eight32 = some y
  mul : floatBits .mul .f32 x y = some xy
  tx : ∀ w : World, Calls Try.prog 13 #[.float .f32 x] w fun e w' => e = .returned (.tuple #[.int .i64 m, .bool true]) ∧ w = w'
  ty : ∀ w : World, Calls Try.prog 13 #[.float .f32 y] w fun e w' => e = .returned (.tuple #[.int .i64 n, .bool true]) ∧ w = w'
  txy : ∀ w : World, Calls Try.prog 13 #[.float .f32 xy] w fun e w' => e = .returned (.tuple #[.int .i64 o, .bool true]) ∧ w = w'
  bm : -200 ≤ m ∧ m ≤ 100000
  bn : -200 ≤ n ∧ n ≤ 100000
  bo : -200 ≤ o ∧ o ≤ 100000
  le : m + n - o ≤ 1
  ge : o - m - n ≤ 1
theorem tenF_at {i j : Nat} (hi : i < 200) (hj : j < 200) : ∃ xy m n o, TenF i j (Cir.x32 (8 * (i + 1))) (Cir.x32 (8 * (j + 1))) xy m n o := by
  obtain ⟨h1, h2, h3⟩ := Cir.pair_at hi hj
  obtain ⟨ei, qi⟩ := Cir.eig_at hi
  obtain ⟨ej, qj⟩ := Cir.eig_at hj
  have hn : (i + 1) * (j + 1) ≤ 200 * 200 := Nat.mul_le_mul (by omega) (by omega)
  refine ⟨_, _, _, _, qi, qj, h3, fun w => tenths_at (by omega) ei w, fun w => tenths_at (by omega) ej w, fun w => tenths_at (by omega) h1 w, ?_, ?_, ?_, by omega, by omega⟩
  · have := Cir.small_at (show 8 * (i + 1) < 40960 by omega); omega
  · have := Cir.small_at (show 8 * (j + 1) < 40960 by omega); omega
  · have := Cir.small_at (show (i + 1) * (j + 1) < 40960 by omega); omega
theorem ten_one_at (w : World) : Calls Try.prog 13 #[.float .f32 1065353216] w fun e w' => e = .returned (.tuple #[.int .i64 0, .bool true]) ∧ w = w' := by
  obtain ⟨h1, h2, h3⟩ := Cir.ten_one
  have h := tenths_at (n := 64) (by omega) h2 w
  rw [h3, h1] at h
  exact h
end Go.Proofs.Ytnjipckpkcandaa
