/- A float32 negated. -/
import Derived.Test.YtnjipckpkcandaaDoorFltFn
namespace Go.Proofs.YtnjipckpkcandaaDoor
open Go.RowKit

theorem negF_mod (b : Nat) : Op.negFloat .f32 b % 2147483648 = b % 2147483648 := by
  show (b ^^^ 2 ^ 31) % 2 ^ 31 = b % 2 ^ 31
  rw [Nat.xor_mod_two_pow]
  simp
theorem negF_div (b : Nat) : (Op.negFloat .f32 b / 2147483648 % 2 == 1) = !(b / 2147483648 % 2 == 1) := by
  have h : Op.negFloat .f32 b / 2147483648 = (b / 2147483648) ^^^ 1 := by
    show (b ^^^ 2 ^ 31) / 2 ^ 31 = b / 2 ^ 31 ^^^ 1
    rw [Nat.xor_div_two_pow]
  rw [h]
  generalize b / 2147483648 = c
  have h2 : (c ^^^ 1) % 2 = (c % 2) ^^^ 1 := by
    have := Nat.xor_mod_two_pow (a := c) (b := 1) (n := 1)
    simpa using this
  rw [h2]
  rcases Nat.mod_two_eq_zero_or_one c with h3 | h3 <;> rw [h3] <;> rfl
theorem read_negF (b : Nat) : FloatKind.f32.format.read (Op.negFloat .f32 b) = (FloatKind.f32.format.read b).opposite := by
  show Ieee.Format.read Ieee.single _ = (Ieee.Format.read Ieee.single _).opposite
  have sw : Ieee.single.signWeight = 2147483648 := rfl
  unfold Ieee.Format.read
  rw [sw, negF_mod, negF_div]
  dsimp only
  split
  · rfl
  · split
    · rfl
    · split <;> rfl
theorem nanK_neg (b : Nat) : nanK .f32 (Op.negFloat .f32 b) = nanK .f32 b := by
  unfold nanK
  rw [read_negF]
  exact opp_nan
def negO (x : Option Nat) : Option Nat := x.map (Op.negFloat .f32)
theorem absK_neg (b : Nat) : absK .f32 (Op.negFloat .f32 b) = negO (absK .f32 b) := by
  unfold absK
  rw [nanK_neg]
  split <;> rfl
end Go.Proofs.YtnjipckpkcandaaDoor
