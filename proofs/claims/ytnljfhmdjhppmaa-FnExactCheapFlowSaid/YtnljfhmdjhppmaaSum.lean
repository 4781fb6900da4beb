/- Sums of numbers. -/
import Derived.Test.YtnljfhmdjhppmaaMem
namespace Go.Proofs.Ytnljfhmdjhppmaa
open Go.RowKit

def sumI (f : Nat → Int) : Nat → Int
  | 0 => 0
  | k + 1 => sumI f k + f k
theorem sumI_congr {f g : Nat → Int} : ∀ n, (∀ k, k < n → f k = g k) → sumI f n = sumI g n
  | 0, _ => rfl
  | n + 1, h => by rw [sumI, sumI, sumI_congr n fun k hk => h k (by omega), h n (by omega)]
theorem sumI_add (f g : Nat → Int) : ∀ n, sumI (fun k => f k + g k) n = sumI f n + sumI g n
  | 0 => rfl
  | n + 1 => by rw [sumI, sumI, sumI, sumI_add f g n]; omega
theorem sumI_sub (f g : Nat → Int) : ∀ n, sumI (fun k => f k - g k) n = sumI f n - sumI g n
  | 0 => rfl
  | n + 1 => by rw [sumI, sumI, sumI, sumI_sub f g n]; omega
theorem sumI_zero : ∀ n, sumI (fun _ => 0) n = 0
  | 0 => rfl
  | n + 1 => by rw [sumI, sumI_zero n]; rfl
theorem sumI_le {f g : Nat → Int} : ∀ n, (∀ k, k < n → f k ≤ g k) → sumI f n ≤ sumI g n
  | 0, _ => Int.le_refl _
  | n + 1, h => by
    have h1 := sumI_le n fun k hk => h k (by omega)
    have h2 := h n (by omega)
    rw [sumI, sumI]; omega
theorem sumI_one (a : Nat) (y : Int) : ∀ n, sumI (fun v => if a = v then y else 0) n = if a < n then y else 0
  | 0 => by simp [sumI]
  | n + 1 => by
    rw [sumI, sumI_one a y n]
    by_cases h : a = n
    · subst h; rw [if_neg (Nat.lt_irrefl a), if_pos rfl, if_pos (by omega)]; omega
    · rw [if_neg h]
      by_cases h2 : a < n
      · rw [if_pos h2, if_pos (by omega)]; omega
      · rw [if_neg h2, if_neg (by omega)]; omega
theorem sumI_comm (f : Nat → Nat → Int) (n : Nat) : ∀ m, sumI (fun i => sumI (f i) n) m = sumI (fun j => sumI (fun i => f i j) m) n
  | 0 => by rw [sumI]; exact (sumI_zero n).symm
  | m + 1 => by
    rw [sumI, sumI_comm f n m, ← sumI_add]; rfl
theorem sumI_mul (c : Int) (f : Nat → Int) : ∀ n, sumI (fun k => c * f k) n = c * sumI f n
  | 0 => by simp [sumI]
  | n + 1 => by rw [sumI, sumI, sumI_mul c f n, Int.mul_add]
/-- a sum over numbers that are all met once -/
theorem sumI_perm {n : Nat} (g : Nat → Int) (f h : Nat → Nat) (h1 : ∀ i, i < n → f i < n ∧ h (f i) = i) (h2 : ∀ k, k < n → h k < n ∧ f (h k) = k) : sumI (fun i => g (f i)) n = sumI g n := by
  have e1 : ∀ i, i < n → g (f i) = sumI (fun k => if f i = k then g k else 0) n := fun i hi => by
    have e : ∀ k, k < n → (if f i = k then g k else 0) = if f i = k then g (f i) else 0 := fun k _ => by
      by_cases e : f i = k
      · rw [if_pos e, if_pos e, e]
      · rw [if_neg e, if_neg e]
    rw [sumI_congr n e, sumI_one, if_pos (h1 i hi).1]
  rw [sumI_congr n e1, sumI_comm]
  refine sumI_congr n fun k hk => ?_
  have e : ∀ i, i < n → (if f i = k then g k else 0) = if h k = i then g k else 0 := fun i hi => by
    by_cases e : f i = k
    · subst e; rw [if_pos rfl, (h1 i hi).2, if_pos rfl]
    · rw [if_neg e, if_neg (fun e2 => e (by rw [← e2]; exact (h2 k hk).2))]
  rw [sumI_congr n e, sumI_one, if_pos (h2 k hk).1]
end Go.Proofs.Ytnljfhmdjhppmaa
