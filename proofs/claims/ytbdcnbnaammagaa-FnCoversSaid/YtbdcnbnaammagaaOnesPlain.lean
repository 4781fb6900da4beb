/- The ones of a number below 65536, as math/bits counts them: by the kernel, in sixteen parts. -/
import Derived.Test.YtbdcnbnaammagaaCoverPlain
namespace Go.Proofs.Ytbdcnbnaammagaa
open Go.RowKit

def popA (x : Nat) : Nat := Nat.land (x / 2) 6148914691236517205 + Nat.land x 6148914691236517205
def popB (a : Nat) : Nat := Nat.land (a / 4) 3689348814741910323 + Nat.land a 3689348814741910323
def popC (b : Nat) : Nat := Nat.land (b / 16 + b) 1085102592571150095
def popF (c : Nat) : Nat := let d := c + c / 256; let e := d + d / 65536; e + e / 4294967296
def popN (x : Nat) : Nat := Nat.land (popF (popC (popB (popA x)))) 127
def cntN : Nat → Nat → Nat
  | 0, _ => 0
  | k + 1, m => m % 2 + cntN k (m / 2)
def chkN : Nat → Nat → Bool
  | 0, lo => Nat.beq (popN lo) (cntN 16 lo)
  | k + 1, lo => chkN k lo && chkN k (lo + 2 ^ k)
theorem chkN_0 : chkN 12 0 = true := by decide +kernel
theorem chkN_1 : chkN 12 4096 = true := by decide +kernel
theorem chkN_2 : chkN 12 8192 = true := by decide +kernel
theorem chkN_3 : chkN 12 12288 = true := by decide +kernel
theorem chkN_4 : chkN 12 16384 = true := by decide +kernel
theorem chkN_5 : chkN 12 20480 = true := by decide +kernel
theorem chkN_6 : chkN 12 24576 = true := by decide +kernel
theorem chkN_7 : chkN 12 28672 = true := by decide +kernel
theorem chkN_8 : chkN 12 32768 = true := by decide +kernel
theorem chkN_9 : chkN 12 36864 = true := by decide +kernel
theorem chkN_10 : chkN 12 40960 = true := by decide +kernel
theorem chkN_11 : chkN 12 45056 = true := by decide +kernel
theorem chkN_12 : chkN 12 49152 = true := by decide +kernel
theorem chkN_13 : chkN 12 53248 = true := by decide +kernel
theorem chkN_14 : chkN 12 57344 = true := by decide +kernel
theorem chkN_15 : chkN 12 61440 = true := by decide +kernel
theorem chkN_at : ∀ (k lo x : Nat), chkN k lo = true → lo ≤ x → x < lo + 2 ^ k → popN x = cntN 16 x
  | 0, lo, x, h, h1, h2 => by
    have e : x = lo := by rw [Nat.pow_zero] at h2; omega
    subst e
    exact Nat.eq_of_beq_eq_true h
  | k + 1, lo, x, h, h1, h2 => by
    rw [chkN, Bool.and_eq_true] at h
    rw [Nat.pow_succ] at h2
    by_cases h3 : x < lo + 2 ^ k
    · exact chkN_at k lo x h.1 h1 h3
    · exact chkN_at k (lo + 2 ^ k) x h.2 (by omega) (by omega)
theorem ones_cnt : ∀ (k m : Nat), m < 2 ^ k → k ≤ 62 → ones m = cntN k m
  | 0, m, h, _ => by
    have e : m = 0 := by rw [Nat.pow_zero] at h; omega
    subst e; rfl
  | k + 1, m, h, hk => by
    have hp : m < 2 ^ 63 := Nat.lt_of_lt_of_le h (Nat.pow_le_pow_right (by omega) (by omega))
    rw [Nat.pow_succ] at h
    rw [ones_half m hp, cntN, ones_cnt k (m / 2) (by omega) (by omega)]
theorem popN_ones (x : Nat) (hx : x < 65536) : popN x = ones x := by
  rw [ones_cnt 16 x hx (by omega)]
  have hq : x / 4096 < 16 := by omega
  have h1 : 4096 * (x / 4096) ≤ x := by omega
  have h2 : x < 4096 * (x / 4096) + 2 ^ 12 := by omega
  generalize x / 4096 = q at hq h1 h2
  match q, hq with
  | 0, _ => exact chkN_at 12 0 x chkN_0 (by omega) (by omega)
  | 1, _ => exact chkN_at 12 4096 x chkN_1 (by omega) (by omega)
  | 2, _ => exact chkN_at 12 8192 x chkN_2 (by omega) (by omega)
  | 3, _ => exact chkN_at 12 12288 x chkN_3 (by omega) (by omega)
  | 4, _ => exact chkN_at 12 16384 x chkN_4 (by omega) (by omega)
  | 5, _ => exact chkN_at 12 20480 x chkN_5 (by omega) (by omega)
  | 6, _ => exact chkN_at 12 24576 x chkN_6 (by omega) (by omega)
  | 7, _ => exact chkN_at 12 28672 x chkN_7 (by omega) (by omega)
  | 8, _ => exact chkN_at 12 32768 x chkN_8 (by omega) (by omega)
  | 9, _ => exact chkN_at 12 36864 x chkN_9 (by omega) (by omega)
  | 10, _ => exact chkN_at 12 40960 x chkN_10 (by omega) (by omega)
  | 11, _ => exact chkN_at 12 45056 x chkN_11 (by omega) (by omega)
  | 12, _ => exact chkN_at 12 49152 x chkN_12 (by omega) (by omega)
  | 13, _ => exact chkN_at 12 53248 x chkN_13 (by omega) (by omega)
  | 14, _ => exact chkN_at 12 57344 x chkN_14 (by omega) (by omega)
  | 15, _ => exact chkN_at 12 61440 x chkN_15 (by omega) (by omega)
  | q + 16, hq => omega
theorem popA_bd (x : Nat) (hx : x < 65536) : popA x < 131072 := by
  have h1 : Nat.land (x / 2) 6148914691236517205 ≤ x / 2 := Nat.and_le_left
  have h2 : Nat.land x 6148914691236517205 ≤ x := Nat.and_le_left
  unfold popA; omega
theorem popB_bd (x : Nat) (hx : x < 131072) : popB x < 262144 := by
  have h1 : Nat.land (x / 4) 3689348814741910323 ≤ x / 4 := Nat.and_le_left
  have h2 : Nat.land x 3689348814741910323 ≤ x := Nat.and_le_left
  unfold popB; omega
theorem popC_bd (x : Nat) (hx : x < 262144) : popC x < 524288 := by
  have h1 : Nat.land (x / 16 + x) 1085102592571150095 ≤ x / 16 + x := Nat.and_le_left
  unfold popC; omega
end Go.Proofs.Ytbdcnbnaammagaa
