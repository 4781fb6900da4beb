/- The ones of a number below 65536, as math/bits counts them: for seats that lack the tours. -/
import Derived.Test.YtfoelpmglmaamaaAppend
namespace Go.Proofs.Ytfoelpmglmaamaa
open Go.RowKit

def qpopA (x : Nat) : Nat := Nat.land (x / 2) 6148914691236517205 + Nat.land x 6148914691236517205
def qpopB (a : Nat) : Nat := Nat.land (a / 4) 3689348814741910323 + Nat.land a 3689348814741910323
def qpopC (b : Nat) : Nat := Nat.land (b / 16 + b) 1085102592571150095
def qpopF (c : Nat) : Nat := let d := c + c / 256; let e := d + d / 65536; e + e / 4294967296
def qpopN (x : Nat) : Nat := Nat.land (qpopF (qpopC (qpopB (qpopA x)))) 127
def qcntN : Nat → Nat → Nat
  | 0, _ => 0
  | k + 1, m => m % 2 + qcntN k (m / 2)
def qchkN : Nat → Nat → Bool
  | 0, lo => Nat.beq (qpopN lo) (qcntN 16 lo)
  | k + 1, lo => qchkN k lo && qchkN k (lo + 2 ^ k)
theorem qchkN_0 : qchkN 12 0 = true := by decide +kernel
theorem qchkN_1 : qchkN 12 4096 = true := by decide +kernel
theorem qchkN_2 : qchkN 12 8192 = true := by decide +kernel
theorem qchkN_3 : qchkN 12 12288 = true := by decide +kernel
theorem qchkN_4 : qchkN 12 16384 = true := by decide +kernel
theorem qchkN_5 : qchkN 12 20480 = true := by decide +kernel
theorem qchkN_6 : qchkN 12 24576 = true := by decide +kernel
theorem qchkN_7 : qchkN 12 28672 = true := by decide +kernel
theorem qchkN_8 : qchkN 12 32768 = true := by decide +kernel
theorem qchkN_9 : qchkN 12 36864 = true := by decide +kernel
theorem qchkN_10 : qchkN 12 40960 = true := by decide +kernel
theorem qchkN_11 : qchkN 12 45056 = true := by decide +kernel
theorem qchkN_12 : qchkN 12 49152 = true := by decide +kernel
theorem qchkN_13 : qchkN 12 53248 = true := by decide +kernel
theorem qchkN_14 : qchkN 12 57344 = true := by decide +kernel
theorem qchkN_15 : qchkN 12 61440 = true := by decide +kernel
theorem qchkN_at : ∀ (k lo x : Nat), qchkN k lo = true → lo ≤ x → x < lo + 2 ^ k → qpopN x = qcntN 16 x
  | 0, lo, x, h, h1, h2 => by
    have e : x = lo := by rw [Nat.pow_zero] at h2; omega
    subst e
    exact Nat.eq_of_beq_eq_true h
  | k + 1, lo, x, h, h1, h2 => by
    rw [qchkN, Bool.and_eq_true] at h
    rw [Nat.pow_succ] at h2
    by_cases h3 : x < lo + 2 ^ k
    · exact qchkN_at k lo x h.1 h1 h3
    · exact qchkN_at k (lo + 2 ^ k) x h.2 (by omega) (by omega)
theorem qpopN_ones (x : Nat) (hx : x < 65536) : qpopN x = qcntN 16 x := by
  have hq : x / 4096 < 16 := by omega
  have h1 : 4096 * (x / 4096) ≤ x := by omega
  have h2 : x < 4096 * (x / 4096) + 2 ^ 12 := by omega
  generalize x / 4096 = q at hq h1 h2
  match q, hq with
  | 0, _ => exact qchkN_at 12 0 x qchkN_0 (by omega) (by omega)
  | 1, _ => exact qchkN_at 12 4096 x qchkN_1 (by omega) (by omega)
  | 2, _ => exact qchkN_at 12 8192 x qchkN_2 (by omega) (by omega)
  | 3, _ => exact qchkN_at 12 12288 x qchkN_3 (by omega) (by omega)
  | 4, _ => exact qchkN_at 12 16384 x qchkN_4 (by omega) (by omega)
  | 5, _ => exact qchkN_at 12 20480 x qchkN_5 (by omega) (by omega)
  | 6, _ => exact qchkN_at 12 24576 x qchkN_6 (by omega) (by omega)
  | 7, _ => exact qchkN_at 12 28672 x qchkN_7 (by omega) (by omega)
  | 8, _ => exact qchkN_at 12 32768 x qchkN_8 (by omega) (by omega)
  | 9, _ => exact qchkN_at 12 36864 x qchkN_9 (by omega) (by omega)
  | 10, _ => exact qchkN_at 12 40960 x qchkN_10 (by omega) (by omega)
  | 11, _ => exact qchkN_at 12 45056 x qchkN_11 (by omega) (by omega)
  | 12, _ => exact qchkN_at 12 49152 x qchkN_12 (by omega) (by omega)
  | 13, _ => exact qchkN_at 12 53248 x qchkN_13 (by omega) (by omega)
  | 14, _ => exact qchkN_at 12 57344 x qchkN_14 (by omega) (by omega)
  | 15, _ => exact qchkN_at 12 61440 x qchkN_15 (by omega) (by omega)
  | q + 16, hq => omega
theorem qpopA_bd (x : Nat) (hx : x < 65536) : qpopA x < 131072 := by
  have h1 : Nat.land (x / 2) 6148914691236517205 ≤ x / 2 := Nat.and_le_left
  have h2 : Nat.land x 6148914691236517205 ≤ x := Nat.and_le_left
  unfold qpopA; omega
theorem qpopB_bd (x : Nat) (hx : x < 131072) : qpopB x < 262144 := by
  have h1 : Nat.land (x / 4) 3689348814741910323 ≤ x / 4 := Nat.and_le_left
  have h2 : Nat.land x 3689348814741910323 ≤ x := Nat.and_le_left
  unfold qpopB; omega
theorem qpopC_bd (x : Nat) (hx : x < 262144) : qpopC x < 524288 := by
  have h1 : Nat.land (x / 16 + x) 1085102592571150095 ≤ x / 16 + x := Nat.and_le_left
  unfold qpopC; omega
theorem ofInt_u64_q (a : Nat) (ha : a < 18446744073709551616) : (BitVec.ofInt 64 (a : Int)).toNat = a := by
  rw [BitVec.ofInt_natCast, BitVec.toNat_ofNat]; exact Nat.mod_eq_of_lt (by omega)
theorem u64_and_nat_q (a b : Nat) (ha : a < 9223372036854775808) (hb : b < 18446744073709551616) : bits .and .u64 (a : Int) (b : Int) = ((Nat.land a b : Nat) : Int) := by
  have hx : a &&& b ≤ a := Nat.and_le_left
  show IntKind.u64.wrap ((BitVec.ofInt 64 (a : Int) &&& BitVec.ofInt 64 (b : Int)).toNat : Int) = ((a &&& b : Nat) : Int)
  rw [BitVec.toNat_and, ofInt_u64_q a (by omega), ofInt_u64_q b hb]
  exact IntWalk.u64_in _ (by omega)

set_option maxRecDepth 100000 in
set_option maxHeartbeats 1600000 in
theorem onesCount64_any_q (x : Nat) (w : World) (hx : x < 65536) :
    Calls Try.prog 36 #[.int .u64 x] w fun e w' => e = .returned (.int .i64 (qcntN 16 x : Nat)) ∧ w = w' := by
  have hp := qpopN_ones x hx
  have b1 : Nat.land (x / 2) 6148914691236517205 ≤ x / 2 := Nat.and_le_left
  have b2 : Nat.land x 6148914691236517205 ≤ x := Nat.and_le_left
  have h1 := u64_and_nat_q (x / 2) 6148914691236517205 (by omega) (by omega)
  have h2 := u64_and_nat_q x 6148914691236517205 (by omega) (by omega)
  rw [qpopN, qpopA] at hp
  generalize Nat.land (x / 2) 6148914691236517205 = n1 at *
  generalize Nat.land x 6148914691236517205 = n2 at *
  rw [qpopB] at hp
  have b3 : Nat.land ((n1 + n2) / 4) 3689348814741910323 ≤ (n1 + n2) / 4 := Nat.and_le_left
  have b4 : Nat.land (n1 + n2) 3689348814741910323 ≤ n1 + n2 := Nat.and_le_left
  have h3 := u64_and_nat_q ((n1 + n2) / 4) 3689348814741910323 (by omega) (by omega)
  have h4 := u64_and_nat_q (n1 + n2) 3689348814741910323 (by omega) (by omega)
  generalize Nat.land ((n1 + n2) / 4) 3689348814741910323 = n3 at *
  generalize Nat.land (n1 + n2) 3689348814741910323 = n4 at *
  rw [qpopC] at hp
  have b5 : Nat.land ((n3 + n4) / 16 + (n3 + n4)) 1085102592571150095 ≤ (n3 + n4) / 16 + (n3 + n4) := Nat.and_le_left
  have h5 := u64_and_nat_q ((n3 + n4) / 16 + (n3 + n4)) 1085102592571150095 (by omega) (by omega)
  generalize Nat.land ((n3 + n4) / 16 + (n3 + n4)) 1085102592571150095 = c at *
  have g1 : bits .and .u64 ((x : Int) / 2) 6148914691236517205 = (n1 : Int) := h1
  have g2 : bits .and .u64 (x : Int) 6148914691236517205 = (n2 : Int) := h2
  have g3 : bits .and .u64 (((n1 : Int) + (n2 : Int)) / 4) 3689348814741910323 = (n3 : Int) := h3
  have g4 : bits .and .u64 ((n1 : Int) + (n2 : Int)) 3689348814741910323 = (n4 : Int) := h4
  have g5 : bits .and .u64 (((n3 : Int) + (n4 : Int)) / 16 + ((n3 : Int) + (n4 : Int))) 1085102592571150095 = (c : Int) := h5
  clear h1 h2 h3 h4 h5
  have b6 : x ≤ 65535 := by omega
  have b7 : n1 + n2 ≤ 131072 := by omega
  have b8 : n3 + n4 ≤ 262144 := by omega
  have b9 : c ≤ 524288 := by omega
  have HP := Lib.hid hp
  clear hp hx b1 b2 b3 b4 b5
  go_enter Try.func36, Try.ntmps36
  go_wp2
  go_ret
  have hf : qpopF c < 9223372036854775808 := by unfold qpopF; simp only; omega
  have h6 := i64_and_nat (qpopF c) 127 hf (by omega)
  have h7 : ((qpopF c &&& 127 : Nat) : Int) = (qcntN 16 x : Nat) := by rw [← HP.out]; rfl
  rw [h7] at h6
  exact ⟨ret_int h6, rfl⟩

/-- the ones of a number, one bit after the other -/
def bcnt (m : Nat) : Nat → Nat
  | 0 => 0
  | k + 1 => if m.testBit k = true then bcnt m k + 1 else bcnt m k
theorem bcnt_half (m : Nat) : ∀ k, bcnt m (k + 1) = m % 2 + bcnt (m / 2) k
  | 0 => by
    show (if m.testBit 0 = true then 0 + 1 else 0) = m % 2 + 0
    rw [Nat.testBit_zero]
    by_cases h : m % 2 = 1
    · simp [h]
    · simp [show m % 2 = 0 by omega]
  | k + 1 => by
    have ih := bcnt_half m k
    show (if m.testBit (k + 1) = true then bcnt m (k + 1) + 1 else bcnt m (k + 1)) = m % 2 + (if (m / 2).testBit k = true then bcnt (m / 2) k + 1 else bcnt (m / 2) k)
    rw [Nat.testBit_succ, ih]
    split <;> omega
theorem bcnt_cnt : ∀ k m, bcnt m k = qcntN k m
  | 0, _ => rfl
  | k + 1, m => by rw [bcnt_half, bcnt_cnt k (m / 2)]; rfl
theorem bcnt_le (m : Nat) : ∀ k, bcnt m k ≤ k
  | 0 => Nat.le_refl _
  | k + 1 => by
    have := bcnt_le m k
    unfold bcnt
    split <;> omega
theorem bcnt_more {m S : Nat} (h : m < 2 ^ S) : ∀ d, bcnt m (S + d) = bcnt m S
  | 0 => rfl
  | d + 1 => by
    show (if m.testBit (S + d) = true then bcnt m (S + d) + 1 else bcnt m (S + d)) = _
    rw [Nat.testBit_lt_two_pow (Nat.lt_of_lt_of_le h (Nat.pow_le_pow_right (by omega) (by omega))), if_neg (by decide)]
    exact bcnt_more h d
theorem bcnt_full : ∀ (S m : Nat), m + 1 < 2 ^ S → bcnt m S < S
  | 0, m, h => by rw [Nat.pow_zero] at h; omega
  | S + 1, m, h => by
    rw [Nat.pow_succ] at h
    rw [bcnt_half]
    have h2 := bcnt_le (m / 2) S
    by_cases h3 : m / 2 + 1 < 2 ^ S
    · have := bcnt_full S (m / 2) h3; omega
    · omega
theorem onesCount_any (S m : Nat) (w : World) (hS : S ≤ 16) (hm : m < 2 ^ S) :
    Calls Try.prog 36 #[.int .u64 m] w fun e w' => e = .returned (.int .i64 (bcnt m S : Nat)) ∧ w = w' := by
  have h := onesCount64_any_q m w (Nat.lt_of_lt_of_le hm (Nat.pow_le_pow_right (by omega) hS))
  rw [← bcnt_cnt, show 16 = S + (16 - S) by omega, bcnt_more hm] at h
  exact h
end Go.Proofs.Ytfoelpmglmaamaa
