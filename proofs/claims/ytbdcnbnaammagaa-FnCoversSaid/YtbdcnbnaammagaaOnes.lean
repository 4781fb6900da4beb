/- math/bits.OnesCount64 for small numbers. -/
import Derived.Test.YtbdcnbnaammagaaOnesPlain
namespace Go.Proofs.Ytbdcnbnaammagaa
open Go.RowKit

theorem ofInt_u64 (a : Nat) (ha : a < 18446744073709551616) : (BitVec.ofInt 64 (a : Int)).toNat = a := by
  rw [BitVec.ofInt_natCast, BitVec.toNat_ofNat]; exact Nat.mod_eq_of_lt (by omega)
theorem u64_and_nat (a b : Nat) (ha : a < 9223372036854775808) (hb : b < 18446744073709551616) : bits .and .u64 (a : Int) (b : Int) = ((Nat.land a b : Nat) : Int) := by
  have hx : a &&& b ≤ a := Nat.and_le_left
  show IntKind.u64.wrap ((BitVec.ofInt 64 (a : Int) &&& BitVec.ofInt 64 (b : Int)).toNat : Int) = ((a &&& b : Nat) : Int)
  rw [BitVec.toNat_and, ofInt_u64 a (by omega), ofInt_u64 b hb]
  exact IntWalk.u64_in _ (by omega)

set_option maxRecDepth 100000 in
set_option maxHeartbeats 1600000 in
theorem onesCount64_any (x : Nat) (w : World) (hx : x < 65536) :
    Calls Try.prog 29 #[.int .u64 x] w fun e w' => e = .returned (.int .i64 (ones x : Nat)) ∧ w = w' := by
  have hp := popN_ones x hx
  have b1 : Nat.land (x / 2) 6148914691236517205 ≤ x / 2 := Nat.and_le_left
  have b2 : Nat.land x 6148914691236517205 ≤ x := Nat.and_le_left
  have h1 := u64_and_nat (x / 2) 6148914691236517205 (by omega) (by omega)
  have h2 := u64_and_nat x 6148914691236517205 (by omega) (by omega)
  rw [popN, popA] at hp
  generalize Nat.land (x / 2) 6148914691236517205 = n1 at *
  generalize Nat.land x 6148914691236517205 = n2 at *
  rw [popB] at hp
  have b3 : Nat.land ((n1 + n2) / 4) 3689348814741910323 ≤ (n1 + n2) / 4 := Nat.and_le_left
  have b4 : Nat.land (n1 + n2) 3689348814741910323 ≤ n1 + n2 := Nat.and_le_left
  have h3 := u64_and_nat ((n1 + n2) / 4) 3689348814741910323 (by omega) (by omega)
  have h4 := u64_and_nat (n1 + n2) 3689348814741910323 (by omega) (by omega)
  generalize Nat.land ((n1 + n2) / 4) 3689348814741910323 = n3 at *
  generalize Nat.land (n1 + n2) 3689348814741910323 = n4 at *
  rw [popC] at hp
  have b5 : Nat.land ((n3 + n4) / 16 + (n3 + n4)) 1085102592571150095 ≤ (n3 + n4) / 16 + (n3 + n4) := Nat.and_le_left
  have h5 := u64_and_nat ((n3 + n4) / 16 + (n3 + n4)) 1085102592571150095 (by omega) (by omega)
  generalize Nat.land ((n3 + n4) / 16 + (n3 + n4)) 1085102592571150095 = c at *
  have g1 : bits .and .u64 ((x : Int) / 2) 6148914691236517205 = (n1 : Int) := h1
  have g2 : bits .and .u64 (x : Int) 6148914691236517205 = (n2 : Int) := h2
  have g3 : bits .and .u64 (((n1 : Int) + (n2 : Int)) / 4) 3689348814741910323 = (n3 : Int) := h3
  have g4 : bits .and .u64 ((n1 : Int) + (n2 : Int)) 3689348814741910323 = (n4 : Int) := h4
  have g5 : bits .and .u64 (((n3 : Int) + (n4 : Int)) / 16 + ((n3 : Int) + (n4 : Int))) 1085102592571150095 = (c : Int) := h5
  clear h1 h2 h3 h4 h5
  have b6 : x ≤ 65535 := by omega
  have b7 : n1 + n2 ≤ 131072 := by omega
  have b8 : n3 + n4 ≤ 262144 := by omega
  have b9 : c ≤ 524288 := by omega
  have HP := Lib.hid hp
  clear hp hx b1 b2 b3 b4 b5
  go_enter Try.func29, Try.ntmps29
  go_wp2
  go_ret
  have hf : popF c < 9223372036854775808 := by unfold popF; simp only; omega
  have h6 := i64_and_nat (popF c) 127 hf (by omega)
  have h7 : ((popF c &&& 127 : Nat) : Int) = (ones x : Nat) := by rw [← HP.out]; rfl
  rw [h7] at h6
  exact ⟨ret_int h6, rfl⟩

/-- the bits of an int that is a number, as the number of an uint64 -/
theorem onesCount64_le (x : Nat) (hx : x < 65536) : ones x ≤ 16 := by
  rw [ones_cnt 16 x hx (by omega)]
  have h : ∀ k m, cntN k m ≤ k := by
    intro k
    induction k with
    | zero => intro m; exact Nat.le_refl _
    | succ k ih => intro m; have := ih (m / 2); unfold cntN; omega
  exact h 16 x
end Go.Proofs.Ytbdcnbnaammagaa
