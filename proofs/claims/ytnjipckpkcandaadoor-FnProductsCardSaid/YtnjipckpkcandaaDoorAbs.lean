/- The absolute value of a float32: the program's (by float64 and its bits) and the reference's (a difference) are greater than a number together. -/
import Derived.Test.YtnjipckpkcandaaDoorNegF
import Derived.Test.YtnjipckpkcandaaDoorFltLaw
import Derived.Laws.Externs
namespace Go.Proofs.YtnjipckpkcandaaDoor
open Go.RowKit

theorem log2_of {m k : Nat} (h1 : 2 ^ k ≤ m) (h2 : m < 2 ^ (k + 1)) : m.log2 = k := by
  have h0 : m ≠ 0 := by have := Nat.two_pow_pos k; omega
  have a := (Nat.log2_lt h0).2 h2
  have b := (Nat.le_log2 h0).2 h1
  omega
theorem log2_shl {m d : Nat} (h : m ≠ 0) : (m <<< d).log2 = m.log2 + d := by
  apply log2_of
  · rw [Nat.shiftLeft_eq, Nat.pow_add]
    exact Nat.mul_le_mul_right _ (Nat.log2_self_le h)
  · rw [Nat.shiftLeft_eq, show m.log2 + d + 1 = (m.log2 + 1) + d by omega, Nat.pow_add]
    exact Nat.mul_lt_mul_of_pos_right Nat.lt_log2_self (Nat.two_pow_pos _)
theorem cut_shift {neg : Bool} {m d : Nat} (h : m ≠ 0) : Ieee.Toward.even.cut neg (m <<< d) d = m := by
  unfold Ieee.Toward.cut
  have hg : min d ((m <<< d).log2 + 2) = d := by rw [log2_shl h]; omega
  rw [hg, Nat.one_shiftLeft, Nat.shiftLeft_eq]
  dsimp only
  rw [Nat.mul_div_cancel _ (Nat.two_pow_pos d), Nat.mul_mod_left]
  have h1 : decide (2 ^ d < 2 * 0) = false := by simp
  have h2 : (2 ^ d == 2 * 0) = false := by simp
  rw [h1, h2]
  rfl
theorem cut_none {neg : Bool} {m : Nat} : Ieee.Toward.even.cut neg m 0 = m := by
  unfold Ieee.Toward.cut
  simp [Nat.mod_one]
/-- what a word of a number below infinity reads -/
theorem sread {b : Nat} {s : Bool} {m : Nat} {p : Int} (h : Ieee.single.read b = .number s m p) :
    (m < 8388608 ∧ p = -149 ∧ b % 2147483648 = m) ∨ (∃ e : Nat, 1 ≤ e ∧ e ≤ 254 ∧ 8388608 ≤ m ∧ m < 16777216 ∧ p = -149 + ((e : Int) - 1) ∧ b % 2147483648 = e * 8388608 + (m - 8388608)) := by
  have e1 : (Ieee.single).signWeight = 2147483648 := by rfl
  have e2 : (Ieee.single).binade = 8388608 := by rfl
  have e3 : (Ieee.single).infRung = 2139095040 := by rfl
  have e4 : (Ieee.single).leastPlace = -149 := by rfl
  unfold Ieee.Format.read at h
  rw [e1, e2, e3, e4] at h
  dsimp only at h
  split at h
  · injection h with h1 h2 h3
    exact .inl ⟨by omega, h3.symm, h2⟩
  · split at h
    · injection h with h1 h2 h3
      refine .inr ⟨b % 2147483648 / 8388608, by omega, by omega, by omega, by omega, ?_, by omega⟩
      rw [← h3]
      have : 1 ≤ b % 2147483648 / 8388608 := by omega
      omega
    · split at h <;> cases h
theorem log2_lt24 {m : Nat} (h : m < 16777216) (h0 : m ≠ 0) : m.log2 < 24 := (Nat.log2_lt h0).2 h
/-- the nearest float32 of a float32's magnitude, told with more digits -/
theorem snear {b : Nat} {s : Bool} {m : Nat} {p : Int} {d : Nat} (h : Ieee.single.read b = .number s m p) (h0 : m ≠ 0) : Ieee.single.nearest false (m <<< d) (p - d) = b % 2147483648 := by
  have e2 : (Ieee.single).binade = 8388608 := by rfl
  have e3 : (Ieee.single).infRung = 2139095040 := by rfl
  have e4 : (Ieee.single).leastPlace = -149 := by rfl
  have e5 : (Ieee.single).fractionBits = 23 := by rfl
  have hs : m <<< d ≠ 0 := by rw [Nat.shiftLeft_eq]; exact Nat.mul_ne_zero h0 (Nat.ne_of_gt (Nat.two_pow_pos d))
  have hl : (m <<< d).log2 = m.log2 + d := log2_shl h0
  unfold Ieee.Format.nearest
  rw [if_neg hs, e2, e3, e4, e5, hl]
  dsimp only
  have hp : max (p - (d : Int) + ((m.log2 + d : Nat) : Int) - (23 : Nat)) (-149) = p := by
    rcases sread h with ⟨h1, h2, _⟩ | ⟨e, h1, _, h3, h4, h5, _⟩
    · have : m.log2 < 23 := (Nat.log2_lt h0).2 h1
      omega
    · have : m.log2 = 23 := log2_of h3 h4
      omega
  rw [hp]
  have hd : (p - (p - (d : Int))).toNat = d := by omega
  have hz : (p - (d : Int) - p).toNat = 0 := by omega
  rw [hd, hz, Nat.shiftLeft_zero, cut_shift h0]
  unfold Ieee.Format.word
  rw [if_neg Bool.false_ne_true]
  clear hp hd hz hl hs
  rcases sread h with ⟨h1, h2, h3⟩ | ⟨e, h1, h1', h3, h4, h5, h6⟩
  · rw [h2, h3]
    have : ((-149 : Int) - -149).toNat = 0 := by omega
    rw [this, Nat.zero_mul, Nat.zero_add, Nat.min_eq_left (Nat.le_of_lt (Nat.lt_trans h1 (by decide)))]
  · rw [h6, h5]
    have : (-149 + ((e : Int) - 1) - -149).toNat = e - 1 := by omega
    rw [this]
    clear this h5 h6
    rw [Nat.min_eq_left]
    · omega
    · omega
/-- the float64 of a float32's magnitude: its word and what it reads -/
theorem dnear {b : Nat} {s : Bool} {m : Nat} {p : Int} (h : Ieee.single.read b = .number s m p) (h0 : m ≠ 0) : ∃ r, Ieee.double.nearest s m p = Ieee.double.word s r ∧ r < 9223372036854775808 ∧ Ieee.double.read r = .number false (m <<< (52 - m.log2)) (p - ((52 - m.log2 : Nat) : Int)) := by
  have e1 : (Ieee.double).signWeight = 9223372036854775808 := by rfl
  have e2 : (Ieee.double).binade = 4503599627370496 := by rfl
  have e3 : (Ieee.double).infRung = 9218868437227405312 := by rfl
  have e4 : (Ieee.double).leastPlace = -1074 := by rfl
  have e5 : (Ieee.double).fractionBits = 52 := by rfl
  obtain ⟨hm, hp1, hp2⟩ := single_bd h
  have hlt := log2_lt24 hm h0
  obtain ⟨l, hl⟩ : ∃ l, m.log2 = l := ⟨_, rfl⟩
  rw [hl] at hlt ⊢
  have hM1 : 4503599627370496 ≤ m <<< (52 - l) := by
    have h1 : 2 ^ l ≤ m := by rw [← hl]; exact Nat.log2_self_le h0
    have : 2 ^ l * 2 ^ (52 - l) = 4503599627370496 := by rw [← Nat.pow_add, show l + (52 - l) = 52 by omega]
    rw [Nat.shiftLeft_eq, ← this]
    exact Nat.mul_le_mul_right _ h1
  have hM2 : m <<< (52 - l) < 9007199254740992 := by
    have h1 : m < 2 ^ (l + 1) := by rw [← hl]; exact Nat.lt_log2_self
    have : 2 ^ (l + 1) * 2 ^ (52 - l) = 9007199254740992 := by rw [← Nat.pow_add, show l + 1 + (52 - l) = 53 by omega]
    rw [Nat.shiftLeft_eq, ← this]
    exact Nat.mul_lt_mul_of_pos_right h1 (Nat.two_pow_pos _)
  obtain ⟨M, hM⟩ : ∃ M, m <<< (52 - l) = M := ⟨_, rfl⟩
  rw [hM] at hM1 hM2 ⊢
  unfold Ieee.Format.nearest
  rw [if_neg h0, e2, e3, e4, e5, hl]
  dsimp only
  have hq : max (p + (l : Int) - (52 : Nat)) (-1074) = p - ((52 - l : Nat) : Int) := by omega
  rw [hq]
  have hd : (p - (p - ((52 - l : Nat) : Int))).toNat = 52 - l := by omega
  have hz : (p - ((52 - l : Nat) : Int) - p).toNat = 0 := by omega
  rw [hd, hz, cut_none, hM]
  obtain ⟨q, hqn⟩ : ∃ q : Nat, p - ((52 - l : Nat) : Int) - -1074 = q := ⟨(p - ((52 - l : Nat) : Int) - -1074).toNat, by omega⟩
  have hqb : q ≤ 1500 := by omega
  have hpq : p - ((52 - l : Nat) : Int) = (q : Int) - 1074 := by omega
  rw [hqn, hpq]
  simp only [Int.toNat_natCast]
  have hbig : q * 4503599627370496 + M ≤ 9218868437227405312 := by clear hq hd hz hqn hpq; omega
  have hmin : min (q * 4503599627370496 + M) 9218868437227405312 = q * 4503599627370496 + M := Nat.min_eq_left hbig
  rw [hmin]
  clear hq hd hz hqn hpq hmin hM
  have hlt2 : q * 4503599627370496 + M < 9223372036854775808 := Nat.lt_of_le_of_lt hbig (by decide)
  refine ⟨q * 4503599627370496 + M, rfl, hlt2, ?_⟩
  have hge : ¬ (q * 4503599627370496 + M < 4503599627370496) := by omega
  have hlt3 : q * 4503599627370496 + M < 9218868437227405312 := by omega
  have hmod : (q * 4503599627370496 + M) % 4503599627370496 = M - 4503599627370496 := by omega
  have hdiv : (q * 4503599627370496 + M) / 4503599627370496 = q + 1 := by omega
  unfold Ieee.Format.read
  rw [e1, e2, e3, e4]
  dsimp only
  rw [Nat.mod_eq_of_lt hlt2, Nat.div_eq_of_lt hlt2, if_neg hge, if_pos hlt3, hmod, hdiv]
  rw [show 4503599627370496 + (M - 4503599627370496) = M by omega, show -1074 + ((q + 1 - 1 : Nat) : Int) = (q : Int) - 1074 by omega]
  rfl
end Go.Proofs.YtnjipckpkcandaaDoor
