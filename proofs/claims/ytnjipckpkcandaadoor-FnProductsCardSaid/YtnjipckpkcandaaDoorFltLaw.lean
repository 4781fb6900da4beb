/- Floats: what the laws hold against each other, and marks. -/
import Derived.Test.YtnjipckpkcandaaDoorFltFn
namespace Go.Proofs.YtnjipckpkcandaaDoor
open Go.RowKit

theorem order_self {k : FloatKind} {a : Nat} (h : nanK k a = false) : k.format.order a a = some .eq := by
  unfold nanK at h
  unfold Ieee.Format.order
  generalize k.format.read a = d at *
  cases d with
  | nan s f => simp [Ieee.Datum.isNaN] at h
  | infinity s => simp [Ieee.Datum.order]
  | number s m e => simp [Ieee.Datum.order]
theorem order_nan {k : FloatKind} {a b : Nat} (h : absK k a = none) : k.format.order a b = none := by
  rw [ford_abs, h]; rfl
/-- float64 of a float32 -/
def cv64 (x : Option Nat) : Option Nat := match x with | none => none | some b => floatToFloatBits .f32 b .f64
theorem pow_lt_log {m k : Nat} (h : m < 2 ^ (k + 1)) (h0 : m ≠ 0) : m.log2 ≤ k := by
  have := (Nat.log2_lt h0).2 h
  omega
/-- a float32 is no infinity as a float64 -/
theorem near64 {s : Bool} {m : Nat} {p : Int} (hm : m < 16777216) (hp : -149 ≤ p) (hp2 : p ≤ 110) : (Ieee.double.read (Ieee.double.nearest s m p)).isInfinity = false := by
  have e1 : (Ieee.double).signWeight = 9223372036854775808 := by rfl
  have e2 : (Ieee.double).binade = 4503599627370496 := by rfl
  have e3 : (Ieee.double).infRung = 9218868437227405312 := by rfl
  have e4 : (Ieee.double).leastPlace = -1074 := by rfl
  have e5 : (Ieee.double).fractionBits = 52 := by rfl
  have key : ∀ r : Nat, r < 9218868437227405312 → (Ieee.double.read (Ieee.double.word s r)).isInfinity = false := by
    intro r hr
    have e : Ieee.double.word s r % Ieee.double.signWeight = r := by
      unfold Ieee.Format.word
      split
      · rw [Nat.add_mod_left, Nat.mod_eq_of_lt (by omega)]
      · rw [Nat.mod_eq_of_lt (by omega)]
    unfold Ieee.Format.read
    simp only [e, e2, e3]
    split
    · rfl
    · first | rfl | (rw [if_pos hr]; rfl)
  unfold Ieee.Format.nearest
  by_cases h0 : m = 0
  · rw [if_pos h0]
    exact key 0 (by decide)
  · rw [if_neg h0]
    have hlog : m.log2 ≤ 23 := pow_lt_log (by simpa using hm) h0
    simp only [e4, e5, e2, e3]
    have hlast : max (p + (m.log2 : Int) - ((52 : Nat) : Int)) (-1074) = p + (m.log2 : Int) - 52 := by omega
    simp only [hlast]
    have h1 : (p + (m.log2 : Int) - 52 - p).toNat = 0 := by omega
    obtain ⟨sh, hsh⟩ : ∃ sh : Nat, (p - (p + (m.log2 : Int) - 52)).toNat = sh := ⟨_, rfl⟩
    have hsh2 : sh + m.log2 = 52 := by omega
    rw [h1, hsh]
    have hkept : Ieee.Toward.even.cut s (m <<< sh) 0 < 9007199254740992 + 1 := by
      unfold Ieee.Toward.cut
      have hg : (1 <<< min 0 ((m <<< sh).log2 + 2)) = 1 := by simp
      rw [hg]
      have hv : m <<< sh < 9007199254740992 := by
        rw [Nat.shiftLeft_eq]
        have h5 : m < 2 ^ (m.log2 + 1) := Nat.lt_log2_self
        calc m * 2 ^ sh < 2 ^ (m.log2 + 1) * 2 ^ sh := Nat.mul_lt_mul_of_pos_right h5 (Nat.two_pow_pos sh)
          _ = 2 ^ 53 := by rw [← Nat.pow_add]; congr 1; omega
          _ = 9007199254740992 := by decide
      simp only [Nat.div_one, Nat.mod_one]
      have : (decide (1 < 2 * 0) || (1 == 2 * 0 && m <<< sh % 2 == 1)).toNat ≤ 1 := Bool.toNat_le _
      omega
    refine key _ ?_
    have hb : (p + (m.log2 : Int) - 52 - -1074).toNat ≤ 1155 := by omega
    generalize (p + (m.log2 : Int) - 52 - -1074).toNat = q at *
    generalize Ieee.Toward.even.cut s (m <<< sh) 0 = kp at *
    clear key e1 e2 e3 e4 e5 hlast h1 hsh hsh2 hlog h0 hm hp hp2
    refine Nat.lt_of_le_of_lt (Nat.min_le_left _ _) ?_
    have hq : q * 4503599627370496 ≤ 1155 * 4503599627370496 := Nat.mul_le_mul_right _ hb
    omega
theorem single_bd {b : Nat} {s : Bool} {m : Nat} {p : Int} (h : Ieee.single.read b = .number s m p) : m < 16777216 ∧ -149 ≤ p ∧ p ≤ 110 := by
  have e1 : (Ieee.single).signWeight = 2147483648 := by rfl
  have e2 : (Ieee.single).binade = 8388608 := by rfl
  have e3 : (Ieee.single).infRung = 2139095040 := by rfl
  have e4 : (Ieee.single).leastPlace = -149 := by rfl
  unfold Ieee.Format.read at h
  simp only [e1, e2, e3, e4] at h
  split at h
  · injection h with h1 h2 h3
    subst h2; subst h3
    omega
  · split at h
    · injection h with h1 h2 h3
      subst h2; subst h3
      omega
    · split at h <;> cases h
theorem cv_some {b : Nat} (h : nanK .f32 b = false) : ∃ r, floatToFloatBits .f32 b .f64 = some r ∧ nanK .f64 r = false := by
  unfold floatToFloatBits
  rw [if_neg (by decide)]
  have hd : FloatKind.f32.decode b = Ieee.single.read b := rfl
  unfold nanK at h
  have h' : (Ieee.single.read b).isNaN = false := h
  rw [hd]
  cases hr : Ieee.single.read b with
  | nan s f => rw [hr] at h'; simp [Ieee.Datum.isNaN] at h'
  | infinity s => exact ⟨_, rfl, write_no rfl⟩
  | number s m p =>
    obtain ⟨h1, h2, h3⟩ := single_bd hr
    have hn := near64 (s := s) h1 h2 h3
    have hn2 : (FloatKind.f64.decode (FloatKind.f64.encode (.number s m p))).isInfinity = false := hn
    simp only [hn2]
    exact ⟨_, rfl, write_no rfl⟩
theorem cut_nanc (x t : Nat) : nanK .f64 ((Question.nanConv .f64 x).cut t) = true := by
  have h : (Question.nanConv .f64 x).cut t = (Question.nanBits .f64 x x).cut t := rfl
  rw [h]
  exact cut_nan .f64 x x t
theorem conv_nan {b : Nat} (h : nanK .f32 b = true) : ∃ s f, FloatKind.f32.decode b = .nan s f := by
  have h' : (FloatKind.f32.decode b).isNaN = true := h
  cases hd : FloatKind.f32.decode b with
  | nan s f => exact ⟨s, f, rfl⟩
  | infinity s => rw [hd] at h'; simp [Ieee.Datum.isNaN] at h'
  | number s m p => rw [hd] at h'; simp [Ieee.Datum.isNaN] at h'
theorem run_cv_nan {P : Program} (w : World) (s d : TypeId) (b : Nat) (hs : (P.underlying s).isSome = true) (hd : P.underlying d = some (.float .f64)) (h : nanK .f32 b = true) :
    (convert s d (.float .f32 b)).run P w = .ok (.float .f64 ((Question.nanConv .f64 b).cut (w.tape w.drawn (.nanConv .f64 b)))) w.drew := by
  obtain ⟨x, f, he⟩ := conv_nan h
  obtain ⟨u, hs'⟩ := Option.isSome_iff_exists.1 hs
  cases u <;> simp [convert, run_underlying hs', run_underlying hd, Conv.floatToFloat, he, Question.forced]

/-- the marks: floats of numbers that rise by one -/
def seqF (k : Nat) (n : Nat) : List Nat := (List.range n).map fun i => floatOfInt .f32 ((k + i : Nat) : Int)
theorem seqF_len (k n : Nat) : (seqF k n).length = n := by simp [seqF]
theorem seqF_get (k n j : Nat) (h : j < n) : (seqF k n).getD j 0 = floatOfInt .f32 ((k + j : Nat) : Int) := by simp [seqF, List.getD, h]
theorem floatOfInt_no (n : Int) : nanK .f32 (floatOfInt .f32 n) = false := by
  show (FloatKind.f32.format.read (FloatKind.f32.format.write (.number (n < 0) n.natAbs 0))).isNaN = false
  exact write_no (k := .f32) rfl
theorem seqF_step (zs : List Nat) (k n j : Nat) (hl : zs.length = n) (hj : j < n) : (seqF k j ++ zs.drop j).set j (floatOfInt .f32 ((k + j : Nat) : Int)) = seqF k (j + 1) ++ zs.drop (j + 1) := by
  apply List.ext_getElem?
  intro i
  have hs := seqF_len k j
  have hs1 := seqF_len k (j+1)
  rw [List.getElem?_set]
  simp only [List.length_append, List.length_drop, hs]
  by_cases h1 : j = i
  · subst h1
    rw [if_pos rfl, if_pos (by omega), List.getElem?_append_left (by omega)]
    simp [seqF]
  · rw [if_neg h1]
    by_cases h2 : i < j
    · rw [List.getElem?_append_left (by omega), List.getElem?_append_left (by omega)]
      simp [seqF, h2, Nat.lt_succ_of_lt h2]
    · rw [List.getElem?_append_right (by omega), List.getElem?_append_right (by omega), hs, hs1, List.getElem?_drop, List.getElem?_drop]
      congr 1
      omega
end Go.Proofs.YtnjipckpkcandaaDoor
