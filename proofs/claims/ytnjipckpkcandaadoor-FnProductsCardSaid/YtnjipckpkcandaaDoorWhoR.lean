/- Roots of whole numbers narrow well. -/
import Derived.Test.YtnjipckpkcandaaDoorWho
namespace Go.Proofs.YtnjipckpkcandaaDoor
open Ieee
namespace Who
variable {f : Format} {F L : Nat}
theorem cut_le (s : Bool) (n d : Nat) (F : Nat) (h : n < 2 ^ (F + 1 + d)) : Toward.even.cut s n d ≤ 2 ^ (F + 1) := by
  unfold Toward.cut
  dsimp only
  have hb : ∀ b : Bool, b.toNat ≤ 1 := fun b => by cases b <;> decide
  have hF := Nat.two_pow_pos (F + 1)
  by_cases hd : d ≤ n.log2 + 2
  · rw [Nat.min_eq_left hd, Nat.shiftLeft_eq, Nat.one_mul]
    have : n / 2 ^ d < 2 ^ (F + 1) := by
      rw [Nat.div_lt_iff_lt_mul (Nat.two_pow_pos d), ← Nat.pow_add]; exact h
    have := hb (decide (2 ^ d < 2 * (n % 2 ^ d)) || 2 ^ d == 2 * (n % 2 ^ d) && n / 2 ^ d % 2 == 1)
    omega
  · rw [Nat.min_eq_right (by omega), Nat.shiftLeft_eq, Nat.one_mul]
    have : n / 2 ^ (n.log2 + 2) = 0 := by
      apply Nat.div_eq_of_lt
      by_cases h0 : n = 0
      · rw [h0]; exact Nat.two_pow_pos _
      · exact Nat.lt_of_lt_of_le (log_self h0).2 (Nat.pow_le_pow_right (by decide) (by omega))
    rw [this]
    have := hb (decide (2 ^ (n.log2 + 2) < 2 * (n % 2 ^ (n.log2 + 2))) || 2 ^ (n.log2 + 2) == 2 * (n % 2 ^ (n.log2 + 2)) && 0 % 2 == 1)
    omega
theorem near_form (g : Good f F L) (s : Bool) {M : Nat} (p : Int) (h0 : M ≠ 0) : ∃ (last : Int) (kept : Nat), f.nearest s M p = f.word s (min ((last + L).toNat * 2 ^ F + kept) f.infRung) ∧ last = max (p + M.log2 - F) (-(L : Int)) ∧ kept ≤ 2 ^ (F + 1) := by
  unfold Format.nearest
  rw [if_neg h0, g.fb, g.lp]
  have hb : f.binade = 2 ^ F := by unfold Format.binade; rw [g.fb]
  rw [hb]
  dsimp only
  generalize hl : max (p + (M.log2 : Int) - (F : Int)) (-(L : Int)) = last
  refine ⟨last, _, by rw [show last - -(L : Int) = last + L by omega], rfl, ?_⟩
  apply cut_le
  have h1 := (log_self h0).2
  by_cases hd : last ≤ p
  · rw [show (last - p).toNat = 0 by omega, Nat.shiftLeft_eq]
    have := Nat.mul_lt_mul_of_pos_right h1 (Nat.two_pow_pos (p - last).toNat)
    rw [← Nat.pow_add] at this
    exact Nat.lt_of_lt_of_le this (Nat.pow_le_pow_right (by decide) (by omega))
  · rw [show (p - last).toNat = 0 by omega, Nat.shiftLeft_zero]
    exact Nat.lt_of_lt_of_le h1 (Nat.pow_le_pow_right (by decide) (by omega))
theorem fin32 (s : Bool) (M : Nat) (p : Int) (h : p + M.log2 < 127) : (single.read (single.nearest s M p)).isInfinity = false := by
  by_cases h0 : M = 0
  · rw [h0]
    have : single.nearest s 0 p = W single s 0 := by unfold W Format.nearest; rw [if_pos rfl, if_pos rfl]
    rw [this]; exact nan_W good32 s (by decide)
  · obtain ⟨last, kept, e, hl, hk⟩ := near_form good32 s p h0
    have hinf : single.infRung = 2139095040 := by decide +kernel
    have hr : (last + (149 : Nat)).toNat * 2 ^ 23 + kept < single.infRung := by
      rw [hinf]
      have : (last + (149 : Nat)).toNat ≤ 252 := by omega
      omega
    have hsw := single.infRung_lt
    rw [e, Nat.min_eq_left (by omega), read_word good32 s (by omega)]
    split
    · rfl
    · first | rfl | (rw [if_pos hr]; rfl)
theorem bound64 (s : Bool) (M : Nat) (p : Int) (h : p + M.log2 < 120) : ∃ M' p', double.read (double.nearest s M p) = .number s M' p' ∧ p' + M'.log2 < 127 := by
  by_cases h0 : M = 0
  · rw [h0]
    have : double.nearest s 0 p = W double s 0 := by unfold W Format.nearest; rw [if_pos rfl, if_pos rfl]
    obtain ⟨q, hq⟩ := rd good64 s (M := 0) (by decide)
    rw [this]
    exact ⟨_, _, hq, by rw [Nat.zero_mul, Nat.log2_zero]; omega⟩
  · obtain ⟨last, kept, e, hl, hk⟩ := near_form good64 s p h0
    have hinf : double.infRung = 2046 * 2 ^ 52 + 2 ^ 52 := by decide +kernel
    have hlp : double.leastPlace = -1074 := by decide +kernel
    have hbn : double.binade = 2 ^ 52 := by decide +kernel
    have hlast : (last + (1074 : Nat)).toNat ≤ 1200 := by omega
    generalize hR : (last + (1074 : Nat)).toNat * 2 ^ 52 + kept = R at e
    have hRb : R < 2000 * 2 ^ 52 := by rw [← hR]; omega
    have hsw := double.infRung_lt
    rw [e, Nat.min_eq_left (by omega), read_word good64 s (by omega), hlp, hbn]
    split
    · rename_i hlt
      refine ⟨_, _, rfl, ?_⟩
      have := log_le (M := R) (F := 51) (by omega)
      omega
    · rw [if_pos (by omega)]
      refine ⟨_, _, rfl, ?_⟩
      have hl2 := log_le (M := 2 ^ 52 + R % 2 ^ 52) (F := 52) (by have := Nat.mod_lt R (Nat.two_pow_pos 52); omega)
      have : R / 2 ^ 52 ≤ (last + (1074 : Nat)).toNat + 2 := by
        rw [← hR]
        omega
      omega
theorem rootFrom_sq (n : Nat) : ∀ (t r : Nat), r * r ≤ n → Datum.rootFrom n t r * Datum.rootFrom n t r ≤ n
  | 0, r, h => h
  | t + 1, r, h => by
    unfold Datum.rootFrom
    dsimp only
    split
    · rename_i h2; exact rootFrom_sq n t _ h2
    · exact rootFrom_sq n t _ h
theorem log_sq {a n : Nat} (ha : a ≠ 0) (h : a * a ≤ n) : 2 * a.log2 ≤ n.log2 := by
  have hn : n ≠ 0 := by
    have := Nat.mul_pos (Nat.pos_of_ne_zero ha) (Nat.pos_of_ne_zero ha); omega
  rw [Nat.le_log2 hn]
  have h1 := (log_self ha).1
  have := Nat.mul_le_mul h1 h1
  rw [← Nat.pow_add] at this
  rw [show 2 * a.log2 = a.log2 + a.log2 by omega]
  omega
theorem root_at {P : Nat} (h : P < 2 ^ 24) : ∃ r z, double.sqrt (W double false P) = some r ∧ floatToFloatBits .f64 r .f32 = some z := by
  obtain ⟨q, hq⟩ := rd good64 false (M := P) (by omega)
  have key : ∃ M p, (Datum.root (double.fractionBits + 2) (.number false (P * 2 ^ q) (-(q : Int)))) = some (.number false M p) ∧ p + M.log2 < 120 := by
    dsimp only [Datum.root]
    by_cases h0 : P = 0
    · rw [h0, Nat.zero_mul, if_pos rfl]
      exact ⟨_, _, rfl, by rw [Nat.log2_zero]; omega⟩
    · have hlP : (P * 2 ^ q).log2 = P.log2 + q := by rw [← Nat.shiftLeft_eq]; exact log_up h0 q
      have hm0 : P * 2 ^ q ≠ 0 := Nat.mul_ne_zero h0 (Nat.pos_iff_ne_zero.1 (Nat.two_pow_pos _))
      rw [if_neg hm0, if_neg (by decide)]
      have hl2 := log_le (M := P) (F := 23) h
      generalize 2 * (double.fractionBits + 2) - (P * 2 ^ q).log2 + ((-(q : Int) - ((2 * (double.fractionBits + 2) - (P * 2 ^ q).log2 : Nat) : Int)) % 2).toNat = more
      have hln : ((P * 2 ^ q) <<< more).log2 = P.log2 + q + more := by rw [log_up hm0, hlP]
      have hsq := rootFrom_sq ((P * 2 ^ q) <<< more) (((P * 2 ^ q) <<< more).log2 / 2 + 1) 0 (Nat.zero_le _)
      generalize Datum.rootFrom ((P * 2 ^ q) <<< more) (((P * 2 ^ q) <<< more).log2 / 2 + 1) 0 = a at hsq ⊢
      refine ⟨_, _, rfl, ?_⟩
      generalize hb : (a * a != (P * 2 ^ q) <<< more).toNat = b
      have hb1 : b ≤ 1 := by rw [← hb]; generalize (a * a != (P * 2 ^ q) <<< more) = c; cases c <;> decide
      by_cases ha : a = 0
      · have : (2 * a + b).log2 ≤ 1 := log_le (by rw [ha]; omega)
        omega
      · have h1 := log_sq ha hsq
        rw [hln] at h1
        have h2 : (2 * a + b).log2 ≤ a.log2 + 1 := log_le (by have := (log_self ha).2; rw [Nat.pow_succ]; omega)
        omega
  obtain ⟨M, p, e, hp⟩ := key
  obtain ⟨M', p', e2, hp2⟩ := bound64 false M p hp
  refine ⟨double.nearest false M p, single.nearest false M' p', ?_, ?_⟩
  · unfold Format.sqrt
    rw [hq, e]; rfl
  · unfold floatToFloatBits
    rw [if_neg (by decide), show FloatKind.f64.decode (double.nearest false M p) = .number false M' p' from e2]
    dsimp only
    rw [show FloatKind.f32.encode (.number false M' p') = single.nearest false M' p' from rfl, show (FloatKind.f32.decode (single.nearest false M' p')).isInfinity = false from fin32 false M' p' hp2]
    rfl
end Who
end Go.Proofs.YtnjipckpkcandaaDoor
