/- As many pairs as can be: the lists that hold what is reckoned, on both sides. -/
import Derived.Test.YtigaopfhjimpmaaMatP
namespace Go.Proofs.Ytigaopfhjimpmaa
open Go.RowKit

theorem map_range_get {M j : Nat} (f : Nat → Int) (h : j < M) : ((List.range M).map f).getD j 0 = f j := by simp [List.getD, h]
theorem map_range_set {M S : Nat} (f g : Nat → Int) (h : S < M) (hg : ∀ j, j < M → j ≠ S → f j = g j) : ((List.range M).map f).set S (g S) = (List.range M).map g := by
  refine ext_getD (n := M) (by simp) (by simp) fun v hv => ?_
  rw [getD_setM _ _ _ _ (by simpa using h), map_range_get g hv, map_range_get f hv]
  by_cases e : S = v
  · rw [if_pos e, e]
  · rw [if_neg e, hg v hv (fun e2 => e e2.symm)]
section lists
variable (J : Nat → Nat → Bool) (N : Nat)
/-- the program's table: all sets below S -/
def mI (S : Nat) : List Int := (List.range (2 ^ N)).map fun j => if j < S then (pm J N j : Int) else 0
theorem mI_len (S : Nat) : (mI J N S).length = 2 ^ N := by simp [mI]
theorem mI_lo {S j : Nat} (hj : j < 2 ^ N) (h : j < S) : (mI J N S).getD j 0 = (pm J N j : Int) := by
  unfold mI; rw [map_range_get _ hj, if_pos h]
theorem mI_one : mI J N 1 = List.replicate (2 ^ N) 0 := by
  refine ext_getD (n := 2 ^ N) (mI_len J N 1) (by simp) fun v hv => ?_
  unfold mI
  rw [map_range_get _ hv]
  have : (List.replicate (2 ^ N) (0 : Int)).getD v 0 = 0 := by simp [List.getD, hv]
  rw [this]
  by_cases e : v < 1
  · have : v = 0 := by omega
    subst this
    rw [if_pos e, pm_zero]; rfl
  · rw [if_neg e]
theorem mI_next {S : Nat} (h : S < 2 ^ N) : (mI J N S).set S (pm J N S : Int) = mI J N (S + 1) := by
  have e := map_range_set (M := 2 ^ N) (S := S) (fun j => if j < S then (pm J N j : Int) else 0) (fun j => if j < S + 1 then (pm J N j : Int) else 0) h (fun j _ hne => by
    by_cases h1 : j < S
    · rw [if_pos h1, if_pos (by omega)]
    · rw [if_neg h1, if_neg (by omega)])
  rw [if_pos (Nat.lt_succ_self S)] at e
  exact e
theorem mI_mid {S j : Nat} (x : Int) (hj : j < 2 ^ N) (h : j < S) : ((mI J N S).set S x).getD j 0 = (pm J N j : Int) := by
  rw [← mI_lo J N hj h]
  simp only [List.getD]
  rw [List.getElem?_set_ne (by omega)]
theorem mI_at {S : Nat} (x : Int) (hS : S < 2 ^ N) : ((mI J N S).set S x).getD S 0 = x := by
  rw [getD_setM _ _ _ _ (by rw [mI_len]; exact hS), if_pos rfl]
/-- the reference's table: all masks from c on -/
def mS (c : Nat) : List Int := (List.range (2 ^ N)).map fun j => if c ≤ j then (pm J N ((2 ^ N - 1) ^^^ j) : Int) else 0
theorem mS_len (c : Nat) : (mS J N c).length = 2 ^ N := by simp [mS]
theorem mS_hi {c j : Nat} (hj : j < 2 ^ N) (h : c ≤ j) : (mS J N c).getD j 0 = (pm J N ((2 ^ N - 1) ^^^ j) : Int) := by
  unfold mS; rw [map_range_get _ hj, if_pos h]
theorem mS_full : mS J N (2 ^ N - 1) = List.replicate (2 ^ N) 0 := by
  refine ext_getD (n := 2 ^ N) (mS_len J N _) (by simp) fun v hv => ?_
  unfold mS
  rw [map_range_get _ hv]
  have : (List.replicate (2 ^ N) (0 : Int)).getD v 0 = 0 := by simp [List.getD, hv]
  rw [this]
  by_cases e : 2 ^ N - 1 ≤ v
  · have : v = 2 ^ N - 1 := by omega
    subst this
    rw [if_pos e, Nat.xor_self, pm_zero]; rfl
  · rw [if_neg e]
theorem mS_next {c : Nat} (h : c < 2 ^ N) : (mS J N (c + 1)).set c (pm J N ((2 ^ N - 1) ^^^ c) : Int) = mS J N c := by
  have e := map_range_set (M := 2 ^ N) (S := c) (fun j => if c + 1 ≤ j then (pm J N ((2 ^ N - 1) ^^^ j) : Int) else 0) (fun j => if c ≤ j then (pm J N ((2 ^ N - 1) ^^^ j) : Int) else 0) h (fun j _ hne => by
    by_cases h1 : c + 1 ≤ j
    · rw [if_pos h1, if_pos (by omega)]
    · rw [if_neg h1, if_neg (by omega)])
  rw [if_pos (Nat.le_refl c)] at e
  exact e
theorem mS_mid {c j : Nat} (x : Int) (hj : j < 2 ^ N) (h : c < j) : ((mS J N (c + 1)).set c x).getD j 0 = (pm J N ((2 ^ N - 1) ^^^ j) : Int) := by
  rw [← mS_hi J N hj (show c + 1 ≤ j by omega)]
  simp only [List.getD]
  rw [List.getElem?_set_ne (by omega)]
theorem mS_at {c : Nat} (x : Int) (hc : c < 2 ^ N) : ((mS J N (c + 1)).set c x).getD c 0 = x := by
  rw [getD_setM _ _ _ _ (by rw [mS_len]; exact hc), if_pos rfl]
end lists
/-- the other nodes -/
theorem cmp_bit {N c j : Nat} (hj : j < N) : ((2 ^ N - 1) ^^^ c).testBit j = !c.testBit j := by
  rw [Nat.testBit_xor, Nat.testBit_two_pow_sub_one, decide_eq_true hj, Bool.true_xor]
theorem cmp_lt {N c : Nat} (hc : c < 2 ^ N) : (2 ^ N - 1) ^^^ c < 2 ^ N := Nat.xor_lt_two_pow (by have := Nat.two_pow_pos N; omega) hc
theorem cmp_or {N c a : Nat} (hN : N ≤ 12) (hc : c < 2 ^ N) (ha : a < N) : (2 ^ N - 1) ^^^ (c ||| 2 ^ a) = rm ((2 ^ N - 1) ^^^ c) a := by
  apply Nat.eq_of_testBit_eq
  intro j
  rw [rm_bit (cmp_lt hc) hN ha]
  by_cases hj : j < N
  · rw [cmp_bit hj, cmp_bit hj, Nat.testBit_or, Nat.testBit_two_pow]
    by_cases e : a = j
    · subst e; simp
    · have : ¬ j = a := fun e2 => e e2.symm
      simp [e, this]
  · have h1 : (2 ^ N - 1 ^^^ (c ||| 2 ^ a)) < 2 ^ N := cmp_lt (Nat.or_lt_two_pow hc (Nat.pow_lt_pow_right (by omega) ha))
    have h2 := cmp_lt hc
    rw [Nat.testBit_lt_two_pow (Nat.lt_of_lt_of_le h1 (Nat.pow_le_pow_right (by omega) (by omega))), Nat.testBit_lt_two_pow (Nat.lt_of_lt_of_le h2 (Nat.pow_le_pow_right (by omega) (by omega)))]
    rfl
theorem cmp_zero {N c : Nat} (hc : c < 2 ^ N) : (2 ^ N - 1) ^^^ c = 0 ↔ c = 2 ^ N - 1 := by
  constructor
  · intro h
    have := congrArg (fun z => (2 ^ N - 1) ^^^ z) h
    simp only [← Nat.xor_assoc, Nat.xor_self, Nat.zero_xor, Nat.xor_zero] at this
    exact this
  · intro h; rw [h, Nat.xor_self]
theorem low_is {S N a : Nat} (hS : S < 2 ^ N) (hN : N ≤ 12) (ha : a < N) (h1 : S.testBit a = true) (h2 : ∀ j, j < a → S.testBit j = false) : lowN S = a := by
  have h0 : S ≠ 0 := fun e => by subst e; simp at h1
  obtain ⟨_, b, c⟩ := low_ok h0 hS hN
  rcases Nat.lt_trichotomy (lowN S) a with h | h | h
  · rw [h2 _ h] at b; cases b
  · exact h
  · rw [c _ h] at h1; cases h1
/-- which nodes are joined by the first k arcs -/
def frN (xs : List ArcR) (i : Nat) : Nat := (xs.getD i default).fr.toNat
def toN (xs : List ArcR) (i : Nat) : Nat := (xs.getD i default).to_.toNat
def adjT (xs : List ArcR) (k u v : Nat) : Bool := (List.range k).any fun i => (decide (frN xs i = u) && decide (toN xs i = v)) || (decide (frN xs i = v) && decide (toN xs i = u))
theorem adjT_succ (xs : List ArcR) (k u v : Nat) : adjT xs (k + 1) u v = (adjT xs k u v || ((decide (frN xs k = u) && decide (toN xs k = v)) || (decide (frN xs k = v) && decide (toN xs k = u)))) := by
  unfold adjT
  rw [List.range_succ, List.any_append]; simp
/-- the program's lists of neighbours -/
def jL (xs : List ArcR) (N : Nat) : Nat → List Int
  | 0 => List.replicate N 0
  | k + 1 => ((jL xs N k).set (frN xs k) (((jL xs N k).getD (frN xs k) 0).toNat ||| 2 ^ toN xs k : Nat)).set (toN xs k) ((((jL xs N k).set (frN xs k) (((jL xs N k).getD (frN xs k) 0).toNat ||| 2 ^ toN xs k : Nat)).getD (toN xs k) 0).toNat ||| 2 ^ frN xs k : Nat)
def JOk (xs : List ArcR) (N k : Nat) (l : List Int) : Prop := l.length = N ∧ ∀ u, u < N → ∃ m : Nat, l.getD u 0 = (m : Int) ∧ m < 2 ^ N ∧ ∀ v, v < N → m.testBit v = adjT xs k u v
theorem jL_ok {xs : List ArcR} {N : Nat} (hx : ∀ i, i < xs.length → frN xs i < N ∧ toN xs i < N ∧ frN xs i ≠ toN xs i) : ∀ k, k ≤ xs.length → JOk xs N k (jL xs N k)
  | 0, _ => ⟨by simp [jL], fun u hu => ⟨0, by simp [jL, List.getD, hu], Nat.two_pow_pos N, fun v _ => by simp [adjT]⟩⟩
  | k + 1, hk => by
    obtain ⟨h1, h2⟩ := jL_ok hx k (by omega)
    obtain ⟨f1, f2, f3⟩ := hx k (by omega)
    obtain ⟨mf, a1, a2, a3⟩ := h2 _ f1
    obtain ⟨mt, b1, b2, b3⟩ := h2 _ f2
    rw [jL, a1, getD_setM _ _ _ _ (by omega), if_neg f3, b1, Int.toNat_natCast, Int.toNat_natCast]
    refine ⟨by rw [List.length_set, List.length_set]; exact h1, fun u hu => ?_⟩
    rw [getD_setM _ _ _ _ (by rw [List.length_set]; omega)]
    by_cases e1 : toN xs k = u
    · rw [if_pos e1]
      refine ⟨_, rfl, Nat.or_lt_two_pow b2 (Nat.pow_lt_pow_right (by omega) f1), fun v hv => ?_⟩
      rw [Nat.testBit_or, Nat.testBit_two_pow, b3 v hv, adjT_succ, e1]
      have : ¬ frN xs k = u := fun e => f3 (by rw [e, e1])
      simp [this]
    · rw [if_neg e1, getD_setM _ _ _ _ (by omega)]
      by_cases e2 : frN xs k = u
      · rw [if_pos e2]
        refine ⟨_, rfl, Nat.or_lt_two_pow a2 (Nat.pow_lt_pow_right (by omega) f2), fun v hv => ?_⟩
        rw [Nat.testBit_or, Nat.testBit_two_pow, a3 v hv, adjT_succ, e2]
        simp [e1]
      · rw [if_neg e2]
        obtain ⟨m, c1, c2, c3⟩ := h2 u hu
        refine ⟨m, c1, c2, fun v hv => ?_⟩
        rw [c3 v hv, adjT_succ]
        simp [e1, e2]
/-- the reference's table of neighbours -/
def bL (xs : List ArcR) (N : Nat) : Nat → List Bool
  | 0 => List.replicate (N * N) false
  | k + 1 => ((bL xs N k).set (frN xs k * N + toN xs k) true).set (toN xs k * N + frN xs k) true
theorem cell_idx {N u v u' v' : Nat} (hv : v < N) (hv' : v' < N) : u * N + v = u' * N + v' ↔ u = u' ∧ v = v' := by
  constructor
  · intro h
    have h1 : (u * N + v) / N = (u' * N + v') / N := by rw [h]
    rw [Nat.mul_comm u, Nat.mul_comm u', Nat.mul_add_div (by omega), Nat.mul_add_div (by omega), Nat.div_eq_of_lt hv, Nat.div_eq_of_lt hv'] at h1
    have h2 : u = u' := by omega
    subst h2
    exact ⟨rfl, by omega⟩
  · rintro ⟨rfl, rfl⟩; rfl
theorem cell_lt {N u v : Nat} (hu : u < N) (hv : v < N) : u * N + v < N * N := by
  have : (u + 1) * N ≤ N * N := Nat.mul_le_mul_right _ hu
  rw [Nat.succ_mul] at this
  omega
theorem getD_setB' (zs : List Bool) (i j : Nat) (x : Bool) (h : i < zs.length) : (zs.set i x).getD j false = if i = j then x else zs.getD j false := by
  simp only [List.getD, List.getElem?_set]
  by_cases e : i = j
  · subst e; simp [h]
  · simp [e]
theorem bL_ok {xs : List ArcR} {N : Nat} (hx : ∀ i, i < xs.length → frN xs i < N ∧ toN xs i < N ∧ frN xs i ≠ toN xs i) : ∀ k, k ≤ xs.length → (bL xs N k).length = N * N ∧ ∀ u v, u < N → v < N → (bL xs N k).getD (u * N + v) false = adjT xs k u v
  | 0, _ => ⟨by simp [bL], fun u v hu hv => by
    have := cell_lt hu hv
    simp [bL, adjT, List.getD, this]⟩
  | k + 1, hk => by
    obtain ⟨h1, h2⟩ := bL_ok hx k (by omega)
    obtain ⟨f1, f2, _⟩ := hx k (by omega)
    rw [bL]
    refine ⟨by rw [List.length_set, List.length_set]; exact h1, fun u v hu hv => ?_⟩
    rw [getD_setB' _ _ _ _ (by rw [List.length_set, h1]; exact cell_lt f2 f1), getD_setB' _ _ _ _ (by rw [h1]; exact cell_lt f1 f2), h2 u v hu hv, adjT_succ]
    have i1 := cell_idx (u := toN xs k) (u' := u) f1 hv
    have i2 := cell_idx (u := frN xs k) (u' := u) f2 hv
    by_cases e1 : toN xs k * N + frN xs k = u * N + v
    · obtain ⟨a, b⟩ := i1.1 e1
      rw [if_pos e1, a, b]; simp
    · rw [if_neg e1]
      by_cases e2 : frN xs k * N + toN xs k = u * N + v
      · obtain ⟨a, b⟩ := i2.1 e2
        rw [if_pos e2, a, b]; simp
      · rw [if_neg e2]
        have n1 : ¬ (toN xs k = u ∧ frN xs k = v) := fun h => e1 (i1.2 h)
        have n2 : ¬ (frN xs k = u ∧ toN xs k = v) := fun h => e2 (i2.2 h)
        have m1 : (decide (frN xs k = v) && decide (toN xs k = u)) = false := by
          rw [Bool.and_eq_false_iff, decide_eq_false_iff_not, decide_eq_false_iff_not]
          by_cases h : frN xs k = v
          · right; exact fun h3 => n1 ⟨h3, h⟩
          · left; exact h
        have m2 : (decide (frN xs k = u) && decide (toN xs k = v)) = false := by
          rw [Bool.and_eq_false_iff, decide_eq_false_iff_not, decide_eq_false_iff_not]
          by_cases h : frN xs k = u
          · right; exact fun h3 => n2 ⟨h, h3⟩
          · left; exact h
        rw [m1, m2]; simp
end Go.Proofs.Ytigaopfhjimpmaa
