/- As many pairs as can be: sets of nodes as bits, in plain numbers. -/
import Derived.Test.YtigaopfhjimpmaaAppend
import Derived.Test.YtigaopfhjimpmaaNetMem
namespace Go.Proofs.Ytigaopfhjimpmaa
open Go.RowKit

/-- a set without a node -/
def rm (S k : Nat) : Nat := andN S (2 ^ k)
theorem pow12 {N : Nat} (hN : N ≤ 12) : 2 ^ N ≤ 4096 := Nat.pow_le_pow_right (n := 2) (by omega) hN
theorem rm_bit {S k j N : Nat} (hS : S < 2 ^ N) (hN : N ≤ 12) (hk : k < N) : (rm S k).testBit j = (S.testBit j && decide (j ≠ k)) := by
  have h1 := pow12 hN
  have h2 : 2 ^ k < 2 ^ N := Nat.pow_lt_pow_right (by omega) hk
  unfold rm
  rw [andN_bit S (2 ^ k) j (by omega) (by omega), Nat.testBit_two_pow]
  by_cases e : k = j
  · subst e; simp
  · have : ¬ j = k := fun e2 => e e2.symm
    simp [e, this]
theorem rm_lt {S k N : Nat} (hS : S < 2 ^ N) (hN : N ≤ 12) (hk : k < N) (h : S.testBit k = true) : rm S k < S := by
  have h1 : rm S k ≤ S := andN_le _ _
  rcases Nat.lt_or_eq_of_le h1 with h2 | h2
  · exact h2
  · have h3 := rm_bit (j := k) hS hN hk
    rw [h2, h] at h3
    simp at h3
theorem rm_le (S k : Nat) : rm S k ≤ S := andN_le _ _
/-- the lowest node -/
def lowF (S : Nat) : Nat → Nat → Nat
  | 0, i => i
  | f + 1, i => if S.testBit i = true then i else lowF S f (i + 1)
def lowN (S : Nat) : Nat := lowF S 12 0
theorem lowF_ok {S : Nat} : ∀ f i, (∃ j, i ≤ j ∧ j < i + f ∧ S.testBit j = true) → S.testBit (lowF S f i) = true ∧ i ≤ lowF S f i ∧ ∀ j, i ≤ j → j < lowF S f i → S.testBit j = false
  | 0, i, ⟨j, h1, h2, _⟩ => by omega
  | f + 1, i, ⟨j, h1, h2, h3⟩ => by
    rw [lowF]
    by_cases h : S.testBit i = true
    · rw [if_pos h]; exact ⟨h, Nat.le_refl _, fun j a b => by omega⟩
    · rw [if_neg h]
      have : j ≠ i := fun e => by subst e; exact h h3
      obtain ⟨a, b, c⟩ := lowF_ok f (i + 1) ⟨j, by omega, by omega, h3⟩
      refine ⟨a, by omega, fun k k1 k2 => ?_⟩
      by_cases e : k = i
      · subst e; rw [Bool.not_eq_true] at h; exact h
      · exact c k (by omega) k2
theorem bit_in {S N j : Nat} (hS : S < 2 ^ N) (h : S.testBit j = true) : j < N := by
  rcases Nat.lt_or_ge j N with h1 | h1
  · exact h1
  · rw [Nat.testBit_lt_two_pow (Nat.lt_of_lt_of_le hS (Nat.pow_le_pow_right (by omega) h1))] at h
    cases h
theorem low_ok {S N : Nat} (h0 : S ≠ 0) (hS : S < 2 ^ N) (hN : N ≤ 12) : lowN S < N ∧ S.testBit (lowN S) = true ∧ ∀ j, j < lowN S → S.testBit j = false := by
  obtain ⟨j, hj⟩ := Nat.exists_testBit_of_ne_zero h0
  have h1 := bit_in hS hj
  obtain ⟨a, b, c⟩ := lowF_ok (S := S) 12 0 ⟨j, by omega, by omega, hj⟩
  exact ⟨bit_in hS a, a, fun j hj => c j (by omega) hj⟩
section dp
variable (J : Nat → Nat → Bool) (N : Nat)
/-- the most pairs of a set, out of a table for smaller ones -/
def vT (T : Nat → Nat) (S : Nat) : Nat → Nat
  | 0 => T (rm S (lowN S))
  | k + 1 => if ((rm S (lowN S)).testBit k && J (lowN S) k) = true then max (vT T S k) (1 + T (rm (rm S (lowN S)) k)) else vT T S k
def pmT : Nat → List Nat
  | 0 => []
  | S + 1 => pmT S ++ [if S = 0 then 0 else vT J (fun j => (pmT S).getD j 0) S N]
def pm (S : Nat) : Nat := (pmT J N (S + 1)).getD S 0
theorem pmT_len : ∀ m, (pmT J N m).length = m
  | 0 => rfl
  | m + 1 => by rw [pmT, List.length_append, pmT_len m]; rfl
theorem pmT_get : ∀ m j, j < m → (pmT J N m).getD j 0 = pm J N j
  | m + 1, j, h => by
    by_cases e : j = m
    · subst e; rfl
    · rw [pmT]
      simp only [List.getD]
      rw [List.getElem?_append_left (by rw [pmT_len]; omega)]
      exact pmT_get m j (by omega)
theorem vT_congr {T T' : Nat → Nat} {S : Nat} (hN : N ≤ 12) (h0 : S ≠ 0) (hS : S < 2 ^ N) (h : ∀ j, j < S → T j = T' j) : ∀ k, k ≤ N → vT J T S k = vT J T' S k
  | 0, _ => by
    obtain ⟨a, b, _⟩ := low_ok h0 hS hN
    rw [vT, vT, h _ (rm_lt hS hN a b)]
  | k + 1, hk => by
    obtain ⟨a, b, _⟩ := low_ok h0 hS hN
    have h1 := rm_lt hS hN a b
    have h2 := rm_le (rm S (lowN S)) k
    rw [vT, vT, vT_congr hN h0 hS h k (by omega), h _ (by omega)]
theorem pm_zero : pm J N 0 = 0 := rfl
theorem pm_eq {S : Nat} (hN : N ≤ 12) (h0 : S ≠ 0) (hS : S < 2 ^ N) : pm J N S = vT J (pm J N) S N := by
  unfold pm
  rw [pmT]
  simp only [List.getD]
  rw [List.getElem?_append_right (by rw [pmT_len]; exact Nat.le_refl _), pmT_len, Nat.sub_self]
  show (if S = 0 then 0 else vT J _ S N) = _
  rw [if_neg h0]
  exact vT_congr J N hN h0 hS (fun j hj => pmT_get J N S j hj) N (Nat.le_refl _)
theorem vT_le {S : Nat} (hN : N ≤ 12) (h0 : S ≠ 0) (hS : S < 2 ^ N) (h : ∀ j, j < S → pm J N j ≤ j) : ∀ k, k ≤ N → vT J (pm J N) S k ≤ S
  | 0, _ => by
    obtain ⟨a, b, _⟩ := low_ok h0 hS hN
    have h1 := rm_lt hS hN a b
    have := h _ h1
    rw [vT]; omega
  | k + 1, hk => by
    obtain ⟨a, b, _⟩ := low_ok h0 hS hN
    have h1 := rm_lt hS hN a b
    have h2 := rm_le (rm S (lowN S)) k
    have ih := vT_le hN h0 hS h k (by omega)
    have h3 := h (rm (rm S (lowN S)) k) (by omega)
    rw [vT]
    split
    · omega
    · exact ih
theorem pm_le (hN : N ≤ 12) : ∀ b S, S ≤ b → S < 2 ^ N → pm J N S ≤ S
  | 0, S, h, _ => by have : S = 0 := by omega
                     subst this; rw [pm_zero]; exact Nat.le_refl _
  | b + 1, S, h, hS => by
    by_cases h0 : S = 0
    · subst h0; rw [pm_zero]; exact Nat.le_refl _
    · rw [pm_eq J N hN h0 hS]
      exact vT_le J N hN h0 hS (fun j hj => pm_le hN b j (by omega) (by omega)) N (Nat.le_refl _)
/-- with which node the lowest one is paired: the first that loses nothing; N: none -/
def cnd (S k : Nat) : Bool := (rm S (lowN S)).testBit k && J (lowN S) k && decide (1 + pm J N (rm (rm S (lowN S)) k) = pm J N S)
def fnd (S : Nat) : Nat → Nat → Nat
  | 0, k => k
  | f + 1, k => if cnd J N S k = true then k else fnd S f (k + 1)
def mat : Nat → Nat → List Int → List Int
  | 0, _, o => o
  | f + 1, S, o => if S = 0 then o else if fnd J N S N 0 < N then mat f (rm (rm S (lowN S)) (fnd J N S N 0)) ((o.set (lowN S) (fnd J N S N 0 : Nat)).set (fnd J N S N 0) (lowN S : Nat)) else mat f (rm S (lowN S)) (o.set (lowN S) (-1))
theorem fnd_ok {S : Nat} : ∀ f k, k ≤ fnd J N S f k ∧ fnd J N S f k ≤ k + f ∧ (∀ j, k ≤ j → j < fnd J N S f k → cnd J N S j = false) ∧ (fnd J N S f k < k + f → cnd J N S (fnd J N S f k) = true)
  | 0, k => by rw [fnd]; exact ⟨Nat.le_refl _, Nat.le_refl _, fun j a b => by omega, fun h => by omega⟩
  | f + 1, k => by
    rw [fnd]
    by_cases h : cnd J N S k = true
    · rw [if_pos h]; exact ⟨Nat.le_refl _, by omega, fun j a b => by omega, fun _ => h⟩
    · rw [if_neg h]
      obtain ⟨a, b, c, d⟩ := fnd_ok (S := S) f (k + 1)
      refine ⟨by omega, by omega, fun j j1 j2 => ?_, fun hlt => d (by omega)⟩
      by_cases e : j = k
      · subst e; rw [Bool.not_eq_true] at h; exact h
      · exact c j (by omega) j2
theorem fnd_hit {S k : Nat} (hk : k < N) (h : cnd J N S k = true) (hb : ∀ j, j < k → cnd J N S j = false) : fnd J N S N 0 = k := by
  obtain ⟨_, b, c, d⟩ := fnd_ok J N (S := S) N 0
  rcases Nat.lt_trichotomy (fnd J N S N 0) k with h1 | h1 | h1
  · have := d (by omega); rw [hb _ h1] at this; cases this
  · exact h1
  · have := c k (by omega) h1; rw [h] at this; cases this
theorem fnd_miss {S : Nat} (hb : ∀ j, j < N → cnd J N S j = false) : ¬ fnd J N S N 0 < N := by
  intro h
  obtain ⟨_, _, _, d⟩ := fnd_ok J N (S := S) N 0
  have := d (by omega); rw [hb _ h] at this; cases this
theorem cnd_in {S k : Nat} (hN : N ≤ 12) (h0 : S ≠ 0) (hS : S < 2 ^ N) (h : cnd J N S k = true) : S.testBit k = true ∧ k ≠ lowN S := by
  unfold cnd at h
  rw [Bool.and_eq_true, Bool.and_eq_true] at h
  obtain ⟨a, _, _⟩ := low_ok h0 hS hN
  rw [rm_bit hS hN a, Bool.and_eq_true, decide_eq_true_eq] at h
  exact h.1.1
theorem mat_fuel {S : Nat} (hN : N ≤ 12) : ∀ f f' S o, S ≤ f → S ≤ f' → S < 2 ^ N → mat J N f S o = mat J N f' S o
  | 0, 0, S, o, _, _, _ => rfl
  | 0, f' + 1, S, o, h, _, _ => by
    have : S = 0 := by omega
    subst this
    rw [mat, mat, if_pos rfl]
  | f + 1, 0, S, o, _, h, _ => by
    have : S = 0 := by omega
    subst this
    rw [mat, mat, if_pos rfl]
  | f + 1, f' + 1, S, o, h1, h2, hS => by
    rw [mat, mat]
    by_cases h0 : S = 0
    · rw [if_pos h0, if_pos h0]
    · obtain ⟨a, b, _⟩ := low_ok h0 hS hN
      have h3 := rm_lt hS hN a b
      have h4 := rm_le (rm S (lowN S)) (fnd J N S N 0)
      rw [if_neg h0, if_neg h0]
      split
      · exact mat_fuel (S := S) hN f f' _ _ (by omega) (by omega) (by omega)
      · exact mat_fuel (S := S) hN f f' _ _ (by omega) (by omega) (by omega)
/-- the pairs of a set, laid into a list -/
def matW (S : Nat) (o : List Int) : List Int := mat J N S S o
theorem matW_zero (o : List Int) : matW J N 0 o = o := rfl
theorem matW_hit {S k : Nat} {o : List Int} (hN : N ≤ 12) (h0 : S ≠ 0) (hS : S < 2 ^ N) (hk : k < N) (h : cnd J N S k = true) (hb : ∀ j, j < k → cnd J N S j = false) : matW J N S o = matW J N (rm (rm S (lowN S)) k) ((o.set (lowN S) (k : Int)).set k (lowN S : Int)) := by
  obtain ⟨a, b, _⟩ := low_ok h0 hS hN
  have h3 := rm_lt hS hN a b
  have h4 := rm_le (rm S (lowN S)) k
  unfold matW
  obtain ⟨S', rfl⟩ : ∃ S', S = S' + 1 := ⟨S - 1, by omega⟩
  conv => lhs; rw [mat]
  rw [if_neg h0, fnd_hit J N hk h hb, if_pos hk]
  exact mat_fuel J N (S := 0) hN _ _ _ _ (by omega) (Nat.le_refl _) (by omega)
theorem matW_miss {S : Nat} {o : List Int} (hN : N ≤ 12) (h0 : S ≠ 0) (hS : S < 2 ^ N) (hb : ∀ j, j < N → cnd J N S j = false) : matW J N S o = matW J N (rm S (lowN S)) (o.set (lowN S) (-1)) := by
  obtain ⟨a, b, _⟩ := low_ok h0 hS hN
  have h3 := rm_lt hS hN a b
  unfold matW
  obtain ⟨S', rfl⟩ : ∃ S', S = S' + 1 := ⟨S - 1, by omega⟩
  conv => lhs; rw [mat]
  rw [if_neg h0, if_neg (fnd_miss J N hb)]
  exact mat_fuel J N (S := 0) hN _ _ _ _ (by omega) (Nat.le_refl _) (by omega)
theorem getD_setM (zs : List Int) (i j : Nat) (x : Int) (h : i < zs.length) : (zs.set i x).getD j 0 = if i = j then x else zs.getD j 0 := by
  simp only [List.getD, List.getElem?_set]
  by_cases e : i = j
  · subst e; simp [h]
  · simp [e]
theorem ext_getD {a b : List Int} {n : Nat} (ha : a.length = n) (hb : b.length = n) (h : ∀ v, v < n → a.getD v 0 = b.getD v 0) : a = b := by
  apply List.ext_getElem (by omega)
  intro i h1 h2
  have := h i (by omega)
  simpa [List.getD, List.getElem?_eq_getElem h1, List.getElem?_eq_getElem h2] using this
/-- what stood at the nodes of the set before does not matter -/
theorem matW_agree (hN : N ≤ 12) : ∀ b S (o o' : List Int), S ≤ b → S < 2 ^ N → o.length = N → o'.length = N → (∀ v, v < N → S.testBit v = false → o.getD v 0 = o'.getD v 0) → matW J N S o = matW J N S o'
  | 0, S, o, o', hb, hS, l1, l2, h => by
    have : S = 0 := by omega
    subst this
    exact ext_getD l1 l2 fun v hv => h v hv (by simp)
  | b + 1, S, o, o', hb, hS, l1, l2, h => by
    by_cases h0 : S = 0
    · subst h0
      exact ext_getD l1 l2 fun v hv => h v hv (by simp)
    · obtain ⟨a, a2, _⟩ := low_ok h0 hS hN
      have h3 := rm_lt hS hN a a2
      obtain ⟨_, f2, f3, f4⟩ := fnd_ok J N (S := S) N 0
      by_cases hf : fnd J N S N 0 < N
      · have hc := f4 (by omega)
        obtain ⟨c1, c2⟩ := cnd_in J N hN h0 hS hc
        have h4 := rm_le (rm S (lowN S)) (fnd J N S N 0)
        rw [matW_hit J N hN h0 hS hf hc (fun j hj => f3 j (by omega) hj), matW_hit J N hN h0 hS hf hc (fun j hj => f3 j (by omega) hj)]
        refine matW_agree hN b _ _ _ (by omega) (by omega) (by simp [l1]) (by simp [l2]) fun v hv hnb => ?_
        have g2 : ∀ q : List Int, q.length = N → ((q.set (lowN S) (fnd J N S N 0 : Int)).set (fnd J N S N 0) (lowN S : Int)).getD v 0 = if fnd J N S N 0 = v then (lowN S : Int) else if lowN S = v then (fnd J N S N 0 : Int) else q.getD v 0 := fun q hq => by
          rw [getD_setM _ _ _ _ (by rw [List.length_set]; omega), getD_setM _ _ _ _ (by omega)]
        rw [g2 o l1, g2 o' l2]
        by_cases e1 : fnd J N S N 0 = v
        · rw [if_pos e1, if_pos e1]
        · rw [if_neg e1, if_neg e1]
          by_cases e2 : lowN S = v
          · rw [if_pos e2, if_pos e2]
          · rw [if_neg e2, if_neg e2]
            rw [rm_bit (Nat.lt_of_le_of_lt (rm_le _ _) hS) hN hf, rm_bit hS hN a] at hnb
            have e3 : ¬ v = lowN S := fun e => e2 e.symm
            have e4 : ¬ v = fnd J N S N 0 := fun e => e1 e.symm
            simp [e3, e4] at hnb
            exact h v hv hnb
      · have hm : ∀ j, j < N → cnd J N S j = false := fun j hj => f3 j (by omega) (by omega)
        rw [matW_miss J N hN h0 hS hm, matW_miss J N hN h0 hS hm]
        refine matW_agree hN b _ _ _ (by omega) (by omega) (by simp [l1]) (by simp [l2]) fun v hv hnb => ?_
        rw [getD_setM _ _ _ _ (by omega), getD_setM _ _ _ _ (by omega)]
        by_cases e2 : lowN S = v
        · rw [if_pos e2, if_pos e2]
        · rw [if_neg e2, if_neg e2]
          rw [rm_bit hS hN a] at hnb
          have e3 : ¬ v = lowN S := fun e => e2 e.symm
          simp [e3] at hnb
          exact h v hv hnb
end dp
end Go.Proofs.Ytigaopfhjimpmaa
