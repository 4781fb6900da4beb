/- Best pairs of rows and columns, in plain lists. -/
import Derived.Test.YtfoelpmglmaamaaAppend
import Derived.Test.YtfoelpmglmaamaaMix
import Derived.Test.YtfoelpmglmaamaaPop
namespace Go.Proofs.Ytfoelpmglmaamaa
open Go.RowKit

theorem idx_lt' {N i k : Nat} (hi : i < N) (hk : k < N) : i * N + k < N * N := by
  have : (i + 1) * N ≤ N * N := Nat.mul_le_mul_right _ hi
  rw [Nat.succ_mul] at this
  omega
theorem or_lt {S m c : Nat} (h : m < 2 ^ S) (hc : c < S) : m ||| 2 ^ c < 2 ^ S := Nat.or_lt_two_pow h (Nat.pow_lt_pow_right (by omega) hc)
theorem or_ne {m c : Nat} (h : m.testBit c = false) : m ||| 2 ^ c ≠ m := by
  intro e
  have h2 : (m ||| 2 ^ c).testBit c = true := by rw [Nat.testBit_or, Nat.testBit_two_pow_self]; simp
  rw [e, h] at h2
  cases h2
theorem getD_far (zs : List Int) (i j : Nat) (x : Int) (h : i ≠ j) : (zs.set i x).getD j 0 = zs.getD j 0 := by
  simp [List.getD, List.getElem?_set_ne h]
theorem set_self (zs : List Int) (i : Nat) : zs.set i (zs.getD i 0) = zs := by
  apply List.ext_getElem?
  intro j
  by_cases e : i = j
  · subst e
    by_cases h : i < zs.length
    · simp [h]
    · simp [h, List.getElem?_eq_none (Nat.le_of_not_lt h)]
  · rw [List.getElem?_set_ne e]

/-- the least cost of the columns below c that are not in m, and whether there is one -/
def bpB (cs R : List Int) (S m row : Nat) : Nat → Int × Bool
  | 0 => (0, false)
  | c + 1 => if m.testBit c = true then bpB cs R S m row c else if (bpB cs R S m row c).2 = false ∨ cs.getD (row * S + c) 0 + R.getD (m ||| 2 ^ c) 0 < (bpB cs R S m row c).1 then (cs.getD (row * S + c) 0 + R.getD (m ||| 2 ^ c) 0, true) else bpB cs R S m row c
theorem bpB_in {cs R : List Int} {S m row c : Nat} (h : m.testBit c = true) : bpB cs R S m row (c + 1) = bpB cs R S m row c := by
  show (if _ then _ else _) = _; rw [if_pos h]
theorem bpB_yes {cs R : List Int} {S m row c : Nat} (h : m.testBit c = false) (h2 : (bpB cs R S m row c).2 = false ∨ cs.getD (row * S + c) 0 + R.getD (m ||| 2 ^ c) 0 < (bpB cs R S m row c).1) : bpB cs R S m row (c + 1) = (cs.getD (row * S + c) 0 + R.getD (m ||| 2 ^ c) 0, true) := by
  show (if _ then _ else _) = _; rw [if_neg (by rw [h]; decide), if_pos h2]
theorem bpB_no {cs R : List Int} {S m row c : Nat} (h1 : (bpB cs R S m row c).2 = true) (h2 : (bpB cs R S m row c).1 ≤ cs.getD (row * S + c) 0 + R.getD (m ||| 2 ^ c) 0) : bpB cs R S m row (c + 1) = bpB cs R S m row c := by
  show (if _ then _ else _) = _
  split
  · rfl
  · rw [if_neg (by rw [h1]; intro h; rcases h with h | h; exact absurd h (by decide); omega)]
theorem bpB_zero {cs R : List Int} {S m row : Nat} : ∀ c, (bpB cs R S m row c).2 = false → (bpB cs R S m row c).1 = 0
  | 0, _ => rfl
  | c + 1, h => by
    have ih := bpB_zero (cs := cs) (R := R) (S := S) (m := m) (row := row) c
    unfold bpB at h ⊢
    split
    · rename_i h1; rw [if_pos h1] at h; exact ih h
    · rename_i h1
      rw [if_neg h1] at h
      split
      · rename_i h2; rw [if_pos h2] at h; cases h
      · rename_i h2; rw [if_neg h2] at h; exact ih h
theorem bpB_bd {cs R : List Int} {S m row : Nat} {B : Int} (hB : 0 ≤ B) (hm : m < 2 ^ S) (hR : ∀ j, j < 2 ^ S → -B ≤ R.getD j 0 ∧ R.getD j 0 ≤ B) (hrow : row < S) (hc : ∀ j, j < S * S → -1000000 ≤ cs.getD j 0 ∧ cs.getD j 0 ≤ 1000000) : ∀ c, c ≤ S → -(B + 1000000) ≤ (bpB cs R S m row c).1 ∧ (bpB cs R S m row c).1 ≤ B + 1000000
  | 0, _ => by show -(B + 1000000) ≤ (0 : Int) ∧ (0 : Int) ≤ B + 1000000; omega
  | c + 1, h => by
    have ih := bpB_bd hB hm hR hrow hc c (by omega)
    have h1 := hR (m ||| 2 ^ c) (or_lt hm (by omega))
    have h2 := hc (row * S + c) (idx_lt' hrow (by omega))
    unfold bpB
    split
    · exact ih
    · split
      · show -(B + 1000000) ≤ cs.getD (row * S + c) 0 + R.getD (m ||| 2 ^ c) 0 ∧ cs.getD (row * S + c) 0 + R.getD (m ||| 2 ^ c) 0 ≤ B + 1000000
        omega
      · exact ih
/-- the least costs after j rounds -/
def bpR (cs : List Int) (S : Nat) : Nat → List Int
  | 0 => List.replicate (2 ^ S) 0
  | j + 1 => (bpR cs S j).set (2 ^ S - 2 - j) (bpB cs (bpR cs S j) S (2 ^ S - 2 - j) (bcnt (2 ^ S - 2 - j) S) S).1
theorem bpR_len (cs : List Int) (S : Nat) : ∀ j, (bpR cs S j).length = 2 ^ S
  | 0 => by simp [bpR]
  | j + 1 => by rw [bpR, List.length_set]; exact bpR_len cs S j
theorem bpR_zero {cs : List Int} {S i : Nat} : ∀ j, i + j < 2 ^ S - 1 → (bpR cs S j).getD i 0 = 0
  | 0, _ => by simp only [bpR, List.getD, List.getElem?_replicate]; split <;> rfl
  | j + 1, h => by
    rw [bpR, getD_far _ _ _ _ (by omega)]
    exact bpR_zero j (by omega)
theorem bpR_bd {cs : List Int} {S : Nat} (hS : S ≤ 16) (hc : ∀ j, j < S * S → -1000000 ≤ cs.getD j 0 ∧ cs.getD j 0 ≤ 1000000) : ∀ j : Nat, j + 1 ≤ 2 ^ S → ∀ i, i < 2 ^ S → -((j : Int) * 1000000) ≤ (bpR cs S j).getD i 0 ∧ (bpR cs S j).getD i 0 ≤ (j : Int) * 1000000
  | 0, _, i, hi => by
    have : (bpR cs S 0).getD i 0 = 0 := by simp only [bpR, List.getD, List.getElem?_replicate]; split <;> rfl
    rw [this]; omega
  | j + 1, h, i, hi => by
    have ih := bpR_bd hS hc j (by omega)
    rw [bpR]
    by_cases e : i = 2 ^ S - 2 - j
    · rw [getD_set (by rw [bpR_len]; omega), if_pos e]
      have h1 := bcnt_full S (2 ^ S - 2 - j) (by omega)
      have := bpB_bd (cs := cs) (R := bpR cs S j) (m := 2 ^ S - 2 - j) (B := (j : Int) * 1000000) (by omega) (by omega) ih h1 hc S (Nat.le_refl _)
      rw [show ((j + 1 : Nat) : Int) = (j : Int) + 1 by omega]
      omega
    · rw [getD_far _ _ _ _ (fun h => e h.symm)]
      have := ih i hi
      rw [show ((j + 1 : Nat) : Int) = (j : Int) + 1 by omega]
      omega
theorem bpR_all {cs : List Int} {S : Nat} (hS : S ≤ 16) (hc : ∀ j, j < S * S → -1000000 ≤ cs.getD j 0 ∧ cs.getD j 0 ≤ 1000000) {j : Nat} (hj : j + 1 ≤ 2 ^ S) (i : Nat) (hi : i < 2 ^ S) : -65536000000 ≤ (bpR cs S j).getD i 0 ∧ (bpR cs S j).getD i 0 ≤ 65536000000 := by
  have h1 := bpR_bd hS hc j hj i hi
  have h2 := Nat.pow_le_pow_right (n := 2) (by omega) hS
  omega

/-- the first column that fits -/
def bpGo (cs R : List Int) (S m row c : Nat) : Bool := !m.testBit c && decide (cs.getD (row * S + c) 0 + R.getD (m ||| 2 ^ c) 0 = R.getD m 0)
def bpF (cs R : List Int) (S m row : Nat) : Nat → Nat → Option Nat
  | 0, _ => none
  | n + 1, c => if bpGo cs R S m row c = true then some c else bpF cs R S m row n (c + 1)
theorem bpF_yes {cs R : List Int} {S m row c : Nat} (hc : c < S) (h : bpGo cs R S m row c = true) : bpF cs R S m row (S - c) c = some c := by
  rw [show S - c = (S - (c + 1)) + 1 by omega, bpF, if_pos h]
theorem bpF_no {cs R : List Int} {S m row c : Nat} (hc : c < S) (h : bpGo cs R S m row c = false) : bpF cs R S m row (S - c) c = bpF cs R S m row (S - (c + 1)) (c + 1) := by
  rw [show S - c = (S - (c + 1)) + 1 by omega, bpF, if_neg (by rw [h]; decide)]
theorem bpF_lt {cs R : List Int} {S m row k : Nat} : ∀ n c, bpF cs R S m row n c = some k → k < c + n
  | 0, c, h => by cases h
  | n + 1, c, h => by
    unfold bpF at h
    split at h
    · injection h with h; omega
    · have := bpF_lt n (c + 1) h; omega
def bpA (s : List Int × Nat) : Option Nat → List Int × Nat
  | none => s
  | some c => (s.1 ++ [(c : Int)], s.2 ||| 2 ^ c)
/-- the pairs of the first rows, and their columns -/
def bpP (cs R : List Int) (S : Nat) : Nat → List Int × Nat
  | 0 => ([], 0)
  | r + 1 => bpA (bpP cs R S r) (bpF cs R S (bpP cs R S r).2 r S 0)
theorem bpP_ok (cs R : List Int) (S : Nat) : ∀ r, (bpP cs R S r).1.length ≤ r ∧ (bpP cs R S r).2 < 2 ^ S ∧ ∀ i, i < (bpP cs R S r).1.length → 0 ≤ (bpP cs R S r).1.getD i 0 ∧ (bpP cs R S r).1.getD i 0 < S
  | 0 => ⟨Nat.le_refl _, Nat.two_pow_pos S, fun i h => by simp [bpP] at h⟩
  | r + 1 => by
    obtain ⟨a1, a2, a3⟩ := bpP_ok cs R S r
    rw [bpP]
    cases hf : bpF cs R S (bpP cs R S r).2 r S 0 with
    | none => exact ⟨Nat.le_succ_of_le a1, a2, a3⟩
    | some c =>
      have hc := bpF_lt _ _ hf
      refine ⟨by show ((bpP cs R S r).1 ++ [(c : Int)]).length ≤ r + 1; rw [List.length_append, List.length_singleton]; omega, or_lt a2 (by omega), ?_⟩
      show ∀ i, i < ((bpP cs R S r).1 ++ [(c : Int)]).length → 0 ≤ ((bpP cs R S r).1 ++ [(c : Int)]).getD i 0 ∧ ((bpP cs R S r).1 ++ [(c : Int)]).getD i 0 < S
      intro i hi
      rw [List.length_append, List.length_singleton] at hi
      simp only [List.getD]
      by_cases e : i < (bpP cs R S r).1.length
      · rw [List.getElem?_append_left e]; exact a3 i e
      · rw [List.getElem?_append_right (by omega), show i - (bpP cs R S r).1.length = 0 by omega]
        show 0 ≤ (c : Int) ∧ (c : Int) < S
        omega

/-- the rows of the columns -/
def roT (ps : List Int) (S : Nat) : Nat → List Int
  | 0 => List.replicate S 0
  | k + 1 => (roT ps S k).set (ps.getD k 0).toNat (k : Int)
theorem roT_len (ps : List Int) (S : Nat) : ∀ k, (roT ps S k).length = S
  | 0 => by simp [roT]
  | k + 1 => by rw [roT, List.length_set]; exact roT_len ps S k
theorem roT_bd {ps : List Int} {S : Nat} : ∀ k, k ≤ S → ∀ i, i < S → 0 ≤ (roT ps S k).getD i 0 ∧ (roT ps S k).getD i 0 < S
  | 0, _, i, hi => by
    have : (roT ps S 0).getD i 0 = 0 := by simp only [roT, List.getD, List.getElem?_replicate]; split <;> rfl
    rw [this]; omega
  | k + 1, h, i, hi => by
    have ih := roT_bd (ps := ps) (S := S) k (by omega) i hi
    rw [roT]
    by_cases e : (ps.getD k 0).toNat = i
    · rw [getD_set (by rw [roT_len]; omega), if_pos e.symm]; omega
    · rw [getD_far _ _ _ _ e]; exact ih

/-- one step of the prices of columns -/
def lgX (cs ro v : List Int) (S k j : Nat) : Int := v.getD j 0 + cs.getD ((ro.getD j 0).toNat * S + k) 0 - cs.getD ((ro.getD j 0).toNat * S + j) 0
def lgJ (cs ro v : List Int) (S k : Nat) : Nat → List Int
  | 0 => v
  | j + 1 => (lgJ cs ro v S k j).set k (min ((lgJ cs ro v S k j).getD k 0) (lgX cs ro (lgJ cs ro v S k j) S k j))
def lgK (cs ro v : List Int) (S : Nat) : Nat → List Int
  | 0 => v
  | k + 1 => lgJ cs ro (lgK cs ro v S k) S k S
def lgT (cs ro : List Int) (S : Nat) : Nat → List Int
  | 0 => List.replicate S 0
  | t + 1 => lgK cs ro (lgT cs ro S t) S S
def LgB (S : Nat) (v : List Int) (B : Int) : Prop := v.length = S ∧ ∀ k, k < S → -B ≤ v.getD k 0 ∧ v.getD k 0 ≤ 0
theorem lgJ_yes {cs ro v : List Int} {S k j : Nat} (h : lgX cs ro (lgJ cs ro v S k j) S k j < (lgJ cs ro v S k j).getD k 0) : lgJ cs ro v S k (j + 1) = (lgJ cs ro v S k j).set k (lgX cs ro (lgJ cs ro v S k j) S k j) := by
  rw [lgJ, Int.min_eq_right (by omega)]
theorem lgJ_no {cs ro v : List Int} {S k j : Nat} (h : ¬ lgX cs ro (lgJ cs ro v S k j) S k j < (lgJ cs ro v S k j).getD k 0) : lgJ cs ro v S k (j + 1) = lgJ cs ro v S k j := by
  rw [lgJ, Int.min_eq_left (by omega), set_self]
theorem lgJ_bd {cs ro : List Int} {S : Nat} (hc : ∀ j, j < S * S → -1000000 ≤ cs.getD j 0 ∧ cs.getD j 0 ≤ 1000000) (hr : ∀ i, i < S → 0 ≤ ro.getD i 0 ∧ ro.getD i 0 < S) {v : List Int} {B : Int} {k : Nat} (hk : k < S) (hv : LgB S v B) : ∀ j : Nat, j ≤ S → LgB S (lgJ cs ro v S k j) (B + 2000000 * j)
  | 0, _ => by simpa [lgJ] using hv
  | j + 1, h => by
    obtain ⟨a1, a2⟩ := lgJ_bd hc hr hk hv j (by omega)
    have h1 := hr j (by omega)
    have h2 := hc ((ro.getD j 0).toNat * S + k) (idx_lt' (by omega) hk)
    have h3 := hc ((ro.getD j 0).toNat * S + j) (idx_lt' (by omega) (by omega))
    have h4 := a2 k hk
    have h5 := a2 j (by omega)
    have e : ((j + 1 : Nat) : Int) = (j : Int) + 1 := by omega
    refine ⟨by rw [lgJ, List.length_set]; exact a1, fun i hi => ?_⟩
    rw [lgJ]
    by_cases e2 : k = i
    · rw [getD_set (by rw [a1]; exact hk), if_pos e2.symm]
      unfold lgX
      rw [e]
      omega
    · rw [getD_far _ _ _ _ e2, e]
      have := a2 i hi
      omega
theorem lgK_bd {cs ro : List Int} {S : Nat} (hS : S ≤ 16) (hc : ∀ j, j < S * S → -1000000 ≤ cs.getD j 0 ∧ cs.getD j 0 ≤ 1000000) (hr : ∀ i, i < S → 0 ≤ ro.getD i 0 ∧ ro.getD i 0 < S) {v : List Int} {B : Int} (hv : LgB S v B) : ∀ k : Nat, k ≤ S → LgB S (lgK cs ro v S k) (B + 32000000 * k)
  | 0, _ => by simpa [lgK] using hv
  | k + 1, h => by
    have h1 := lgJ_bd hc hr (show k < S by omega) (lgK_bd hS hc hr hv k (by omega)) S (Nat.le_refl _)
    refine ⟨h1.1, fun i hi => ?_⟩
    have h2 := h1.2 i hi
    rw [lgK]
    rw [show ((k + 1 : Nat) : Int) = (k : Int) + 1 by omega]
    omega
theorem lgT_bd {cs ro : List Int} {S : Nat} (hS : S ≤ 16) (hc : ∀ j, j < S * S → -1000000 ≤ cs.getD j 0 ∧ cs.getD j 0 ≤ 1000000) (hr : ∀ i, i < S → 0 ≤ ro.getD i 0 ∧ ro.getD i 0 < S) : ∀ t : Nat, LgB S (lgT cs ro S t) (512000000 * t)
  | 0 => ⟨by simp [lgT], fun k hk => by
      have : (lgT cs ro S 0).getD k 0 = 0 := by simp only [lgT, List.getD, List.getElem?_replicate]; split <;> rfl
      rw [this]; omega⟩
  | t + 1 => by
    have h1 := lgK_bd hS hc hr (lgT_bd hS hc hr t) S (Nat.le_refl _)
    refine ⟨h1.1, fun i hi => ?_⟩
    have h2 := h1.2 i hi
    rw [lgT]
    rw [show ((t + 1 : Nat) : Int) = (t : Int) + 1 by omega]
    omega
/-- what every list on the way is bound by -/
theorem lg_all {cs ro : List Int} {S : Nat} (hS : S ≤ 16) (hc : ∀ j, j < S * S → -1000000 ≤ cs.getD j 0 ∧ cs.getD j 0 ≤ 1000000) (hr : ∀ i, i < S → 0 ≤ ro.getD i 0 ∧ ro.getD i 0 < S) {t k j : Nat} (ht : t ≤ S) (hk : k < S) (hj : j ≤ S) : (lgJ cs ro (lgK cs ro (lgT cs ro S t) S k) S k j).length = S ∧ ∀ i, i < S → -10000000000 ≤ (lgJ cs ro (lgK cs ro (lgT cs ro S t) S k) S k j).getD i 0 ∧ (lgJ cs ro (lgK cs ro (lgT cs ro S t) S k) S k j).getD i 0 ≤ 0 := by
  have h1 := lgJ_bd hc hr hk (lgK_bd hS hc hr (lgT_bd hS hc hr t) k (by omega)) j hj
  refine ⟨h1.1, fun i hi => ?_⟩
  have h2 := h1.2 i hi
  omega
/-- the prices of the rows -/
def uT (cs ps v : List Int) (S : Nat) : Nat → List Int
  | 0 => []
  | r + 1 => uT cs ps v S r ++ [cs.getD (r * S + (ps.getD r 0).toNat) 0 - v.getD (ps.getD r 0).toNat 0]
theorem uT_len (cs ps v : List Int) (S : Nat) : ∀ r, (uT cs ps v S r).length = r
  | 0 => rfl
  | r + 1 => by rw [uT, List.length_append, uT_len cs ps v S r]; rfl
def bpRest (cs : List Int) (S : Nat) : List Int := bpR cs S (2 ^ S - 1)
def bpPs (cs : List Int) (S : Nat) : List Int := (bpP cs (bpRest cs S) S S).1
def bpVs (cs : List Int) (S : Nat) : List Int := lgT cs (roT (bpPs cs S) S (bpPs cs S).length) S S
def bpUs (cs : List Int) (S : Nat) : List Int := uT cs (bpPs cs S) (bpVs cs S) S (bpPs cs S).length
def bpOk (side : Int) (cs : List Int) : Bool := inB side 1 16 && decide ((cs.length : Int) = side * side) && cs.all fun x => inB x (-1000000) 1000000
end Go.Proofs.Ytfoelpmglmaamaa
