/- Tours made shorter by parts turned around, in plain lists. -/
import Derived.Test.YtnliekbckdbaaaaTour
namespace Go.Proofs.Ytnliekbckdbaaaa
open Go.RowKit

/-- a tour with the part from i to k turned around -/
def turnT (ts : List Int) (i k : Nat) : List Int := (List.range ts.length).map fun j => if i ≤ j ∧ j ≤ k then ts.getD (i + k - j) 0 else ts.getD j 0
theorem turnT_len (ts : List Int) (i k : Nat) : (turnT ts i k).length = ts.length := by simp [turnT]
theorem turnT_get {ts : List Int} {i k j : Nat} (h : j < ts.length) : (turnT ts i k).getD j 0 = if i ≤ j ∧ j ≤ k then ts.getD (i + k - j) 0 else ts.getD j 0 := by
  simp [turnT, List.getD, h]
theorem turnT_rng {ts : List Int} {i k N : Nat} (hl : ts.length = N) (hk : k < N) (h : ∀ j, j < N → ∃ x : Nat, ts.getD j 0 = (x : Int) ∧ x < N) :
    ∀ j, j < N → ∃ x : Nat, (turnT ts i k).getD j 0 = (x : Int) ∧ x < N := by
  intro j hj
  rw [turnT_get (by omega)]
  split
  · exact h _ (by omega)
  · exact h _ hj

theorem longTo_bd {ws ts : List Int} {N : Nat} (hN1 : 1 ≤ N) (hl : ws.length = N * N) (hw : ∀ j, j < N * N → 0 ≤ ws.getD j 0 ∧ ws.getD j 0 ≤ 1000) (ht : ∀ j, j < N → ∃ x : Nat, ts.getD j 0 = (x : Int) ∧ x < N) :
    ∀ k, k ≤ N → 0 ≤ longTo ws ts N k ∧ longTo ws ts N k ≤ 1000 * k
  | 0, _ => by simp [longTo]
  | k + 1, hk => by
    have ih := longTo_bd hN1 hl hw ht k (by omega)
    rw [longTo_snoc]
    obtain ⟨x, hx, hxl⟩ := ht k (by omega)
    obtain ⟨y, hy, hyl⟩ := ht ((k + 1) % N) (Nat.mod_lt _ (by omega))
    rw [hx, hy, Int.toNat_natCast, Int.toNat_natCast]
    have h2 : x * N + y < N * N := by
      have h3 : (x + 1) * N ≤ N * N := Nat.mul_le_mul_right _ (by omega)
      rw [Nat.add_mul] at h3; omega
    have h4 := hw _ h2
    omega

/-- does the turned tour take less? -/
def lessB (ws : List Int) (N : Nat) (ts : List Int) (i k : Nat) : Bool := decide (longTo ws (turnT ts i k) N N < longTo ws ts N N)
def swPairB (ws : List Int) (N : Nat) (ts : List Int) (p : Nat) : Bool := decide (p / N < p % N) && lessB ws N ts (p / N) (p % N)
/-- the tour at the end, and how often a part has been turned -/
def swapF (ws : List Int) (N : Nat) : Nat → List Int → List Int × Nat
  | 0, ts => (ts, 0)
  | f + 1, ts => match (List.range (N * N)).find? (swPairB ws N ts) with
    | none => (ts, 0)
    | some p => let r := swapF ws N f (turnT ts (p / N) (p % N)); (r.1, r.2 + 1)
/-- no pair ahead of (i, k) is better -/
def NoB (ws : List Int) (N : Nat) (ts : List Int) (i k : Nat) : Prop := ∀ a b, a < b → b < N → (a < i ∨ a = i ∧ b < k) → lessB ws N ts a b = false

theorem pair_at {N i k : Nat} (hk : k < N) : (i * N + k) / N = i ∧ (i * N + k) % N = k := by
  constructor
  · rw [Nat.add_comm, Nat.add_mul_div_right _ _ (by omega), Nat.div_eq_of_lt hk, Nat.zero_add]
  · rw [Nat.add_comm, Nat.add_mul_mod_self_right, Nat.mod_eq_of_lt hk]
theorem noB_find {ws : List Int} {N : Nat} {ts : List Int} {i k : Nat} (h : NoB ws N ts i k) (h1 : i < k) (h2 : k < N) (h3 : lessB ws N ts i k = true) :
    (List.range (N * N)).find? (swPairB ws N ts) = some (i * N + k) := by
  rw [List.find?_range_eq_some]
  have hp := pair_at (i := i) h2
  refine ⟨by simp [swPairB, hp.1, hp.2, h1, h3], ?_, ?_⟩
  · rw [List.mem_range]
    have h4 : (i + 1) * N ≤ N * N := Nat.mul_le_mul_right _ (by omega)
    rw [Nat.add_mul] at h4; omega
  · intro j hj
    have hN : 0 < N := by omega
    have hm := Nat.mod_lt j hN
    have hd := Nat.div_add_mod j N
    simp only [swPairB, Bool.not_eq_true', Bool.and_eq_false_iff, decide_eq_false_iff_not]
    by_cases e : j / N < j % N
    · refine Or.inr (h _ _ e hm ?_)
      rcases Nat.lt_trichotomy (j / N) i with h5 | h5 | h5
      · exact Or.inl h5
      · refine Or.inr ⟨h5, ?_⟩
        rw [h5, Nat.mul_comm] at hd; omega
      · exfalso
        have h6 : (i + 1) * N ≤ (j / N) * N := Nat.mul_le_mul_right _ h5
        rw [Nat.add_mul, Nat.mul_comm (j / N)] at h6; omega
    · exact Or.inl e
theorem noB_none {ws : List Int} {N : Nat} {ts : List Int} (h : NoB ws N ts N 0) : (List.range (N * N)).find? (swPairB ws N ts) = none := by
  rw [List.find?_range_eq_none]
  intro j hj
  have hN : 0 < N := by rcases Nat.eq_zero_or_pos N with e | e; subst e; omega; exact e
  have hm := Nat.mod_lt j hN
  simp only [swPairB, Bool.not_eq_true', Bool.and_eq_false_iff, decide_eq_false_iff_not]
  by_cases e : j / N < j % N
  · exact Or.inr (h _ _ e hm (Or.inl (by omega)))
  · exact Or.inl e

/-- the fuel: how long the tour is -/
def swapV (ws : List Int) (N : Nat) (ts : List Int) : List Int × Nat := swapF ws N (longTo ws ts N N).toNat ts
theorem swapF_len (ws : List Int) (N : Nat) : ∀ (f : Nat) (ts : List Int), (swapF ws N f ts).1.length = ts.length
  | 0, ts => rfl
  | f + 1, ts => by
    unfold swapF
    split
    · rfl
    · rw [swapF_len ws N f, turnT_len]
theorem swapF_le (ws : List Int) (N : Nat) : ∀ (f : Nat) (ts : List Int), (swapF ws N f ts).2 ≤ f
  | 0, ts => Nat.le_refl _
  | f + 1, ts => by
    unfold swapF
    split
    · omega
    · exact Nat.succ_le_succ (swapF_le ws N f _)
/-- a tour: as many cities as there are, each below their count -/
def TourOk (N : Nat) (ts : List Int) : Prop := ts.length = N ∧ ∀ j, j < N → ∃ x : Nat, ts.getD j 0 = (x : Int) ∧ x < N
theorem TourOk.turn {N : Nat} {ts : List Int} (h : TourOk N ts) (i : Nat) {k : Nat} (hk : k < N) : TourOk N (turnT ts i k) := ⟨(turnT_len _ _ _).trans h.1, turnT_rng h.1 hk h.2⟩

theorem swapF_more {ws : List Int} {N : Nat} (hN1 : 1 ≤ N) (hl : ws.length = N * N) (hw : ∀ j, j < N * N → 0 ≤ ws.getD j 0 ∧ ws.getD j 0 ≤ 1000) :
    ∀ (f g : Nat) (ts : List Int), TourOk N ts → longTo ws ts N N ≤ f → longTo ws ts N N ≤ g → swapF ws N f ts = swapF ws N g ts := by
  have key : ∀ (f : Nat) (ts : List Int) (p : Nat), TourOk N ts → longTo ws ts N N ≤ ((f : Nat) : Int) → (List.range (N * N)).find? (swPairB ws N ts) = some p →
      TourOk N (turnT ts (p / N) (p % N)) ∧ longTo ws (turnT ts (p / N) (p % N)) N N < longTo ws ts N N ∧ 0 ≤ longTo ws (turnT ts (p / N) (p % N)) N N := by
    intro f ts p h1 h2 h3
    have h4 := List.find?_some h3
    simp only [swPairB, lessB, Bool.and_eq_true, decide_eq_true_eq] at h4
    have h5 := h1.turn (p / N) (Nat.mod_lt p (show 0 < N by omega))
    exact ⟨h5, h4.2, (longTo_bd hN1 hl hw h5.2 N (Nat.le_refl _)).1⟩
  intro f
  induction f with
  | zero =>
    intro g ts h1 h2 h3
    cases g with
    | zero => rfl
    | succ g =>
      simp only [swapF]
      split
      · rfl
      · rename_i p hp
        have := key 0 ts p h1 h2 hp
        omega
  | succ f ih =>
    intro g ts h1 h2 h3
    cases g with
    | zero =>
      simp only [swapF]
      split
      · rfl
      · rename_i p hp
        have := key 0 ts p h1 h3 hp
        omega
    | succ g =>
      simp only [swapF]
      split
      · rfl
      · rename_i p hp
        have h6 := key _ ts p h1 h2 hp
        rw [ih g _ h6.1 (by omega) (by omega)]
theorem swapV_step {ws : List Int} {N : Nat} (hl : ws.length = N * N) (hw : ∀ j, j < N * N → 0 ≤ ws.getD j 0 ∧ ws.getD j 0 ≤ 1000) {ts : List Int} (ht : TourOk N ts) {i k : Nat}
    (h : NoB ws N ts i k) (h1 : i < k) (h2 : k < N) (h3 : lessB ws N ts i k = true) :
    (swapV ws N ts).1 = (swapV ws N (turnT ts i k)).1 ∧ (swapV ws N ts).2 = (swapV ws N (turnT ts i k)).2 + 1 := by
  have hN1 : 1 ≤ N := by omega
  have hp := pair_at (i := i) h2
  have h4 : longTo ws (turnT ts i k) N N < longTo ws ts N N := by simpa [lessB] using h3
  have h5 := (longTo_bd hN1 hl hw (ht.turn i h2).2 N (Nat.le_refl _)).1
  obtain ⟨f, hf⟩ : ∃ f, (longTo ws ts N N).toNat = f + 1 := ⟨(longTo ws ts N N).toNat - 1, by omega⟩
  have h6 : swapV ws N ts = ((swapF ws N f (turnT ts i k)).1, (swapF ws N f (turnT ts i k)).2 + 1) := by
    unfold swapV
    rw [hf]
    simp only [swapF]
    rw [noB_find h h1 h2 h3]
    simp only [hp.1, hp.2]
  rw [h6, show swapV ws N (turnT ts i k) = swapF ws N f (turnT ts i k) from swapF_more hN1 hl hw _ f _ (ht.turn i h2) (by omega) (by omega)]
  exact ⟨rfl, rfl⟩
theorem swapV_end {ws : List Int} {N : Nat} {ts : List Int} (h : NoB ws N ts N 0) : swapV ws N ts = (ts, 0) := by
  unfold swapV
  cases (longTo ws ts N N).toNat with
  | zero => rfl
  | succ f =>
    simp only [swapF]
    rw [noB_none h]
theorem NoB.zero (ws : List Int) (N : Nat) (ts : List Int) : NoB ws N ts 0 1 := fun a b h1 h2 h3 => by omega
theorem NoB.next {ws : List Int} {N : Nat} {ts : List Int} {i k : Nat} (h : NoB ws N ts i k) (h1 : lessB ws N ts i k = false) : NoB ws N ts i (k + 1) := fun a b h2 h3 h4 => by
  by_cases e : a = i ∧ b = k
  · rw [e.1, e.2]; exact h1
  · exact h a b h2 h3 (by omega)
theorem NoB.row {ws : List Int} {N : Nat} {ts : List Int} {i : Nat} {k : Nat} (h : NoB ws N ts i k) (hk : N ≤ k) : NoB ws N ts (i + 1) (i + 2) := fun a b h2 h3 h4 => h a b h2 h3 (by omega)
theorem NoB.all {ws : List Int} {N : Nat} {ts : List Int} {i k : Nat} (h : NoB ws N ts i k) (hi : N ≤ i) : NoB ws N ts N 0 := fun a b h2 h3 h4 => h a b h2 h3 (by omega)
end Go.Proofs.Ytnliekbckdbaaaa
