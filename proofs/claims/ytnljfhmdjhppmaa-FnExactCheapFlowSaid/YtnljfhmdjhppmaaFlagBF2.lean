/- Least ways from a node settle, and lead back to it. In plain numbers. -/
import Derived.Test.YtnljfhmdjhppmaaFlagBF
namespace Go.Proofs.Ytnljfhmdjhppmaa
open Go.RowKit

def pF (ls : List LinkR) (t : List Nat) (e : Nat) : Nat → Nat
  | 0 => e
  | i + 1 => (lk ls t (pF ls t e i)).fr.toNat
theorem pF_add (ls : List LinkR) (t : List Nat) (e i : Nat) : ∀ j, pF ls t e (i + j) = pF ls t (pF ls t e i) j
  | 0 => rfl
  | j + 1 => by rw [← Nat.add_assoc, pF, pF, pF_add ls t e i j]
def cF (ls : List LinkR) (t : List Nat) (x : Nat) : Nat → Int
  | 0 => 0
  | k + 1 => cF ls t x k + (lk ls t (pF ls t x k)).cost
section
variable {ls : List LinkR} {N f : Nat} {π : Nat → Int} {s : LeastS} {t : List Nat} {r j : Nat}
theorem cF_le (h : FlOk ls N f π s t r j) {x : Nat} : ∀ k, (∀ m, m < k → pF ls t x m < N ∧ 0 < t.getD (pF ls t x m) 0) → cF ls t x k ≤ s.d.getD x 0 - s.d.getD (pF ls t x k) 0
  | 0, _ => by rw [cF, pF]; omega
  | k + 1, hx => by
    have ih := cF_le h k fun m hm => hx m (by omega)
    obtain ⟨_, _, _, _, h5, _⟩ := h.W _ (hx k (by omega)).1 (hx k (by omega)).2
    rw [cF, pF]
    omega
theorem cF_lt (h : FlOk ls N f π s t r j) {x : Nat} : ∀ k, (∀ m, m < k → pF ls t x m < N ∧ 0 < t.getD (pF ls t x m) 0) → cF ls t x k < s.d.getD x 0 - s.d.getD (pF ls t x k) 0 ∨ (∀ i, i < k → t.getD (pF ls t x (i + 1)) 0 ≤ t.getD (pF ls t x i) 0)
  | 0, _ => .inr fun i hi => by omega
  | k + 1, hx => by
    obtain ⟨_, _, _, _, h5, h6, _⟩ := h.W _ (hx k (by omega)).1 (hx k (by omega)).2
    have hp : pF ls t x (k + 1) = (lk ls t (pF ls t x k)).fr.toNat := rfl
    rw [← hp] at h5 h6
    rw [cF]
    rcases cF_lt h k (fun m hm => hx m (by omega)) with h1 | h1
    · left; omega
    · have ih := cF_le h k fun m hm => hx m (by omega)
      by_cases e : t.getD (pF ls t x k) 0 < t.getD (pF ls t x (k + 1)) 0
      · left
        have := h6 e
        omega
      · right
        intro i hi
        by_cases e2 : i = k
        · subst e2; omega
        · exact h1 i (by omega)
theorem cF_price (hπ : Fits ls π) (h : FlOk ls N f π s t r j) {x : Nat} : ∀ k, (∀ m, m < k → pF ls t x m < N ∧ 0 < t.getD (pF ls t x m) 0) → π x - π (pF ls t x k) ≤ cF ls t x k
  | 0, _ => by rw [cF, pF]; omega
  | k + 1, hx => by
    have ih := cF_price hπ h k fun m hm => hx m (by omega)
    obtain ⟨h1, h2, _⟩ := h.W _ (hx k (by omega)).1 (hx k (by omega)).2
    have h3 := hπ _ h1
    have hp : pF ls t x (k + 1) = (lk ls t (pF ls t x k)).fr.toNat := rfl
    rw [cF, hp]
    unfold lk at h2 ⊢
    rw [h2, Int.toNat_natCast] at h3
    omega
theorem tF_one (h : FlOk ls N f π s t r j) {u v : Nat} (hu : u < N) (hv : v < N) (h0 : 0 < t.getD u 0) (e : t.getD u 0 = t.getD v 0) : u = v := by
  obtain ⟨_, h2, _⟩ := h.W u hu h0
  obtain ⟨_, h3, _⟩ := h.W v hv (by omega)
  unfold lk at h2 h3
  rw [e, h3] at h2
  omega
/-- where prices fit the changes never lead round -/
theorem no_round (hls : LinksOk ls N) (hne : ∀ k, k < ls.length → (ls.getD k default).fr ≠ (ls.getD k default).to_) (hπ : Fits ls π) (h : FlOk ls N f π s t r j) {x p : Nat} (hp : 1 ≤ p) (hx : ∀ m, m ≤ p → pF ls t x m < N ∧ 0 < t.getD (pF ls t x m) 0) (hc : pF ls t x p = x) : False := by
  have h1 := cF_price hπ h p fun m hm => hx m (by omega)
  rw [hc] at h1
  rcases cF_lt h p (fun m hm => hx m (by omega)) with h2 | h2
  · rw [hc] at h2; omega
  · obtain ⟨_, h3⟩ := le_chain (f := fun i => t.getD (pF ls t x i) 0) p h2
    have h4 : t.getD (pF ls t x p) 0 ≤ t.getD (pF ls t x 1) 0 := h3 1 hp
    have h5 : t.getD (pF ls t x 1) 0 ≤ t.getD (pF ls t x 0) 0 := h2 0 (by omega)
    have h6 : t.getD (pF ls t x 0) 0 = t.getD x 0 := rfl
    rw [hc] at h4
    have e := tF_one h (hx 1 hp).1 (hx 0 (by omega)).1 (hx 1 hp).2 (by omega)
    obtain ⟨q1, q2, _⟩ := h.W _ (hx 0 (by omega)).1 (hx 0 (by omega)).2
    have h7 : pF ls t x 1 = (lk ls t (pF ls t x 0)).fr.toNat := rfl
    rw [e] at h7
    have h8 := hne _ q1
    have h9 := (hls _ q1).1
    unfold lk at h7 q2
    omega
theorem no_repeat (hls : LinksOk ls N) (hne : ∀ k, k < ls.length → (ls.getD k default).fr ≠ (ls.getD k default).to_) (hπ : Fits ls π) (h : FlOk ls N f π s t r j) {x a b : Nat} (hab : a < b) (hx : ∀ m, m ≤ b → pF ls t x m < N ∧ 0 < t.getD (pF ls t x m) 0) (hc : pF ls t x a = pF ls t x b) : False := by
  refine no_round hls hne hπ h (x := pF ls t x a) (p := b - a) (by omega) (fun m hm => ?_) ?_
  · rw [← pF_add]; exact hx (a + m) (by omega)
  · rw [← pF_add, show a + (b - a) = b by omega]; exact hc.symm
/-- N places that are none the source repeat -/
theorem too_long (hls : LinksOk ls N) (hne : ∀ k, k < ls.length → (ls.getD k default).fr ≠ (ls.getD k default).to_) (hπ : Fits ls π) (hf : f < N) (h : FlOk ls N f π s t r j) {x : Nat} (hx : ∀ m, m ≤ N - 1 → pF ls t x m < N ∧ 0 < t.getD (pF ls t x m) 0) : False := by
  obtain ⟨i, k, hik, hk, e⟩ := pigeon (f := fun i => if i = 0 then f else pF ls t x (i - 1)) (N := N) (fun i hi => by
    show (if i = 0 then f else pF ls t x (i - 1)) < N
    split
    · exact hf
    · exact (hx (i - 1) (by omega)).1)
  have e : (if i = 0 then f else pF ls t x (i - 1)) = if k = 0 then f else pF ls t x (k - 1) := e
  rw [if_neg (show ¬ k = 0 by omega)] at e
  by_cases hi : i = 0
  · rw [if_pos hi] at e
    have := (hx (k - 1) (by omega)).2
    rw [← e, h.tf] at this
    omega
  · rw [if_neg hi] at e
    exact no_repeat hls hne hπ h (show i - 1 < k - 1 by omega) (fun m hm => hx m (by omega)) e
theorem chainF (hls : LinksOk ls N) (h : FlOk ls N f π s t r j) {e : Nat} (he : e < N) (hlast : (N - 1) * ls.length < t.getD e 0) : ∀ i, i ≤ N - 1 → pF ls t e i < N ∧ (N - 1 - i) * ls.length < t.getD (pF ls t e i) 0
  | 0, _ => ⟨he, hlast⟩
  | i + 1, hi => by
    obtain ⟨h1, h2⟩ := chainF hls h he hlast i (by omega)
    have h0 : 0 < t.getD (pF ls t e i) 0 := by omega
    obtain ⟨p1, _, _, _, _, _, p7⟩ := h.W _ h1 h0
    have hfr := (hls _ p1).1
    refine ⟨by show (lk ls t (pF ls t e i)).fr.toNat < N; unfold lk; omega, ?_⟩
    have e1 : N - 1 - i = (N - 1 - (i + 1)) + 1 := by omega
    rw [e1, Nat.succ_mul] at h2
    have := p7 (by omega)
    show (N - 1 - (i + 1)) * ls.length < t.getD (lk ls t (pF ls t e i)).fr.toNat 0
    omega
theorem no_late (hls : LinksOk ls N) (hne : ∀ k, k < ls.length → (ls.getD k default).fr ≠ (ls.getD k default).to_) (hπ : Fits ls π) (hf : f < N) (h : FlOk ls N f π s t r j) {e : Nat} (he : e < N) : t.getD e 0 ≤ (N - 1) * ls.length := by
  rcases Nat.lt_or_ge ((N - 1) * ls.length) (t.getD e 0) with hlt | hge
  · exfalso
    have hc := chainF hls h he hlt
    exact too_long hls hne hπ hf h (x := e) fun m hm => ⟨(hc m hm).1, by have := (hc m hm).2; omega⟩
  · exact hge
end
theorem round_quiet {ls : List LinkR} {s : LeastS} {t : List Nat} {r N : Nat} (hls : LinksOk ls N) (htl : t.length = N) : ∀ j, j ≤ ls.length → (tTo ls s t r j).length = N ∧ ((∃ e, e < N ∧ r * ls.length < (tTo ls s t r j).getD e 0) ∨ (leastTo ls s j = { s with e := -1 } ∧ ∀ i, i < j → ¬ leastGo s (ls.getD i default) = true))
  | 0, _ => ⟨htl, .inr ⟨rfl, fun i hi => by omega⟩⟩
  | j + 1, hj => by
    obtain ⟨h1, h2⟩ := round_quiet (s := s) (t := t) (r := r) hls htl j (by omega)
    obtain ⟨_, b0, b1⟩ := hls j (by omega)
    rw [tTo, leastTo]
    by_cases hgo : leastGo (leastTo ls s j) (ls.getD j default) = true
    · rw [if_pos hgo]
      refine ⟨by rw [List.length_set]; exact h1, .inl ⟨(ls.getD j default).to_.toNat, by omega, ?_⟩⟩
      rw [getD_setN _ _ _ _ (by rw [h1]; omega), if_pos rfl]; omega
    · rw [if_neg hgo]
      refine ⟨h1, ?_⟩
      rcases h2 with h2 | ⟨h2, h3⟩
      · exact .inl h2
      · right
        refine ⟨by unfold leastStep; rw [if_neg hgo]; exact h2, fun i hi => ?_⟩
        by_cases e : i = j
        · subst e
          rw [h2] at hgo
          exact hgo
        · exact h3 i (by omega)
section
variable {ls : List LinkR} {N f : Nat} {π : Nat → Int}
/-- behind N - 1 rounds all is settled -/
theorem settled (hls : LinksOk ls N) (hne : ∀ k, k < ls.length → (ls.getD k default).fr ≠ (ls.getD k default).to_) (hπ : Fits ls π) (hf : f < N) : ∀ k, k < ls.length → ¬ leastGo (leastR ls (srcS N f) (N - 1)) (ls.getD k default) = true := by
  have h := fl_r hls hne hπ hf (N - 1)
  have h2 := fl_to hls hne hπ hf h ls.length (Nat.le_refl _)
  have h3 := round_quiet (s := leastR ls (srcS N f) (N - 1)) (t := tR ls (srcS N f) N (N - 1)) (r := N - 1) hls h.tl ls.length (Nat.le_refl _)
  rcases h3.2 with ⟨e, he, hlt⟩ | ⟨_, h4⟩
  · have := no_late hls hne hπ hf h2 he
    omega
  · exact h4
end
end Go.Proofs.Ytnljfhmdjhppmaa
