/- The least way back to the source, and prices behind a flow along it. In plain numbers. -/
import Derived.Test.YtnljfhmdjhppmaaFlagBF2
import Derived.Test.YtnljfhmdjhppmaaGreatP
namespace Go.Proofs.Ytnljfhmdjhppmaa
open Go.RowKit

theorem least_of {P : Nat → Prop} : ∀ (b p : Nat), p ≤ b → P p → ∃ q, q ≤ p ∧ P q ∧ ∀ m, m < q → ¬ P m
  | 0, p, h1, h3 => by
    have : p = 0 := by omega
    subst this
    exact ⟨0, Nat.le_refl _, h3, fun m hm => by omega⟩
  | b + 1, p, h1, h3 => by
    by_cases hex : ∃ m, m < p ∧ P m
    · obtain ⟨m, a, d⟩ := hex
      obtain ⟨q, q2, q3, q4⟩ := least_of b m (by omega) d
      exact ⟨q, by omega, q3, q4⟩
    · exact ⟨p, Nat.le_refl _, h3, fun m hm hP => hex ⟨m, hm, hP⟩⟩
theorem up_bound (g : Nat → Int) : ∀ n, ∃ K : Int, ∀ k, k < n → g k ≤ K
  | 0 => ⟨0, fun k hk => by omega⟩
  | n + 1 => by
    obtain ⟨K, hK⟩ := up_bound g n
    refine ⟨max K (g n), fun k hk => ?_⟩
    by_cases e : k = n
    · subst e; omega
    · have := hK k (by omega); omega
/-- the links of the way back -/
def wsR (ls : List LinkR) (t : List Nat) : Nat → Nat → List LinkR
  | 0, _ => []
  | p + 1, v => lk ls t v :: wsR ls t p (lk ls t v).fr.toNat
theorem wsR_len (ls : List LinkR) (t : List Nat) : ∀ p v, (wsR ls t p v).length = p
  | 0, _ => rfl
  | p + 1, v => by rw [wsR, List.length_cons, wsR_len ls t p]
theorem pF_shift (ls : List LinkR) (t : List Nat) (v i : Nat) : pF ls t v (i + 1) = pF ls t (lk ls t v).fr.toNat i := by
  rw [Nat.add_comm, pF_add]; rfl
theorem wsR_at (ls : List LinkR) (t : List Nat) : ∀ p v i, i < p → (wsR ls t p v).getD i default = lk ls t (pF ls t v i)
  | p + 1, v, 0, _ => rfl
  | p + 1, v, i + 1, hi => by
    rw [wsR, List.getD_cons_succ, wsR_at ls t p _ i (by omega), pF_shift]
section
variable {ls : List LinkR} {N f : Nat} {π : Nat → Int} {s : LeastS} {t : List Nat} {r : Nat}
/-- what a way back is like -/
structure BackOk (ls : List LinkR) (N f : Nat) (t : List Nat) (v p : Nat) : Prop where
  end_ : pF ls t v p = f
  le : p ≤ N
  off : ∀ i, i < p → pF ls t v i ≠ f
  in_ : ∀ i, i < p → pF ls t v i < N ∧ 0 < t.getD (pF ls t v i) 0
theorem back_way (hls : LinksOk ls N) (hne : ∀ k, k < ls.length → (ls.getD k default).fr ≠ (ls.getD k default).to_) (hπ : Fits ls π) (hf : f < N) (h : FlOk ls N f π s t r 0) {v : Nat} (hv : v < N) (hk : s.k.getD v false = true) : ∃ p, BackOk ls N f t v p := by
  have hQ : ∀ i, (∀ m, m < i → pF ls t v m ≠ f) → pF ls t v i < N ∧ s.k.getD (pF ls t v i) false = true := by
    intro i
    induction i with
    | zero => intro _; exact ⟨hv, hk⟩
    | succ i ih =>
      intro hm
      obtain ⟨h1, h2⟩ := ih fun m hm' => hm m (by omega)
      have h0 : 0 < t.getD (pF ls t v i) 0 := by
        rcases (h.known _ h1).1 h2 with e | e
        · exact absurd e (hm i (by omega))
        · exact e
      obtain ⟨p1, _, p3, _⟩ := h.W _ h1 h0
      have hfr := (hls _ p1).1
      exact ⟨by show (lk ls t (pF ls t v i)).fr.toNat < N; unfold lk; omega, p3⟩
  have hex : ∃ i, i ≤ N - 1 ∧ pF ls t v i = f := by
    refine Classical.byContradiction fun hno => ?_
    have hoff : ∀ m, m ≤ N - 1 → pF ls t v m ≠ f := fun m hm e => hno ⟨m, hm, e⟩
    refine too_long hls hne hπ hf h (x := v) fun m hm => ?_
    obtain ⟨h1, h2⟩ := hQ m fun m' hm' => hoff m' (by omega)
    refine ⟨h1, ?_⟩
    rcases (h.known _ h1).1 h2 with e | e
    · exact absurd e (hoff m hm)
    · exact e
  obtain ⟨i, hi, he⟩ := hex
  obtain ⟨p, p1, p2, p3⟩ := least_of (P := fun i => pF ls t v i = f) i i (Nat.le_refl _) he
  refine ⟨p, p2, by omega, p3, fun m hm => ?_⟩
  obtain ⟨h1, h2⟩ := hQ m fun m' hm' => p3 m' (by omega)
  refine ⟨h1, ?_⟩
  rcases (h.known _ h1).1 h2 with e | e
  · exact absurd e (p3 m hm)
  · exact e
theorem back_path (hls : LinksOk ls N) (h : FlOk ls N f π s t r 0) : ∀ p v, BackOk ls N f t v p → Path ls s.b N f (wsR ls t p v) (v : Int)
  | 0, v, hb => by
    have := hb.end_
    rw [pF] at this
    rw [wsR, Path, this]
  | p + 1, v, hb => by
    obtain ⟨i1, i2⟩ := hb.in_ 0 (by omega)
    have i1 : v < N := i1
    have i2 : 0 < t.getD v 0 := i2
    have hvf : v ≠ f := hb.off 0 (by omega)
    obtain ⟨w1, w2, _, w4, _⟩ := h.W v i1 i2
    have hfr := (hls _ w1).1
    rw [wsR, Path]
    refine ⟨by omega, ⟨by omega, by omega⟩, ⟨_, by rw [Int.toNat_natCast]; exact w4, w1, rfl⟩, ?_⟩
    have ih := back_path hls h p (lk ls t v).fr.toNat ⟨by rw [← pF_shift]; exact hb.end_, by have := hb.le; omega, fun i hi => by rw [← pF_shift]; exact hb.off (i + 1) (by omega), fun i hi => by rw [← pF_shift]; exact hb.in_ (i + 1) (by omega)⟩
    have e : (((lk ls t v).fr.toNat : Nat) : Int) = (lk ls t v).fr := by unfold lk; omega
    rw [e] at ih
    exact ih
theorem back_differ (hls : LinksOk ls N) (hne : ∀ k, k < ls.length → (ls.getD k default).fr ≠ (ls.getD k default).to_) (hπ : Fits ls π) (h : FlOk ls N f π s t r 0) {v p : Nat} (hb : BackOk ls N f t v p) {a b : Nat} (hab : a < b) (hbp : b ≤ p) : pF ls t v a ≠ pF ls t v b := by
  intro e
  by_cases hp : b = p
  · subst hp
    rw [hb.end_] at e
    exact hb.off a hab e
  · exact no_repeat hls hne hπ h hab (fun m hm => hb.in_ m (by omega)) e
/-- what the links of the way are -/
theorem back_mem (h : FlOk ls N f π s t r 0) {v p : Nat} (hb : BackOk ls N f t v p) {l : LinkR} (hl : l ∈ wsR ls t p v) : ∃ i, i < p ∧ l = lk ls t (pF ls t v i) ∧ l ∈ ls ∧ l.to_ = pF ls t v i ∧ l.fr.toNat = pF ls t v (i + 1) ∧ s.k.getD l.fr.toNat false = true ∧ s.k.getD l.to_.toNat false = true ∧ s.d.getD l.fr.toNat 0 + l.cost ≤ s.d.getD l.to_.toNat 0 := by
  obtain ⟨i, hi, he⟩ := List.mem_iff_getElem.1 hl
  rw [wsR_len] at hi
  have e : l = lk ls t (pF ls t v i) := by
    rw [← wsR_at ls t p v i hi, ← he]
    simp [List.getD, List.getElem?_eq_getElem (show i < (wsR ls t p v).length by rw [wsR_len]; exact hi)]
  obtain ⟨i1, i2⟩ := hb.in_ i hi
  obtain ⟨w1, w2, w3, _, w5, _⟩ := h.W _ i1 i2
  subst e
  refine ⟨i, hi, rfl, getDL_mem w1, w2, rfl, w3, ?_, ?_⟩
  · rw [w2, Int.toNat_natCast]
    exact (h.known _ i1).2 (.inr i2)
  · rw [w2, Int.toNat_natCast]; exact w5
end
/-- prices that fit behind a flow along the least way -/
theorem fits_next {ls ls' : List LinkR} {N f : Nat} {π : Nat → Int} {s : LeastS} {t : List Nat} {r v p : Nat} (hls : LinksOk ls N) (hπ : Fits ls π) (h : FlOk ls N f π s t r 0) (hset : ∀ k, k < ls.length → ¬ leastGo s (ls.getD k default) = true) (hb : BackOk ls N f t v p)
    (hl : ∀ l' ∈ ls', (∃ l ∈ ls, l'.fr = l.fr ∧ l'.to_ = l.to_ ∧ l'.cost = l.cost) ∨ (∃ l ∈ wsR ls t p v, l'.fr = l.to_ ∧ l'.to_ = l.fr ∧ l'.cost = -l.cost)) : ∃ π', Fits ls' π' := by
  obtain ⟨K, hK⟩ := up_bound (fun k => s.d.getD (ls.getD k default).to_.toNat 0 - (ls.getD k default).cost - π (ls.getD k default).fr.toNat) ls.length
  refine ⟨fun u => if s.k.getD u false = true then s.d.getD u 0 else π u + K, fun k' hk' => ?_⟩
  show (if s.k.getD (ls'.getD k' default).to_.toNat false = true then s.d.getD (ls'.getD k' default).to_.toNat 0 else π (ls'.getD k' default).to_.toNat + K) ≤ (if s.k.getD (ls'.getD k' default).fr.toNat false = true then s.d.getD (ls'.getD k' default).fr.toNat 0 else π (ls'.getD k' default).fr.toNat + K) + (ls'.getD k' default).cost
  rcases hl _ (getDL_mem hk') with ⟨l, hm, e1, e2, e3⟩ | ⟨l, hm, e1, e2, e3⟩
  · obtain ⟨k, hk, he⟩ := List.mem_iff_getElem.1 hm
    have e4 : ls.getD k default = l := by simp [List.getD, List.getElem?_eq_getElem hk, he]
    have h1 := hset k hk
    have h2 := hK k hk
    have h3 := hπ k hk
    simp only [e4] at h2
    rw [e4] at h1 h3
    rw [e1, e2, e3]
    rw [go_iff] at h1
    cases hkf : s.k.getD l.fr.toNat false
    · rw [if_neg (by decide : ¬ false = true)]
      split <;> omega
    · rw [hkf] at h1
      cases hkt : s.k.getD l.to_.toNat false
      · exact absurd ⟨rfl, .inl hkt⟩ h1
      · rw [if_pos rfl, if_pos rfl]
        rcases Int.lt_or_le (s.d.getD l.fr.toNat 0 + l.cost) (s.d.getD l.to_.toNat 0) with g | g
        · exact absurd ⟨rfl, .inr g⟩ h1
        · exact g
  · obtain ⟨i, _, _, _, _, _, g1, g2, g3⟩ := back_mem h hb hm
    rw [e1, e2, e3, g1, g2, if_pos rfl, if_pos rfl]
    omega
end Go.Proofs.Ytnljfhmdjhppmaa
