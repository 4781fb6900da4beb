/- A change in the last round tells a round that costs less than nothing: in plain numbers. -/
import Derived.Test.YtnljfhmdjhppmaaRoundPlain3
namespace Go.Proofs.Ytnljfhmdjhppmaa
open Go.RowKit

def linkT (ls : List LinkR) (s : LossS) (v : Nat) : LinkR := ls.getD ((s.t.getD v 0 - 1) % ls.length) default
/-- what the links of the last changes say of the numbers -/
structure LossW (ls : List LinkR) (N : Nat) (s : LossS) (x : Nat) : Prop where
  dl : s.d.length = N
  tl : s.t.length = N
  now : ∀ v, v < N → s.t.getD v 0 ≤ x
  W : ∀ v, v < N → 0 < s.t.getD v 0 → (s.t.getD v 0 - 1) % ls.length < ls.length ∧ (linkT ls s v).to_ = v ∧ s.d.getD (linkT ls s v).fr.toNat 0 + (linkT ls s v).cost ≤ s.d.getD v 0 ∧ (s.t.getD v 0 < s.t.getD (linkT ls s v).fr.toNat 0 → s.d.getD (linkT ls s v).fr.toNat 0 + (linkT ls s v).cost < s.d.getD v 0)
theorem lossW_step {ls : List LinkR} {N : Nat} {s : LossS} {r j : Nat} (hls : LinksOk ls N) (hne : ∀ k, k < ls.length → (ls.getD k default).fr ≠ (ls.getD k default).to_) (hj : j < ls.length) (h : LossW ls N s (r * ls.length + j)) : LossW ls N (lossStep s (ls.getD j default) (r * ls.length + j + 1)) (r * ls.length + (j + 1)) := by
  obtain ⟨⟨a0, a1⟩, ⟨b0, b1⟩⟩ := hls j hj
  have hnej := hne j hj
  unfold lossStep
  by_cases hgo : s.d.getD (ls.getD j default).fr.toNat 0 + (ls.getD j default).cost < s.d.getD (ls.getD j default).to_.toNat 0
  · rw [if_pos (show lossGo s (ls.getD j default) = true from decide_eq_true hgo)]
    have hsd : ∀ v, (s.d.set (ls.getD j default).to_.toNat (s.d.getD (ls.getD j default).fr.toNat 0 + (ls.getD j default).cost)).getD v 0 = if (ls.getD j default).to_.toNat = v then s.d.getD (ls.getD j default).fr.toNat 0 + (ls.getD j default).cost else s.d.getD v 0 := fun v => getD_set' _ _ v _ (by rw [h.dl]; omega)
    have hst : ∀ v, (s.t.set (ls.getD j default).to_.toNat (r * ls.length + j + 1)).getD v 0 = if (ls.getD j default).to_.toNat = v then r * ls.length + j + 1 else s.t.getD v 0 := fun v => getD_setN _ _ v _ (by rw [h.tl]; omega)
    refine ⟨by simp [h.dl], by simp [h.tl], fun v hv => ?_, fun v hv h0 => ?_⟩
    · show (s.t.set (ls.getD j default).to_.toNat (r * ls.length + j + 1)).getD v 0 ≤ _
      rw [hst v]
      have := h.now v hv
      split <;> omega
    · have h0' : 0 < (s.t.set (ls.getD j default).to_.toNat (r * ls.length + j + 1)).getD v 0 := h0
      unfold linkT
      show (((s.t.set (ls.getD j default).to_.toNat (r * ls.length + j + 1)).getD v 0 - 1) % ls.length < ls.length) ∧ (ls.getD (((s.t.set (ls.getD j default).to_.toNat (r * ls.length + j + 1)).getD v 0 - 1) % ls.length) default).to_ = v ∧
        (s.d.set (ls.getD j default).to_.toNat (s.d.getD (ls.getD j default).fr.toNat 0 + (ls.getD j default).cost)).getD (ls.getD (((s.t.set (ls.getD j default).to_.toNat (r * ls.length + j + 1)).getD v 0 - 1) % ls.length) default).fr.toNat 0 + (ls.getD (((s.t.set (ls.getD j default).to_.toNat (r * ls.length + j + 1)).getD v 0 - 1) % ls.length) default).cost ≤ (s.d.set (ls.getD j default).to_.toNat (s.d.getD (ls.getD j default).fr.toNat 0 + (ls.getD j default).cost)).getD v 0 ∧
        ((s.t.set (ls.getD j default).to_.toNat (r * ls.length + j + 1)).getD v 0 < (s.t.set (ls.getD j default).to_.toNat (r * ls.length + j + 1)).getD (ls.getD (((s.t.set (ls.getD j default).to_.toNat (r * ls.length + j + 1)).getD v 0 - 1) % ls.length) default).fr.toNat 0 → (s.d.set (ls.getD j default).to_.toNat (s.d.getD (ls.getD j default).fr.toNat 0 + (ls.getD j default).cost)).getD (ls.getD (((s.t.set (ls.getD j default).to_.toNat (r * ls.length + j + 1)).getD v 0 - 1) % ls.length) default).fr.toNat 0 + (ls.getD (((s.t.set (ls.getD j default).to_.toNat (r * ls.length + j + 1)).getD v 0 - 1) % ls.length) default).cost < (s.d.set (ls.getD j default).to_.toNat (s.d.getD (ls.getD j default).fr.toNat 0 + (ls.getD j default).cost)).getD v 0)
      by_cases e : (ls.getD j default).to_.toNat = v
      · have hv1 : (s.t.set (ls.getD j default).to_.toNat (r * ls.length + j + 1)).getD v 0 = r * ls.length + j + 1 := by rw [hst, if_pos e]
        have hmod : (r * ls.length + j + 1 - 1) % ls.length = j := by
          rw [Nat.add_sub_cancel, Nat.mul_comm, Nat.mul_add_mod]; exact Nat.mod_eq_of_lt hj
        rw [hv1, hmod, hsd v, if_pos e, hsd, if_neg (by omega), hst, if_neg (by omega)]
        refine ⟨hj, by omega, Int.le_refl _, fun hlt => ?_⟩
        have := h.now (ls.getD j default).fr.toNat (by omega)
        omega
      · have hv1 : (s.t.set (ls.getD j default).to_.toNat (r * ls.length + j + 1)).getD v 0 = s.t.getD v 0 := by rw [hst, if_neg e]
        rw [hv1] at h0' ⊢
        obtain ⟨p1, p2, p3, p4⟩ := h.W v hv h0'
        unfold linkT at p2 p3 p4
        rw [hsd v, if_neg e]
        refine ⟨p1, p2, ?_, ?_⟩
        · rw [hsd]
          split
          · rename_i e2
            rw [e2] at hgo
            omega
          · exact p3
        · intro hlt
          rw [hsd]
          split
          · rename_i e2
            rw [e2] at hgo
            omega
          · rename_i e2
            rw [hst, if_neg e2] at hlt
            exact p4 hlt
  · rw [if_neg (show ¬ lossGo s (ls.getD j default) = true from by unfold lossGo; rw [decide_eq_false hgo]; decide)]
    exact ⟨h.dl, h.tl, fun v hv => by have := h.now v hv; omega, h.W⟩
theorem lossW_to {ls : List LinkR} {N : Nat} {s : LossS} {r : Nat} (hls : LinksOk ls N) (hne : ∀ k, k < ls.length → (ls.getD k default).fr ≠ (ls.getD k default).to_) (h : LossW ls N s (r * ls.length)) : ∀ j, j ≤ ls.length → LossW ls N (lossTo ls s r j) (r * ls.length + j)
  | 0, _ => h
  | j + 1, hj => by
    rw [lossTo]
    exact lossW_step hls hne (by omega) (lossW_to hls hne h j (by omega))
theorem lossW_r {ls : List LinkR} {N : Nat} (hls : LinksOk ls N) (hne : ∀ k, k < ls.length → (ls.getD k default).fr ≠ (ls.getD k default).to_) : ∀ r, LossW ls N (lossR ls N r) (r * ls.length)
  | 0 => by
    have ht : ∀ v, v < N → (List.replicate N (0 : Nat)).getD v 0 = 0 := fun v hv => by simp [List.getD, hv]
    refine ⟨by simp [lossR], by simp [lossR], fun v hv => ?_, fun v hv h0 => ?_⟩
    · show (List.replicate N (0 : Nat)).getD v 0 ≤ _
      rw [ht v hv]; exact Nat.zero_le _
    · have h0' : 0 < (List.replicate N (0 : Nat)).getD v 0 := h0
      rw [ht v hv] at h0'; omega
  | r + 1 => by
    have := lossW_to hls hne (lossW_r hls hne r) ls.length (Nat.le_refl _)
    rw [Nat.succ_mul]
    exact this
/-- what a round of nodes costs, that leads back over the last changes -/
def cycC (ls : List LinkR) (s : LossS) (x : Nat) : Nat → Int
  | 0 => 0
  | k + 1 => cycC ls s x k + (linkT ls s (preN ls s x k)).cost
theorem pre_step (ls : List LinkR) (s : LossS) (x k : Nat) : preN ls s x (k + 1) = (linkT ls s (preN ls s x k)).fr.toNat := rfl
theorem cyc_le {ls : List LinkR} {N x : Nat} {s : LossS} {y : Nat} (h : LossW ls N s y) (hx : ∀ m, preN ls s x m < N ∧ 0 < s.t.getD (preN ls s x m) 0) : ∀ k, cycC ls s x k ≤ s.d.getD x 0 - s.d.getD (preN ls s x k) 0
  | 0 => by rw [cycC, preN]; omega
  | k + 1 => by
    have ih := cyc_le h hx k
    obtain ⟨_, _, h3, _⟩ := h.W _ (hx k).1 (hx k).2
    rw [cycC, pre_step]
    omega
/-- there is a place on the round where a later change came -/
theorem cyc_lt {ls : List LinkR} {N x : Nat} {s : LossS} {y : Nat} (h : LossW ls N s y) (hx : ∀ m, preN ls s x m < N ∧ 0 < s.t.getD (preN ls s x m) 0) : ∀ k, cycC ls s x k < s.d.getD x 0 - s.d.getD (preN ls s x k) 0 ∨ (∀ i, i < k → s.t.getD (preN ls s x (i + 1)) 0 ≤ s.t.getD (preN ls s x i) 0)
  | 0 => .inr fun i hi => by omega
  | k + 1 => by
    obtain ⟨_, _, h3, h4⟩ := h.W _ (hx k).1 (hx k).2
    rw [cycC]
    have hp := pre_step ls s x k
    rw [← hp] at h3 h4
    rcases cyc_lt h hx k with h1 | h1
    · left; omega
    · have ih := cyc_le h hx k
      by_cases e : s.t.getD (preN ls s x k) 0 < s.t.getD (preN ls s x (k + 1)) 0
      · left
        have := h4 e
        omega
      · right
        intro i hi
        by_cases e2 : i = k
        · subst e2; omega
        · exact h1 i (by omega)
theorem time_one {ls : List LinkR} {N : Nat} {s : LossS} {y : Nat} (h : LossW ls N s y) {u v : Nat} (hu : u < N) (hv : v < N) (h0 : 0 < s.t.getD u 0) (e : s.t.getD u 0 = s.t.getD v 0) : u = v := by
  obtain ⟨_, h2, _⟩ := h.W u hu h0
  obtain ⟨_, h3, _⟩ := h.W v hv (by omega)
  unfold linkT at h2 h3
  rw [e, h3] at h2
  omega
theorem le_chain {f : Nat → Nat} : ∀ (p : Nat), (∀ i, i < p → f (i + 1) ≤ f i) → f p ≤ f 0 ∧ ∀ i, i ≤ p → f p ≤ f i
  | 0, _ => ⟨Nat.le_refl _, fun i hi => by rw [show i = 0 by omega]; exact Nat.le_refl _⟩
  | p + 1, h => by
    obtain ⟨h1, h2⟩ := le_chain p fun i hi => h i (by omega)
    have h3 := h p (by omega)
    refine ⟨by omega, fun i hi => ?_⟩
    by_cases e : i = p + 1
    · subst e; exact Nat.le_refl _
    · have := h2 i (by omega); omega
/-- the round costs less than nothing -/
theorem cyc_neg {ls : List LinkR} {N x p : Nat} {s : LossS} {y : Nat} (hne : ∀ k, k < ls.length → (ls.getD k default).fr ≠ (ls.getD k default).to_) (hls : LinksOk ls N) (h : LossW ls N s y) (hx : ∀ m, preN ls s x m < N ∧ 0 < s.t.getD (preN ls s x m) 0) (hp : 1 ≤ p) (hc : preN ls s x p = x) : cycC ls s x p < 0 := by
  rcases cyc_lt h hx p with h1 | h1
  · rw [hc] at h1; omega
  · exfalso
    obtain ⟨_, h3⟩ := le_chain (f := fun i => s.t.getD (preN ls s x i) 0) p h1
    have h4 := h3 1 hp
    have h5 : s.t.getD (preN ls s x 1) 0 ≤ s.t.getD (preN ls s x 0) 0 := h1 0 (by omega)
    replace h4 : s.t.getD (preN ls s x p) 0 ≤ s.t.getD (preN ls s x 1) 0 := h4
    have h6 : s.t.getD (preN ls s x 0) 0 = s.t.getD x 0 := rfl
    rw [hc] at h4
    have e := time_one h (hx 1).1 (hx 0).1 (hx 1).2 (by omega)
    obtain ⟨q1, q2, _⟩ := h.W _ (hx 0).1 (hx 0).2
    have h7 := pre_step ls s x 0
    rw [e] at h7
    have h8 := hne _ q1
    have h9 := (hls _ q1).1
    unfold linkT at h7 q2
    omega
/-- a change in the last round: a round that costs less than nothing, its nodes all different -/
theorem neg_cycle {ls : List LinkR} {N e r : Nat} (hls : LinksOk ls N) (hne : ∀ k, k < ls.length → (ls.getD k default).fr ≠ (ls.getD k default).to_) (hN : 1 ≤ N) (he : e < N) (hlast : (N - 1) * ls.length < (lossR ls N r).t.getD e 0) :
    ∃ x p, 1 ≤ p ∧ preN ls (lossR ls N r) x p = x ∧ (∀ m, preN ls (lossR ls N r) x m < N ∧ 0 < (lossR ls N r).t.getD (preN ls (lossR ls N r) x m) 0) ∧ cycC ls (lossR ls N r) x p < 0 ∧ ∀ i j, i < j → j < p → preN ls (lossR ls N r) x i ≠ preN ls (lossR ls N r) x j := by
  have hok := loss_r hls hne r
  have hw := lossW_r hls hne r
  obtain ⟨h1, p, hp1, hp2, hp3⟩ := back_ok hls hok hN he hlast
  rw [preN_add] at hp3
  have hx : ∀ m, preN ls (lossR ls N r) (preN ls (lossR ls N r) e N) m < N ∧ 0 < (lossR ls N r).t.getD (preN ls (lossR ls N r) (preN ls (lossR ls N r) e N) m) 0 := fun m => by rw [← preN_add]; exact h1 _
  generalize preN ls (lossR ls N r) e N = x at *
  obtain ⟨q, q1, _, q3, q4⟩ := least_p (P := fun q => preN ls (lossR ls N r) x q = x) p p (Nat.le_refl _) hp1 hp3
  refine ⟨x, q, q1, q3, hx, cyc_neg hne hls hw hx q1 q3, fun i j hij hjq e2 => ?_⟩
  -- the round would close earlier
  have h5 : preN ls (lossR ls N r) x (q - j + i) = x := by
    rw [Nat.add_comm, preN_add, e2, ← preN_add, show j + (q - j) = q by omega]
    exact q3
  exact q4 (q - j + i) (by omega) (by omega) h5
/-- no change came in the last round: no link makes a number less -/
theorem loss_stable {ls : List LinkR} {N : Nat} (hls : LinksOk ls N) (hne : ∀ k, k < ls.length → (ls.getD k default).fr ≠ (ls.getD k default).to_) (hN : 1 ≤ N) (hno : ∀ v, v < N → (lossR ls N N).t.getD v 0 ≤ (N - 1) * ls.length) : ∀ k, k < ls.length → (lossR ls N N).d.getD (ls.getD k default).to_.toNat 0 ≤ (lossR ls N N).d.getD (ls.getD k default).fr.toNat 0 + (ls.getD k default).cost := by
  intro k hk
  have hok := loss_r hls hne N
  rcases Int.lt_or_le ((lossR ls N N).d.getD (ls.getD k default).fr.toNat 0 + (ls.getD k default).cost) ((lossR ls N N).d.getD (ls.getD k default).to_.toNat 0) with hlt | hge
  · exfalso
    have hs : seenAt ls.length N 0 k = (N - 1) * ls.length + k + 1 := by unfold seenAt; rw [if_neg (by omega), if_neg (by omega)]
    have := hok.J k hk (by rw [hs]; omega) hlt
    rw [hs] at this
    have h2 := (hls k hk).1
    have := hno (ls.getD k default).fr.toNat (by omega)
    omega
  · exact hge
/-- costs along a round, with a price at each node -/
theorem cyc_price {ls : List LinkR} {N x : Nat} {s : LossS} {y : Nat} (π : Nat → Int) (h : LossW ls N s y) (hx : ∀ m, preN ls s x m < N ∧ 0 < s.t.getD (preN ls s x m) 0) (hπ : ∀ k, k < ls.length → π (ls.getD k default).to_.toNat ≤ π (ls.getD k default).fr.toNat + (ls.getD k default).cost) : ∀ k, π x - π (preN ls s x k) ≤ cycC ls s x k
  | 0 => by rw [cycC, preN]; omega
  | k + 1 => by
    have ih := cyc_price π h hx hπ k
    obtain ⟨h1, h2, _⟩ := h.W _ (hx k).1 (hx k).2
    have h3 := hπ _ h1
    have h4 := pre_step ls s x k
    rw [cycC, h4]
    unfold linkT at h2 ⊢
    rw [h2, Int.toNat_natCast] at h3
    omega
/-- where prices fit, no change comes in the last round -/
theorem price_none {ls : List LinkR} {N : Nat} (π : Nat → Int) (hls : LinksOk ls N) (hne : ∀ k, k < ls.length → (ls.getD k default).fr ≠ (ls.getD k default).to_) (hN : 1 ≤ N) (hπ : ∀ k, k < ls.length → π (ls.getD k default).to_.toNat ≤ π (ls.getD k default).fr.toNat + (ls.getD k default).cost) (r : Nat) : ∀ v, v < N → (lossR ls N r).t.getD v 0 ≤ (N - 1) * ls.length := by
  intro v hv
  rcases Nat.lt_or_ge ((N - 1) * ls.length) ((lossR ls N r).t.getD v 0) with hlt | hge
  · exfalso
    obtain ⟨x, p, hp, hc, hx, hneg, _⟩ := neg_cycle hls hne hN hv hlt
    have := cyc_price π (lossW_r hls hne r) hx hπ p
    rw [hc] at this
    omega
  · exact hge
end Go.Proofs.Ytnljfhmdjhppmaa
