/- Rounds with a loss, in plain lists: the way back from the last changed node meets changed nodes alone. -/
import Derived.Test.YtnljfhmdjhppmaaLeastPlain
namespace Go.Proofs.Ytnljfhmdjhppmaa
open Go.RowKit

/-- rounds with the times of the last changes (0: never) -/
structure LossS where
  d : List Int
  t : List Nat
def lossGo (s : LossS) (l : LinkR) : Bool := decide (s.d.getD l.fr.toNat 0 + l.cost < s.d.getD l.to_.toNat 0)
def lossStep (s : LossS) (l : LinkR) (x : Nat) : LossS := if lossGo s l = true then ⟨s.d.set l.to_.toNat (s.d.getD l.fr.toNat 0 + l.cost), s.t.set l.to_.toNat x⟩ else s
/-- the first j links of the round r -/
def lossTo (ls : List LinkR) (s : LossS) (r : Nat) : Nat → LossS
  | 0 => s
  | j + 1 => lossStep (lossTo ls s r j) (ls.getD j default) (r * ls.length + j + 1)
def lossR (ls : List LinkR) (N : Nat) : Nat → LossS
  | 0 => ⟨List.replicate N 0, List.replicate N 0⟩
  | r + 1 => lossTo ls (lossR ls N r) r ls.length
/-- when the k-th link was looked at last, ahead of the j-th link of round r -/
def seenAt (M r j k : Nat) : Nat := if k < j then r * M + k + 1 else if r = 0 then 0 else (r - 1) * M + k + 1
structure LossOk (ls : List LinkR) (N : Nat) (s : LossS) (r j : Nat) : Prop where
  dl : s.d.length = N
  tl : s.t.length = N
  now : ∀ v, v < N → s.t.getD v 0 ≤ r * ls.length + j
  J : ∀ k, k < ls.length → 0 < seenAt ls.length r j k → s.d.getD (ls.getD k default).fr.toNat 0 + (ls.getD k default).cost < s.d.getD (ls.getD k default).to_.toNat 0 → seenAt ls.length r j k < s.t.getD (ls.getD k default).fr.toNat 0
  P : ∀ v, v < N → 0 < s.t.getD v 0 → (s.t.getD v 0 - 1) % ls.length < ls.length ∧ (ls.getD ((s.t.getD v 0 - 1) % ls.length) default).to_ = v ∧ (ls.length < s.t.getD v 0 → s.t.getD v 0 < s.t.getD (ls.getD ((s.t.getD v 0 - 1) % ls.length) default).fr.toNat 0 + ls.length)
theorem getD_setN (zs : List Nat) (i j : Nat) (x : Nat) (h : i < zs.length) : (zs.set i x).getD j 0 = if i = j then x else zs.getD j 0 := by
  simp only [List.getD, List.getElem?_set]
  by_cases e : i = j
  · subst e; simp [h]
  · simp [e]
theorem seenAt_lt {M r j k : Nat} (hk : k < M) (_hj : j ≤ M) : seenAt M r j k ≤ r * M + j := by
  unfold seenAt
  split
  · omega
  · split
    · omega
    · rename_i h1 h2
      obtain ⟨r', rfl⟩ : ∃ r', r = r' + 1 := ⟨r - 1, by omega⟩
      rw [Nat.add_sub_cancel, Nat.succ_mul]; omega
theorem seenAt_step {M r j k : Nat} (h : k ≠ j) : seenAt M r (j + 1) k = seenAt M r j k := by
  unfold seenAt
  by_cases h1 : k < j
  · rw [if_pos h1, if_pos (by omega)]
  · rw [if_neg h1, if_neg (by omega)]
theorem seenAt_now (M r j : Nat) : seenAt M r (j + 1) j = r * M + j + 1 := by unfold seenAt; rw [if_pos (by omega)]
theorem seenAt_old (M r j : Nat) : seenAt M r j j = if r = 0 then 0 else (r - 1) * M + j + 1 := by unfold seenAt; rw [if_neg (by omega)]
theorem loss_start {ls : List LinkR} {N : Nat} : LossOk ls N (lossR ls N 0) 0 0 := by
  have ht : ∀ v, v < N → (List.replicate N (0 : Nat)).getD v 0 = 0 := fun v hv => by simp [List.getD, hv]
  refine ⟨by simp [lossR], by simp [lossR], fun v hv => ?_, fun k hk h0 => ?_, fun v hv h0 => ?_⟩
  · show (List.replicate N (0 : Nat)).getD v 0 ≤ _
    rw [ht v hv]; exact Nat.zero_le _
  · rw [show seenAt ls.length 0 0 k = 0 by simp [seenAt]] at h0; omega
  · have h0' : 0 < (List.replicate N (0 : Nat)).getD v 0 := h0
    rw [ht v hv] at h0'; omega
theorem loss_step {ls : List LinkR} {N : Nat} {s : LossS} {r j : Nat} (hls : LinksOk ls N) (hne : ∀ k, k < ls.length → (ls.getD k default).fr ≠ (ls.getD k default).to_) (hj : j < ls.length) (h : LossOk ls N s r j) : LossOk ls N (lossStep s (ls.getD j default) (r * ls.length + j + 1)) r (j + 1) := by
  obtain ⟨⟨a0, a1⟩, ⟨b0, b1⟩⟩ := hls j hj
  have hnej := hne j hj
  unfold lossStep
  by_cases hgo : s.d.getD (ls.getD j default).fr.toNat 0 + (ls.getD j default).cost < s.d.getD (ls.getD j default).to_.toNat 0
  · rw [if_pos (show lossGo s (ls.getD j default) = true from decide_eq_true hgo)]
    have hsd : ∀ v, (s.d.set (ls.getD j default).to_.toNat (s.d.getD (ls.getD j default).fr.toNat 0 + (ls.getD j default).cost)).getD v 0 = if (ls.getD j default).to_.toNat = v then s.d.getD (ls.getD j default).fr.toNat 0 + (ls.getD j default).cost else s.d.getD v 0 := fun v => getD_set' _ _ v _ (by rw [h.dl]; omega)
    have hst : ∀ v, (s.t.set (ls.getD j default).to_.toNat (r * ls.length + j + 1)).getD v 0 = if (ls.getD j default).to_.toNat = v then r * ls.length + j + 1 else s.t.getD v 0 := fun v => getD_setN _ _ v _ (by rw [h.tl]; omega)
    refine ⟨by simp [h.dl], by simp [h.tl], fun v hv => ?_, fun k hk h0 hlt => ?_, fun v hv h0 => ?_⟩
    · show (s.t.set (ls.getD j default).to_.toNat (r * ls.length + j + 1)).getD v 0 ≤ _
      rw [hst v]
      have := h.now v hv
      split <;> omega
    · obtain ⟨⟨c0, c1⟩, ⟨e0, e1⟩⟩ := hls k hk
      show seenAt ls.length r (j + 1) k < (s.t.set (ls.getD j default).to_.toNat (r * ls.length + j + 1)).getD (ls.getD k default).fr.toNat 0
      have hlt' : (s.d.set (ls.getD j default).to_.toNat (s.d.getD (ls.getD j default).fr.toNat 0 + (ls.getD j default).cost)).getD (ls.getD k default).fr.toNat 0 + (ls.getD k default).cost < (s.d.set (ls.getD j default).to_.toNat (s.d.getD (ls.getD j default).fr.toNat 0 + (ls.getD j default).cost)).getD (ls.getD k default).to_.toNat 0 := hlt
      rw [hsd, hsd] at hlt'
      rw [hst]
      by_cases e : k = j
      · subst e
        exfalso
        rw [if_neg (by omega), if_pos rfl] at hlt'
        omega
      · rw [seenAt_step e] at h0 ⊢
        have hsn := seenAt_lt (M := ls.length) (r := r) (j := j) hk (by omega)
        by_cases e2 : (ls.getD j default).to_.toNat = (ls.getD k default).fr.toNat
        · rw [if_pos e2]; omega
        · rw [if_neg e2] at hlt' ⊢
          by_cases e3 : (ls.getD j default).to_.toNat = (ls.getD k default).to_.toNat
          · rw [if_pos e3] at hlt'
            exact h.J k hk h0 (by rw [← e3]; omega)
          · rw [if_neg e3] at hlt'
            exact h.J k hk h0 hlt'
    · show (((s.t.set (ls.getD j default).to_.toNat (r * ls.length + j + 1)).getD v 0 - 1) % ls.length < ls.length) ∧ (ls.getD (((s.t.set (ls.getD j default).to_.toNat (r * ls.length + j + 1)).getD v 0 - 1) % ls.length) default).to_ = v ∧ (ls.length < (s.t.set (ls.getD j default).to_.toNat (r * ls.length + j + 1)).getD v 0 → (s.t.set (ls.getD j default).to_.toNat (r * ls.length + j + 1)).getD v 0 < (s.t.set (ls.getD j default).to_.toNat (r * ls.length + j + 1)).getD (ls.getD (((s.t.set (ls.getD j default).to_.toNat (r * ls.length + j + 1)).getD v 0 - 1) % ls.length) default).fr.toNat 0 + ls.length)
      have h0' : 0 < (s.t.set (ls.getD j default).to_.toNat (r * ls.length + j + 1)).getD v 0 := h0
      by_cases e : (ls.getD j default).to_.toNat = v
      · have hv1 : (s.t.set (ls.getD j default).to_.toNat (r * ls.length + j + 1)).getD v 0 = r * ls.length + j + 1 := by rw [hst, if_pos e]
        have hmod : (r * ls.length + j + 1 - 1) % ls.length = j := by
          rw [Nat.add_sub_cancel, Nat.mul_comm, Nat.mul_add_mod]; exact Nat.mod_eq_of_lt hj
        rw [hv1, hmod]
        refine ⟨hj, by omega, fun hM => ?_⟩
        rw [hst, if_neg (by omega)]
        have hr : r ≠ 0 := by
          intro hr0
          rw [hr0] at hM
          omega
        have hold := seenAt_old ls.length r j
        rw [if_neg hr] at hold
        have := h.J j hj (by rw [hold]; omega) hgo
        rw [hold] at this
        obtain ⟨r', rfl⟩ : ∃ r', r = r' + 1 := ⟨r - 1, by omega⟩
        rw [Nat.add_sub_cancel] at this
        rw [Nat.succ_mul]
        omega
      · have hv1 : (s.t.set (ls.getD j default).to_.toNat (r * ls.length + j + 1)).getD v 0 = s.t.getD v 0 := by rw [hst, if_neg e]
        rw [hv1] at h0' ⊢
        obtain ⟨p1, p2, p3⟩ := h.P v hv h0'
        refine ⟨p1, p2, fun hM => ?_⟩
        have p4 := p3 hM
        rw [hst]
        split
        · have := h.now v hv
          omega
        · exact p4
  · rw [if_neg (show ¬ lossGo s (ls.getD j default) = true from by unfold lossGo; rw [decide_eq_false hgo]; decide)]
    refine ⟨h.dl, h.tl, fun v hv => by have := h.now v hv; omega, fun k hk h0 hlt => ?_, h.P⟩
    by_cases e : k = j
    · subst e; exact absurd hlt hgo
    · rw [seenAt_step e] at h0 ⊢
      exact h.J k hk h0 hlt
theorem loss_to {ls : List LinkR} {N : Nat} {s : LossS} {r : Nat} (hls : LinksOk ls N) (hne : ∀ k, k < ls.length → (ls.getD k default).fr ≠ (ls.getD k default).to_) (h : LossOk ls N s r 0) : ∀ j, j ≤ ls.length → LossOk ls N (lossTo ls s r j) r j
  | 0, _ => h
  | j + 1, hj => by
    rw [lossTo]
    exact loss_step hls hne (by omega) (loss_to hls hne h j (by omega))
theorem loss_next {ls : List LinkR} {N : Nat} {s : LossS} {r : Nat} (h : LossOk ls N s r ls.length) : LossOk ls N s (r + 1) 0 := by
  have hs : ∀ k, k < ls.length → seenAt ls.length (r + 1) 0 k = seenAt ls.length r ls.length k := fun k hk => by
    unfold seenAt
    rw [if_neg (by omega), if_neg (by omega), if_pos hk, Nat.add_sub_cancel]
  refine ⟨h.dl, h.tl, fun v hv => by have := h.now v hv; rw [Nat.succ_mul]; omega, fun k hk h0 hlt => ?_, h.P⟩
  rw [hs k hk] at h0 ⊢
  exact h.J k hk h0 hlt
theorem loss_r {ls : List LinkR} {N : Nat} (hls : LinksOk ls N) (hne : ∀ k, k < ls.length → (ls.getD k default).fr ≠ (ls.getD k default).to_) : ∀ r, LossOk ls N (lossR ls N r) r 0
  | 0 => loss_start
  | r + 1 => loss_next (loss_to hls hne (loss_r hls hne r) ls.length (Nat.le_refl _))
end Go.Proofs.Ytnljfhmdjhppmaa
