/- Joined texts: LeastPlain, RoundPlain, RoundPlain2, RoundPlain3, NegCyc, FlagBF, FlagBF2, PushPlain, PushPlain2, CutOf, NetSum. -/
import Derived.Test.YtnljfhmdjhppmaaZReachS
import Derived.Test.YtnljfhmdjhppmaaZFlow3
import Derived.Test.YtnljfhmdjhppmaaJ1
namespace Go.Proofs.Ytnljfhmdjhppmaa
open Go.RowKit

/-- longs, which are known, by which link each was made less last, and the last node made less -/
structure LeastS where
  d : List Int
  k : List Bool
  b : List Int
  e : Int
def leastGo (s : LeastS) (l : LinkR) : Bool := s.k.getD l.fr.toNat false && (!s.k.getD l.to_.toNat false || decide (s.d.getD l.fr.toNat 0 + l.cost < s.d.getD l.to_.toNat 0))
def leastStep (s : LeastS) (l : LinkR) (j : Nat) : LeastS := if leastGo s l = true then ⟨s.d.set l.to_.toNat (s.d.getD l.fr.toNat 0 + l.cost), s.k.set l.to_.toNat true, s.b.set l.to_.toNat j, l.to_⟩ else s
/-- the first j links of a round -/
def leastTo (ls : List LinkR) (s : LeastS) : Nat → LeastS
  | 0 => { s with e := -1 }
  | j + 1 => leastStep (leastTo ls s j) (ls.getD j default) j
def leastR (ls : List LinkR) (s : LeastS) : Nat → LeastS
  | 0 => s
  | r + 1 => leastTo ls (leastR ls s r) ls.length
structure LeastOk (N : Nat) (s : LeastS) (m : Int) : Prop where
  dl : s.d.length = N
  kl : s.k.length = N
  bl : s.b.length = N
  bd : ∀ v, v < N → -m ≤ s.d.getD v 0 ∧ s.d.getD v 0 ≤ m
theorem getD_setB (zs : List Bool) (i j : Nat) (x : Bool) (h : i < zs.length) : (zs.set i x).getD j false = if i = j then x else zs.getD j false := by
  simp only [List.getD, List.getElem?_set]
  by_cases e : i = j
  · subst e; simp [h]
  · simp [e]
theorem least_step_ok {N : Nat} {s : LeastS} {m : Int} {l : LinkR} {j : Nat} (h : LeastOk N s m) (hf : 0 ≤ l.fr ∧ l.fr < N) (ht : 0 ≤ l.to_ ∧ l.to_ < N) (hc : -1000 ≤ l.cost ∧ l.cost ≤ 1000) (hm : 0 ≤ m) : LeastOk N (leastStep s l j) (m + 1000) := by
  unfold leastStep
  split
  · refine ⟨by simp [h.dl], by simp [h.kl], by simp [h.bl], fun v hv => ?_⟩
    show -(m + 1000) ≤ (s.d.set l.to_.toNat (s.d.getD l.fr.toNat 0 + l.cost)).getD v 0 ∧ (s.d.set l.to_.toNat (s.d.getD l.fr.toNat 0 + l.cost)).getD v 0 ≤ m + 1000
    rw [getD_set' _ _ v _ (by rw [h.dl]; omega)]
    have := h.bd l.fr.toNat (by omega)
    have := h.bd v hv
    split <;> omega
  · refine ⟨h.dl, h.kl, h.bl, fun v hv => ?_⟩
    have := h.bd v hv
    omega
def LinksC (ls : List LinkR) : Prop := ∀ k, k < ls.length → -1000 ≤ (ls.getD k default).cost ∧ (ls.getD k default).cost ≤ 1000
theorem least_to_ok {ls : List LinkR} {N : Nat} {s : LeastS} {m : Int} (hls : LinksOk ls N) (hlc : LinksC ls) (h : LeastOk N s m) (hm : 0 ≤ m) : ∀ j, j ≤ ls.length → LeastOk N (leastTo ls s j) (m + 1000 * j)
  | 0, _ => ⟨h.dl, h.kl, h.bl, fun v hv => by have := h.bd v hv; show -(m + 1000 * (0 : Nat)) ≤ s.d.getD v 0 ∧ s.d.getD v 0 ≤ m + 1000 * (0 : Nat); omega⟩
  | j + 1, hj => by
    have ih := least_to_ok hls hlc h hm j (by omega)
    have := least_step_ok (j := j) ih (hls j (by omega)).1 (hls j (by omega)).2 (hlc j (by omega)) (by omega)
    refine ⟨this.dl, this.kl, this.bl, fun v hv => ?_⟩
    have h2 := this.bd v hv
    rw [leastTo]
    omega
theorem least_r_ok {ls : List LinkR} {N : Nat} {s : LeastS} (hls : LinksOk ls N) (hlc : LinksC ls) (hl : ls.length ≤ 96) (h : LeastOk N s 0) : ∀ r : Nat, LeastOk N (leastR ls s r) (96000 * r)
  | 0 => by have h2 := h; simpa [leastR] using h2
  | r + 1 => by
    have ih := least_r_ok hls hlc hl h r
    have := least_to_ok hls hlc ih (by omega) ls.length (Nat.le_refl _)
    refine ⟨this.dl, this.kl, this.bl, fun v hv => ?_⟩
    have h2 := this.bd v hv
    rw [leastR]
    omega
end Go.Proofs.Ytnljfhmdjhppmaa

namespace Go.Proofs.Ytnljfhmdjhppmaa
open Go.RowKit

/-- rounds with the times of the last changes (0: never) -/
structure LossS where
  d : List Int
  t : List Nat
def lossGo (s : LossS) (l : LinkR) : Bool := decide (s.d.getD l.fr.toNat 0 + l.cost < s.d.getD l.to_.toNat 0)
def lossStep (s : LossS) (l : LinkR) (x : Nat) : LossS := if lossGo s l = true then ⟨s.d.set l.to_.toNat (s.d.getD l.fr.toNat 0 + l.cost), s.t.set l.to_.toNat x⟩ else s
/-- the first j links of the round r -/
def lossTo (ls : List LinkR) (s : LossS) (r : Nat) : Nat → LossS
  | 0 => s
  | j + 1 => lossStep (lossTo ls s r j) (ls.getD j default) (r * ls.length + j + 1)
def lossR (ls : List LinkR) (N : Nat) : Nat → LossS
  | 0 => ⟨List.replicate N 0, List.replicate N 0⟩
  | r + 1 => lossTo ls (lossR ls N r) r ls.length
/-- when the k-th link was looked at last, ahead of the j-th link of round r -/
def seenAt (M r j k : Nat) : Nat := if k < j then r * M + k + 1 else if r = 0 then 0 else (r - 1) * M + k + 1
structure LossOk (ls : List LinkR) (N : Nat) (s : LossS) (r j : Nat) : Prop where
  dl : s.d.length = N
  tl : s.t.length = N
  now : ∀ v, v < N → s.t.getD v 0 ≤ r * ls.length + j
  J : ∀ k, k < ls.length → 0 < seenAt ls.length r j k → s.d.getD (ls.getD k default).fr.toNat 0 + (ls.getD k default).cost < s.d.getD (ls.getD k default).to_.toNat 0 → seenAt ls.length r j k < s.t.getD (ls.getD k default).fr.toNat 0
  P : ∀ v, v < N → 0 < s.t.getD v 0 → (s.t.getD v 0 - 1) % ls.length < ls.length ∧ (ls.getD ((s.t.getD v 0 - 1) % ls.length) default).to_ = v ∧ (ls.length < s.t.getD v 0 → s.t.getD v 0 < s.t.getD (ls.getD ((s.t.getD v 0 - 1) % ls.length) default).fr.toNat 0 + ls.length)
theorem getD_setN (zs : List Nat) (i j : Nat) (x : Nat) (h : i < zs.length) : (zs.set i x).getD j 0 = if i = j then x else zs.getD j 0 := by
  simp only [List.getD, List.getElem?_set]
  by_cases e : i = j
  · subst e; simp [h]
  · simp [e]
theorem seenAt_lt {M r j k : Nat} (hk : k < M) (_hj : j ≤ M) : seenAt M r j k ≤ r * M + j := by
  unfold seenAt
  split
  · omega
  · split
    · omega
    · rename_i h1 h2
      obtain ⟨r', rfl⟩ : ∃ r', r = r' + 1 := ⟨r - 1, by omega⟩
      rw [Nat.add_sub_cancel, Nat.succ_mul]; omega
theorem seenAt_step {M r j k : Nat} (h : k ≠ j) : seenAt M r (j + 1) k = seenAt M r j k := by
  unfold seenAt
  by_cases h1 : k < j
  · rw [if_pos h1, if_pos (by omega)]
  · rw [if_neg h1, if_neg (by omega)]
theorem seenAt_now (M r j : Nat) : seenAt M r (j + 1) j = r * M + j + 1 := by unfold seenAt; rw [if_pos (by omega)]
theorem seenAt_old (M r j : Nat) : seenAt M r j j = if r = 0 then 0 else (r - 1) * M + j + 1 := by unfold seenAt; rw [if_neg (by omega)]
theorem loss_start {ls : List LinkR} {N : Nat} : LossOk ls N (lossR ls N 0) 0 0 := by
  have ht : ∀ v, v < N → (List.replicate N (0 : Nat)).getD v 0 = 0 := fun v hv => by simp [List.getD, hv]
  refine ⟨by simp [lossR], by simp [lossR], fun v hv => ?_, fun k hk h0 => ?_, fun v hv h0 => ?_⟩
  · show (List.replicate N (0 : Nat)).getD v 0 ≤ _
    rw [ht v hv]; exact Nat.zero_le _
  · rw [show seenAt ls.length 0 0 k = 0 by simp [seenAt]] at h0; omega
  · have h0' : 0 < (List.replicate N (0 : Nat)).getD v 0 := h0
    rw [ht v hv] at h0'; omega
theorem loss_step {ls : List LinkR} {N : Nat} {s : LossS} {r j : Nat} (hls : LinksOk ls N) (hne : ∀ k, k < ls.length → (ls.getD k default).fr ≠ (ls.getD k default).to_) (hj : j < ls.length) (h : LossOk ls N s r j) : LossOk ls N (lossStep s (ls.getD j default) (r * ls.length + j + 1)) r (j + 1) := by
  obtain ⟨⟨a0, a1⟩, ⟨b0, b1⟩⟩ := hls j hj
  have hnej := hne j hj
  unfold lossStep
  by_cases hgo : s.d.getD (ls.getD j default).fr.toNat 0 + (ls.getD j default).cost < s.d.getD (ls.getD j default).to_.toNat 0
  · rw [if_pos (show lossGo s (ls.getD j default) = true from decide_eq_true hgo)]
    have hsd : ∀ v, (s.d.set (ls.getD j default).to_.toNat (s.d.getD (ls.getD j default).fr.toNat 0 + (ls.getD j default).cost)).getD v 0 = if (ls.getD j default).to_.toNat = v then s.d.getD (ls.getD j default).fr.toNat 0 + (ls.getD j default).cost else s.d.getD v 0 := fun v => getD_set' _ _ v _ (by rw [h.dl]; omega)
    have hst : ∀ v, (s.t.set (ls.getD j default).to_.toNat (r * ls.length + j + 1)).getD v 0 = if (ls.getD j default).to_.toNat = v then r * ls.length + j + 1 else s.t.getD v 0 := fun v => getD_setN _ _ v _ (by rw [h.tl]; omega)
    refine ⟨by simp [h.dl], by simp [h.tl], fun v hv => ?_, fun k hk h0 hlt => ?_, fun v hv h0 => ?_⟩
    · show (s.t.set (ls.getD j default).to_.toNat (r * ls.length + j + 1)).getD v 0 ≤ _
      rw [hst v]
      have := h.now v hv
      split <;> omega
    · obtain ⟨⟨c0, c1⟩, ⟨e0, e1⟩⟩ := hls k hk
      show seenAt ls.length r (j + 1) k < (s.t.set (ls.getD j default).to_.toNat (r * ls.length + j + 1)).getD (ls.getD k default).fr.toNat 0
      have hlt' : (s.d.set (ls.getD j default).to_.toNat (s.d.getD (ls.getD j default).fr.toNat 0 + (ls.getD j default).cost)).getD (ls.getD k default).fr.toNat 0 + (ls.getD k default).cost < (s.d.set (ls.getD j default).to_.toNat (s.d.getD (ls.getD j default).fr.toNat 0 + (ls.getD j default).cost)).getD (ls.getD k default).to_.toNat 0 := hlt
      rw [hsd, hsd] at hlt'
      rw [hst]
      by_cases e : k = j
      · subst e
        exfalso
        rw [if_neg (by omega), if_pos rfl] at hlt'
        omega
      · rw [seenAt_step e] at h0 ⊢
        have hsn := seenAt_lt (M := ls.length) (r := r) (j := j) hk (by omega)
        by_cases e2 : (ls.getD j default).to_.toNat = (ls.getD k default).fr.toNat
        · rw [if_pos e2]; omega
        · rw [if_neg e2] at hlt' ⊢
          by_cases e3 : (ls.getD j default).to_.toNat = (ls.getD k default).to_.toNat
          · rw [if_pos e3] at hlt'
            exact h.J k hk h0 (by rw [← e3]; omega)
          · rw [if_neg e3] at hlt'
            exact h.J k hk h0 hlt'
    · show (((s.t.set (ls.getD j default).to_.toNat (r * ls.length + j + 1)).getD v 0 - 1) % ls.length < ls.length) ∧ (ls.getD (((s.t.set (ls.getD j default).to_.toNat (r * ls.length + j + 1)).getD v 0 - 1) % ls.length) default).to_ = v ∧ (ls.length < (s.t.set (ls.getD j default).to_.toNat (r * ls.length + j + 1)).getD v 0 → (s.t.set (ls.getD j default).to_.toNat (r * ls.length + j + 1)).getD v 0 < (s.t.set (ls.getD j default).to_.toNat (r * ls.length + j + 1)).getD (ls.getD (((s.t.set (ls.getD j default).to_.toNat (r * ls.length + j + 1)).getD v 0 - 1) % ls.length) default).fr.toNat 0 + ls.length)
      have h0' : 0 < (s.t.set (ls.getD j default).to_.toNat (r * ls.length + j + 1)).getD v 0 := h0
      by_cases e : (ls.getD j default).to_.toNat = v
      · have hv1 : (s.t.set (ls.getD j default).to_.toNat (r * ls.length + j + 1)).getD v 0 = r * ls.length + j + 1 := by rw [hst, if_pos e]
        have hmod : (r * ls.length + j + 1 - 1) % ls.length = j := by
          rw [Nat.add_sub_cancel, Nat.mul_comm, Nat.mul_add_mod]; exact Nat.mod_eq_of_lt hj
        rw [hv1, hmod]
        refine ⟨hj, by omega, fun hM => ?_⟩
        rw [hst, if_neg (by omega)]
        have hr : r ≠ 0 := by
          intro hr0
          rw [hr0] at hM
          omega
        have hold := seenAt_old ls.length r j
        rw [if_neg hr] at hold
        have := h.J j hj (by rw [hold]; omega) hgo
        rw [hold] at this
        obtain ⟨r', rfl⟩ : ∃ r', r = r' + 1 := ⟨r - 1, by omega⟩
        rw [Nat.add_sub_cancel] at this
        rw [Nat.succ_mul]
        omega
      · have hv1 : (s.t.set (ls.getD j default).to_.toNat (r * ls.length + j + 1)).getD v 0 = s.t.getD v 0 := by rw [hst, if_neg e]
        rw [hv1] at h0' ⊢
        obtain ⟨p1, p2, p3⟩ := h.P v hv h0'
        refine ⟨p1, p2, fun hM => ?_⟩
        have p4 := p3 hM
        rw [hst]
        split
        · have := h.now v hv
          omega
        · exact p4
  · rw [if_neg (show ¬ lossGo s (ls.getD j default) = true from by unfold lossGo; rw [decide_eq_false hgo]; decide)]
    refine ⟨h.dl, h.tl, fun v hv => by have := h.now v hv; omega, fun k hk h0 hlt => ?_, h.P⟩
    by_cases e : k = j
    · subst e; exact absurd hlt hgo
    · rw [seenAt_step e] at h0 ⊢
      exact h.J k hk h0 hlt
theorem loss_to {ls : List LinkR} {N : Nat} {s : LossS} {r : Nat} (hls : LinksOk ls N) (hne : ∀ k, k < ls.length → (ls.getD k default).fr ≠ (ls.getD k default).to_) (h : LossOk ls N s r 0) : ∀ j, j ≤ ls.length → LossOk ls N (lossTo ls s r j) r j
  | 0, _ => h
  | j + 1, hj => by
    rw [lossTo]
    exact loss_step hls hne (by omega) (loss_to hls hne h j (by omega))
theorem loss_next {ls : List LinkR} {N : Nat} {s : LossS} {r : Nat} (h : LossOk ls N s r ls.length) : LossOk ls N s (r + 1) 0 := by
  have hs : ∀ k, k < ls.length → seenAt ls.length (r + 1) 0 k = seenAt ls.length r ls.length k := fun k hk => by
    unfold seenAt
    rw [if_neg (by omega), if_neg (by omega), if_pos hk, Nat.add_sub_cancel]
  refine ⟨h.dl, h.tl, fun v hv => by have := h.now v hv; rw [Nat.succ_mul]; omega, fun k hk h0 hlt => ?_, h.P⟩
  rw [hs k hk] at h0 ⊢
  exact h.J k hk h0 hlt
theorem loss_r {ls : List LinkR} {N : Nat} (hls : LinksOk ls N) (hne : ∀ k, k < ls.length → (ls.getD k default).fr ≠ (ls.getD k default).to_) : ∀ r, LossOk ls N (lossR ls N r) r 0
  | 0 => loss_start
  | r + 1 => loss_next (loss_to hls hne (loss_r hls hne r) ls.length (Nat.le_refl _))
end Go.Proofs.Ytnljfhmdjhppmaa

namespace Go.Proofs.Ytnljfhmdjhppmaa
open Go.RowKit

theorem nodup_le : ∀ (N : Nat) (l : List Nat), l.Nodup → (∀ x ∈ l, x < N) → l.length ≤ N
  | 0, l, _, h => by
    cases l with
    | nil => exact Nat.le_refl _
    | cons x l => exact absurd (h x (by simp)) (by omega)
  | N + 1, l, hd, h => by
    by_cases hm : N ∈ l
    · have h1 := nodup_le N (l.erase N) (hd.erase N) (fun x hx => by
        have h2 := (hd.mem_erase_iff).1 hx
        have := h x h2.2
        have := h2.1
        omega)
      rw [List.length_erase_of_mem hm] at h1
      omega
    · have := nodup_le N l hd (fun x hx => by
        have h1 := h x hx
        have : x ≠ N := fun e => hm (e ▸ hx)
        omega)
      omega
theorem pigeon {f : Nat → Nat} {N : Nat} (h : ∀ i, i ≤ N → f i < N) : ∃ i j, i < j ∧ j ≤ N ∧ f i = f j := by
  by_cases hex : ∃ i j, i < j ∧ j ≤ N ∧ f i = f j
  · exact hex
  · exfalso
    have hnd : ((List.range (N + 1)).map f).Nodup := by
      rw [List.Nodup, List.pairwise_map]
      refine List.Pairwise.imp_of_mem ?_ List.pairwise_lt_range
      intro a b _ hb hab e
      exact hex ⟨a, b, hab, by have := List.mem_range.1 hb; omega, e⟩
    have := nodup_le N _ hnd (fun x hx => by
      obtain ⟨i, hi, rfl⟩ := List.mem_map.1 hx
      exact h i (by have := List.mem_range.1 hi; omega))
    simp at this
    omega
/-- the node ahead on the way back -/
def preT (ls : List LinkR) (s : LossS) (v : Nat) : Nat := (ls.getD ((s.t.getD v 0 - 1) % ls.length) default).fr.toNat
def preN (ls : List LinkR) (s : LossS) (e : Nat) : Nat → Nat
  | 0 => e
  | i + 1 => preT ls s (preN ls s e i)
theorem preN_add (ls : List LinkR) (s : LossS) (e i : Nat) : ∀ j, preN ls s e (i + j) = preN ls s (preN ls s e i) j
  | 0 => rfl
  | j + 1 => by rw [← Nat.add_assoc, preN, preN, preN_add ls s e i j]
theorem preT_lt {ls : List LinkR} {N : Nat} {s : LossS} {r : Nat} (hls : LinksOk ls N) (h : LossOk ls N s r 0) {v : Nat} (hv : v < N) (h0 : 0 < s.t.getD v 0) : preT ls s v < N := by
  obtain ⟨p1, _, _⟩ := h.P v hv h0
  have := (hls _ p1).1
  unfold preT
  omega
theorem chain_ok {ls : List LinkR} {N : Nat} {s : LossS} {r e : Nat} (hls : LinksOk ls N) (h : LossOk ls N s r 0) (he : e < N) (hlast : (N - 1) * ls.length < s.t.getD e 0) : ∀ i, i ≤ N - 1 → preN ls s e i < N ∧ (N - 1 - i) * ls.length < s.t.getD (preN ls s e i) 0
  | 0, _ => ⟨he, hlast⟩
  | i + 1, hi => by
    obtain ⟨h1, h2⟩ := chain_ok hls h he hlast i (by omega)
    have h0 : 0 < s.t.getD (preN ls s e i) 0 := by omega
    obtain ⟨p1, _, p3⟩ := h.P _ h1 h0
    have hfr := (hls _ p1).1
    refine ⟨preT_lt hls h h1 h0, ?_⟩
    have e1 : N - 1 - i = (N - 1 - (i + 1)) + 1 := by omega
    rw [e1, Nat.succ_mul] at h2
    have hM : 0 < ls.length := by omega
    have := p3 (by omega)
    show (N - 1 - (i + 1)) * ls.length < s.t.getD (preT ls s (preN ls s e i)) 0
    unfold preT
    omega
/-- all nodes on the way back were changed, and behind N steps one stands on a round -/
theorem back_ok {ls : List LinkR} {N : Nat} {s : LossS} {r e : Nat} (hls : LinksOk ls N) (h : LossOk ls N s r 0) (hN : 1 ≤ N) (he : e < N) (hlast : (N - 1) * ls.length < s.t.getD e 0) :
    (∀ m, preN ls s e m < N ∧ 0 < s.t.getD (preN ls s e m) 0) ∧ ∃ p, 1 ≤ p ∧ p ≤ N ∧ preN ls s e (N + p) = preN ls s e N := by
  have hc := chain_ok hls h he hlast
  have hlt : ∀ i, i ≤ N → preN ls s e i < N := by
    intro i hi
    by_cases e1 : i ≤ N - 1
    · exact (hc i e1).1
    · obtain ⟨h1, h2⟩ := hc (N - 1) (Nat.le_refl _)
      have e2 : i = N - 1 + 1 := by omega
      rw [e2, preN]
      exact preT_lt hls h h1 (by omega)
  obtain ⟨i, j, hij, hjN, hf⟩ := pigeon hlt
  have hper : ∀ m, i ≤ m → preN ls s e (m + (j - i)) = preN ls s e m := by
    intro m hm
    obtain ⟨d, rfl⟩ : ∃ d, m = i + d := ⟨m - i, by omega⟩
    rw [show i + d + (j - i) = j + d by omega, preN_add, preN_add, ← hf]
  refine ⟨?_, j - i, by omega, by omega, hper N (by omega)⟩
  intro m
  induction m using Nat.strongRecOn with
  | ind m ih =>
    by_cases e1 : m ≤ N - 1
    · obtain ⟨h1, h2⟩ := hc m e1
      exact ⟨h1, by omega⟩
    · have e2 := hper (m - (j - i)) (by omega)
      rw [show m - (j - i) + (j - i) = m by omega] at e2
      rw [e2]
      exact ih (m - (j - i)) (by omega)
theorem least_p {P : Nat → Prop} : ∀ (b p : Nat), p ≤ b → 1 ≤ p → P p → ∃ q, 1 ≤ q ∧ q ≤ p ∧ P q ∧ ∀ m, 1 ≤ m → m < q → ¬ P m
  | 0, p, h1, h2, _ => by omega
  | b + 1, p, h1, h2, h3 => by
    by_cases hex : ∃ m, 1 ≤ m ∧ m < p ∧ P m
    · obtain ⟨m, a, c, d⟩ := hex
      obtain ⟨q, q1, q2, q3, q4⟩ := least_p b m (by omega) a d
      exact ⟨q, q1, by omega, q3, q4⟩
    · exact ⟨p, h2, Nat.le_refl _, h3, fun m a c d => hex ⟨m, a, c, d⟩⟩
/-- the nodes of the round behind its first one, backwards: the first k -/
def backTo (ls : List LinkR) (s : LossS) (x : Nat) (k : Nat) : List Int := (List.range k).map fun (i : Nat) => ((preN ls s x (i + 1) : Nat) : Int)
theorem backTo_succ (ls : List LinkR) (s : LossS) (x k : Nat) : backTo ls s x (k + 1) = backTo ls s x k ++ [((preN ls s x (k + 1) : Nat) : Int)] := by
  unfold backTo
  rw [List.range_succ, List.map_append]; rfl
theorem backTo_len (ls : List LinkR) (s : LossS) (x k : Nat) : (backTo ls s x k).length = k := by simp [backTo]
end Go.Proofs.Ytnljfhmdjhppmaa

namespace Go.Proofs.Ytnljfhmdjhppmaa
open Go.RowKit

/-- the last node changed among the first j links of round r, -1 if there is none -/
def endTo (ls : List LinkR) (s : LossS) (r : Nat) : Nat → Int
  | 0 => -1
  | j + 1 => if lossGo (lossTo ls s r j) (ls.getD j default) = true then (ls.getD j default).to_ else endTo ls s r j
theorem endTo_ok {ls : List LinkR} {N : Nat} {s : LossS} {r : Nat} (hls : LinksOk ls N) (hne : ∀ k, k < ls.length → (ls.getD k default).fr ≠ (ls.getD k default).to_) (h : LossOk ls N s r 0) : ∀ j, j ≤ ls.length → endTo ls s r j = -1 ∨ ∃ v : Nat, endTo ls s r j = v ∧ v < N ∧ r * ls.length < (lossTo ls s r j).t.getD v 0
  | 0, _ => .inl rfl
  | j + 1, hj => by
    have hok := loss_to hls hne h j (by omega)
    obtain ⟨_, b0, b1⟩ := hls j (by omega)
    rw [endTo, lossTo]
    by_cases hgo : lossGo (lossTo ls s r j) (ls.getD j default) = true
    · rw [if_pos hgo]
      refine .inr ⟨(ls.getD j default).to_.toNat, by omega, by omega, ?_⟩
      unfold lossStep
      rw [if_pos hgo]
      show r * ls.length < ((lossTo ls s r j).t.set (ls.getD j default).to_.toNat (r * ls.length + j + 1)).getD _ 0
      rw [getD_setN _ _ _ _ (by rw [hok.tl]; omega), if_pos rfl]
      omega
    · rw [if_neg hgo]
      unfold lossStep
      rw [if_neg hgo]
      exact endTo_ok hls hne h j (by omega)
def timeB (M t : Nat) : Int := if t = 0 then -1 else (((t - 1) % M : Nat) : Int)
structure RelT (ls : List LinkR) (N : Nat) (s : LeastS) (u : LossS) : Prop where
  d : s.d = u.d
  k : s.k = List.replicate N true
  bl : s.b.length = N
  b : ∀ v, v < N → s.b.getD v 0 = timeB ls.length (u.t.getD v 0)
theorem relT_to {ls : List LinkR} {N : Nat} {s : LeastS} {u : LossS} {r : Nat} (hls : LinksOk ls N) (hne : ∀ k, k < ls.length → (ls.getD k default).fr ≠ (ls.getD k default).to_) (hu : LossOk ls N u r 0) (h : RelT ls N s u) : ∀ j, j ≤ ls.length → RelT ls N (leastTo ls s j) (lossTo ls u r j) ∧ (leastTo ls s j).e = endTo ls u r j
  | 0, _ => ⟨⟨h.d, h.k, h.bl, h.b⟩, rfl⟩
  | j + 1, hj => by
    obtain ⟨ih, ihe⟩ := relT_to hls hne hu h j (by omega)
    have hok := loss_to hls hne hu j (by omega)
    obtain ⟨⟨a0, a1⟩, b0, b1⟩ := hls j (by omega)
    rw [leastTo, lossTo, endTo]
    generalize leastTo ls s j = s' at *
    generalize lossTo ls u r j = u' at *
    have hk : ∀ v, v < N → s'.k.getD v false = true := fun v hv => by rw [ih.k]; simp [List.getD, hv]
    have hgo : leastGo s' (ls.getD j default) = lossGo u' (ls.getD j default) := by
      unfold leastGo lossGo
      rw [hk _ (by omega), hk _ (by omega), ih.d]
      simp
    unfold leastStep lossStep
    rw [hgo]
    by_cases hc : lossGo u' (ls.getD j default) = true
    · rw [if_pos hc, if_pos hc, if_pos hc]
      refine ⟨⟨?_, ?_, ?_, fun v hv => ?_⟩, rfl⟩
      · show s'.d.set _ _ = u'.d.set _ _
        rw [ih.d]
      · show s'.k.set _ true = _
        rw [ih.k]
        apply List.ext_getElem (by simp)
        intro i h1 h2
        simp
      · show (s'.b.set _ _).length = N
        rw [List.length_set]; exact ih.bl
      · show (s'.b.set (ls.getD j default).to_.toNat (j : Int)).getD v 0 = timeB ls.length ((u'.t.set (ls.getD j default).to_.toNat (r * ls.length + j + 1)).getD v 0)
        rw [getD_set' _ _ v _ (by rw [ih.bl]; omega), getD_setN _ _ v _ (by rw [hok.tl]; omega)]
        by_cases e : (ls.getD j default).to_.toNat = v
        · rw [if_pos e, if_pos e]
          unfold timeB
          rw [if_neg (by omega), Nat.add_sub_cancel, Nat.mul_comm, Nat.mul_add_mod, Nat.mod_eq_of_lt (by omega)]
        · rw [if_neg e, if_neg e]; exact ih.b v hv
    · rw [if_neg hc, if_neg hc, if_neg hc]
      exact ⟨ih, ihe⟩
def loss0 (N : Nat) : LeastS := ⟨List.replicate N 0, List.replicate N true, List.replicate N (-1), -1⟩
theorem relT_r {ls : List LinkR} {N : Nat} (hls : LinksOk ls N) (hne : ∀ k, k < ls.length → (ls.getD k default).fr ≠ (ls.getD k default).to_) : ∀ r, RelT ls N (leastR ls (loss0 N) r) (lossR ls N r)
  | 0 => by
    refine ⟨rfl, rfl, by simp [leastR, loss0], fun v hv => ?_⟩
    have h1 : (List.replicate N (-1 : Int)).getD v 0 = -1 := by simp [List.getD, hv]
    have h2 : (List.replicate N (0 : Nat)).getD v 0 = 0 := by simp [List.getD, hv]
    show (List.replicate N (-1 : Int)).getD v 0 = timeB ls.length ((List.replicate N (0 : Nat)).getD v 0)
    rw [h1, h2]; rfl
  | r + 1 => by
    rw [leastR, lossR]
    exact (relT_to hls hne (loss_r hls hne r) (relT_r hls hne r) ls.length (Nat.le_refl _)).1
theorem relT_end {ls : List LinkR} {N : Nat} (hls : LinksOk ls N) (hne : ∀ k, k < ls.length → (ls.getD k default).fr ≠ (ls.getD k default).to_) (r : Nat) : (leastR ls (loss0 N) (r + 1)).e = endTo ls (lossR ls N r) r ls.length := by
  rw [leastR]
  exact (relT_to hls hne (loss_r hls hne r) (relT_r hls hne r) ls.length (Nat.le_refl _)).2
/-- the node from which one goes back; -1 if there is no round -/
def lossE (ls : List LinkR) (N : Nat) : Int := endTo ls (lossR ls N (N - 1)) (N - 1) ls.length
theorem lossE_ok {ls : List LinkR} {N : Nat} (hN : 1 ≤ N) (hls : LinksOk ls N) (hne : ∀ k, k < ls.length → (ls.getD k default).fr ≠ (ls.getD k default).to_) : lossE ls N = -1 ∨ ∃ v : Nat, lossE ls N = v ∧ v < N ∧ (N - 1) * ls.length < (lossR ls N N).t.getD v 0 := by
  have h := endTo_ok hls hne (loss_r hls hne (N - 1)) ls.length (Nat.le_refl _)
  rcases h with h | ⟨v, h1, h2, h3⟩
  · exact .inl h
  · refine .inr ⟨v, h1, h2, ?_⟩
    have e : lossR ls N N = lossTo ls (lossR ls N (N - 1)) (N - 1) ls.length := by
      conv => lhs; rw [show N = N - 1 + 1 by omega, lossR]
      rw [show N - 1 + 1 = N by omega]
    rw [e]; exact h3
/-- what both find: the round, first its node behind N steps, then the others forwards -/
def lossP (ls : List LinkR) (N : Nat) (p : Nat) : List Int := ((preN ls (lossR ls N N) (lossE ls N).toNat N : Nat) : Int) :: (backTo ls (lossR ls N N) (preN ls (lossR ls N N) (lossE ls N).toNat N) (p - 1)).reverse
end Go.Proofs.Ytnljfhmdjhppmaa

namespace Go.Proofs.Ytnljfhmdjhppmaa
open Go.RowKit

def linkT (ls : List LinkR) (s : LossS) (v : Nat) : LinkR := ls.getD ((s.t.getD v 0 - 1) % ls.length) default
/-- what the links of the last changes say of the numbers -/
structure LossW (ls : List LinkR) (N : Nat) (s : LossS) (x : Nat) : Prop where
  dl : s.d.length = N
  tl : s.t.length = N
  now : ∀ v, v < N → s.t.getD v 0 ≤ x
  W : ∀ v, v < N → 0 < s.t.getD v 0 → (s.t.getD v 0 - 1) % ls.length < ls.length ∧ (linkT ls s v).to_ = v ∧ s.d.getD (linkT ls s v).fr.toNat 0 + (linkT ls s v).cost ≤ s.d.getD v 0 ∧ (s.t.getD v 0 < s.t.getD (linkT ls s v).fr.toNat 0 → s.d.getD (linkT ls s v).fr.toNat 0 + (linkT ls s v).cost < s.d.getD v 0)
theorem lossW_step {ls : List LinkR} {N : Nat} {s : LossS} {r j : Nat} (hls : LinksOk ls N) (hne : ∀ k, k < ls.length → (ls.getD k default).fr ≠ (ls.getD k default).to_) (hj : j < ls.length) (h : LossW ls N s (r * ls.length + j)) : LossW ls N (lossStep s (ls.getD j default) (r * ls.length + j + 1)) (r * ls.length + (j + 1)) := by
  obtain ⟨⟨a0, a1⟩, ⟨b0, b1⟩⟩ := hls j hj
  have hnej := hne j hj
  unfold lossStep
  by_cases hgo : s.d.getD (ls.getD j default).fr.toNat 0 + (ls.getD j default).cost < s.d.getD (ls.getD j default).to_.toNat 0
  · rw [if_pos (show lossGo s (ls.getD j default) = true from decide_eq_true hgo)]
    have hsd : ∀ v, (s.d.set (ls.getD j default).to_.toNat (s.d.getD (ls.getD j default).fr.toNat 0 + (ls.getD j default).cost)).getD v 0 = if (ls.getD j default).to_.toNat = v then s.d.getD (ls.getD j default).fr.toNat 0 + (ls.getD j default).cost else s.d.getD v 0 := fun v => getD_set' _ _ v _ (by rw [h.dl]; omega)
    have hst : ∀ v, (s.t.set (ls.getD j default).to_.toNat (r * ls.length + j + 1)).getD v 0 = if (ls.getD j default).to_.toNat = v then r * ls.length + j + 1 else s.t.getD v 0 := fun v => getD_setN _ _ v _ (by rw [h.tl]; omega)
    refine ⟨by simp [h.dl], by simp [h.tl], fun v hv => ?_, fun v hv h0 => ?_⟩
    · show (s.t.set (ls.getD j default).to_.toNat (r * ls.length + j + 1)).getD v 0 ≤ _
      rw [hst v]
      have := h.now v hv
      split <;> omega
    · have h0' : 0 < (s.t.set (ls.getD j default).to_.toNat (r * ls.length + j + 1)).getD v 0 := h0
      unfold linkT
      show (((s.t.set (ls.getD j default).to_.toNat (r * ls.length + j + 1)).getD v 0 - 1) % ls.length < ls.length) ∧ (ls.getD (((s.t.set (ls.getD j default).to_.toNat (r * ls.length + j + 1)).getD v 0 - 1) % ls.length) default).to_ = v ∧
        (s.d.set (ls.getD j default).to_.toNat (s.d.getD (ls.getD j default).fr.toNat 0 + (ls.getD j default).cost)).getD (ls.getD (((s.t.set (ls.getD j default).to_.toNat (r * ls.length + j + 1)).getD v 0 - 1) % ls.length) default).fr.toNat 0 + (ls.getD (((s.t.set (ls.getD j default).to_.toNat (r * ls.length + j + 1)).getD v 0 - 1) % ls.length) default).cost ≤ (s.d.set (ls.getD j default).to_.toNat (s.d.getD (ls.getD j default).fr.toNat 0 + (ls.getD j default).cost)).getD v 0 ∧
        ((s.t.set (ls.getD j default).to_.toNat (r * ls.length + j + 1)).getD v 0 < (s.t.set (ls.getD j default).to_.toNat (r * ls.length + j + 1)).getD (ls.getD (((s.t.set (ls.getD j default).to_.toNat (r * ls.length + j + 1)).getD v 0 - 1) % ls.length) default).fr.toNat 0 → (s.d.set (ls.getD j default).to_.toNat (s.d.getD (ls.getD j default).fr.toNat 0 + (ls.getD j default).cost)).getD (ls.getD (((s.t.set (ls.getD j default).to_.toNat (r * ls.length + j + 1)).getD v 0 - 1) % ls.length) default).fr.toNat 0 + (ls.getD (((s.t.set (ls.getD j default).to_.toNat (r * ls.length + j + 1)).getD v 0 - 1) % ls.length) default).cost < (s.d.set (ls.getD j default).to_.toNat (s.d.getD (ls.getD j default).fr.toNat 0 + (ls.getD j default).cost)).getD v 0)
      by_cases e : (ls.getD j default).to_.toNat = v
      · have hv1 : (s.t.set (ls.getD j default).to_.toNat (r * ls.length + j + 1)).getD v 0 = r * ls.length + j + 1 := by rw [hst, if_pos e]
        have hmod : (r * ls.length + j + 1 - 1) % ls.length = j := by
          rw [Nat.add_sub_cancel, Nat.mul_comm, Nat.mul_add_mod]; exact Nat.mod_eq_of_lt hj
        rw [hv1, hmod, hsd v, if_pos e, hsd, if_neg (by omega), hst, if_neg (by omega)]
        refine ⟨hj, by omega, Int.le_refl _, fun hlt => ?_⟩
        have := h.now (ls.getD j default).fr.toNat (by omega)
        omega
      · have hv1 : (s.t.set (ls.getD j default).to_.toNat (r * ls.length + j + 1)).getD v 0 = s.t.getD v 0 := by rw [hst, if_neg e]
        rw [hv1] at h0' ⊢
        obtain ⟨p1, p2, p3, p4⟩ := h.W v hv h0'
        unfold linkT at p2 p3 p4
        rw [hsd v, if_neg e]
        refine ⟨p1, p2, ?_, ?_⟩
        · rw [hsd]
          split
          · rename_i e2
            rw [e2] at hgo
            omega
          · exact p3
        · intro hlt
          rw [hsd]
          split
          · rename_i e2
            rw [e2] at hgo
            omega
          · rename_i e2
            rw [hst, if_neg e2] at hlt
            exact p4 hlt
  · rw [if_neg (show ¬ lossGo s (ls.getD j default) = true from by unfold lossGo; rw [decide_eq_false hgo]; decide)]
    exact ⟨h.dl, h.tl, fun v hv => by have := h.now v hv; omega, h.W⟩
theorem lossW_to {ls : List LinkR} {N : Nat} {s : LossS} {r : Nat} (hls : LinksOk ls N) (hne : ∀ k, k < ls.length → (ls.getD k default).fr ≠ (ls.getD k default).to_) (h : LossW ls N s (r * ls.length)) : ∀ j, j ≤ ls.length → LossW ls N (lossTo ls s r j) (r * ls.length + j)
  | 0, _ => h
  | j + 1, hj => by
    rw [lossTo]
    exact lossW_step hls hne (by omega) (lossW_to hls hne h j (by omega))
theorem lossW_r {ls : List LinkR} {N : Nat} (hls : LinksOk ls N) (hne : ∀ k, k < ls.length → (ls.getD k default).fr ≠ (ls.getD k default).to_) : ∀ r, LossW ls N (lossR ls N r) (r * ls.length)
  | 0 => by
    have ht : ∀ v, v < N → (List.replicate N (0 : Nat)).getD v 0 = 0 := fun v hv => by simp [List.getD, hv]
    refine ⟨by simp [lossR], by simp [lossR], fun v hv => ?_, fun v hv h0 => ?_⟩
    · show (List.replicate N (0 : Nat)).getD v 0 ≤ _
      rw [ht v hv]; exact Nat.zero_le _
    · have h0' : 0 < (List.replicate N (0 : Nat)).getD v 0 := h0
      rw [ht v hv] at h0'; omega
  | r + 1 => by
    have := lossW_to hls hne (lossW_r hls hne r) ls.length (Nat.le_refl _)
    rw [Nat.succ_mul]
    exact this
/-- what a round of nodes costs, that leads back over the last changes -/
def cycC (ls : List LinkR) (s : LossS) (x : Nat) : Nat → Int
  | 0 => 0
  | k + 1 => cycC ls s x k + (linkT ls s (preN ls s x k)).cost
theorem pre_step (ls : List LinkR) (s : LossS) (x k : Nat) : preN ls s x (k + 1) = (linkT ls s (preN ls s x k)).fr.toNat := rfl
theorem cyc_le {ls : List LinkR} {N x : Nat} {s : LossS} {y : Nat} (h : LossW ls N s y) (hx : ∀ m, preN ls s x m < N ∧ 0 < s.t.getD (preN ls s x m) 0) : ∀ k, cycC ls s x k ≤ s.d.getD x 0 - s.d.getD (preN ls s x k) 0
  | 0 => by rw [cycC, preN]; omega
  | k + 1 => by
    have ih := cyc_le h hx k
    obtain ⟨_, _, h3, _⟩ := h.W _ (hx k).1 (hx k).2
    rw [cycC, pre_step]
    omega
/-- there is a place on the round where a later change came -/
theorem cyc_lt {ls : List LinkR} {N x : Nat} {s : LossS} {y : Nat} (h : LossW ls N s y) (hx : ∀ m, preN ls s x m < N ∧ 0 < s.t.getD (preN ls s x m) 0) : ∀ k, cycC ls s x k < s.d.getD x 0 - s.d.getD (preN ls s x k) 0 ∨ (∀ i, i < k → s.t.getD (preN ls s x (i + 1)) 0 ≤ s.t.getD (preN ls s x i) 0)
  | 0 => .inr fun i hi => by omega
  | k + 1 => by
    obtain ⟨_, _, h3, h4⟩ := h.W _ (hx k).1 (hx k).2
    rw [cycC]
    have hp := pre_step ls s x k
    rw [← hp] at h3 h4
    rcases cyc_lt h hx k with h1 | h1
    · left; omega
    · have ih := cyc_le h hx k
      by_cases e : s.t.getD (preN ls s x k) 0 < s.t.getD (preN ls s x (k + 1)) 0
      · left
        have := h4 e
        omega
      · right
        intro i hi
        by_cases e2 : i = k
        · subst e2; omega
        · exact h1 i (by omega)
theorem time_one {ls : List LinkR} {N : Nat} {s : LossS} {y : Nat} (h : LossW ls N s y) {u v : Nat} (hu : u < N) (hv : v < N) (h0 : 0 < s.t.getD u 0) (e : s.t.getD u 0 = s.t.getD v 0) : u = v := by
  obtain ⟨_, h2, _⟩ := h.W u hu h0
  obtain ⟨_, h3, _⟩ := h.W v hv (by omega)
  unfold linkT at h2 h3
  rw [e, h3] at h2
  omega
theorem le_chain {f : Nat → Nat} : ∀ (p : Nat), (∀ i, i < p → f (i + 1) ≤ f i) → f p ≤ f 0 ∧ ∀ i, i ≤ p → f p ≤ f i
  | 0, _ => ⟨Nat.le_refl _, fun i hi => by rw [show i = 0 by omega]; exact Nat.le_refl _⟩
  | p + 1, h => by
    obtain ⟨h1, h2⟩ := le_chain p fun i hi => h i (by omega)
    have h3 := h p (by omega)
    refine ⟨by omega, fun i hi => ?_⟩
    by_cases e : i = p + 1
    · subst e; exact Nat.le_refl _
    · have := h2 i (by omega); omega
/-- the round costs less than nothing -/
theorem cyc_neg {ls : List LinkR} {N x p : Nat} {s : LossS} {y : Nat} (hne : ∀ k, k < ls.length → (ls.getD k default).fr ≠ (ls.getD k default).to_) (hls : LinksOk ls N) (h : LossW ls N s y) (hx : ∀ m, preN ls s x m < N ∧ 0 < s.t.getD (preN ls s x m) 0) (hp : 1 ≤ p) (hc : preN ls s x p = x) : cycC ls s x p < 0 := by
  rcases cyc_lt h hx p with h1 | h1
  · rw [hc] at h1; omega
  · exfalso
    obtain ⟨_, h3⟩ := le_chain (f := fun i => s.t.getD (preN ls s x i) 0) p h1
    have h4 := h3 1 hp
    have h5 : s.t.getD (preN ls s x 1) 0 ≤ s.t.getD (preN ls s x 0) 0 := h1 0 (by omega)
    replace h4 : s.t.getD (preN ls s x p) 0 ≤ s.t.getD (preN ls s x 1) 0 := h4
    have h6 : s.t.getD (preN ls s x 0) 0 = s.t.getD x 0 := rfl
    rw [hc] at h4
    have e := time_one h (hx 1).1 (hx 0).1 (hx 1).2 (by omega)
    obtain ⟨q1, q2, _⟩ := h.W _ (hx 0).1 (hx 0).2
    have h7 := pre_step ls s x 0
    rw [e] at h7
    have h8 := hne _ q1
    have h9 := (hls _ q1).1
    unfold linkT at h7 q2
    omega
/-- a change in the last round: a round that costs less than nothing, its nodes all different -/
theorem neg_cycle {ls : List LinkR} {N e r : Nat} (hls : LinksOk ls N) (hne : ∀ k, k < ls.length → (ls.getD k default).fr ≠ (ls.getD k default).to_) (hN : 1 ≤ N) (he : e < N) (hlast : (N - 1) * ls.length < (lossR ls N r).t.getD e 0) :
    ∃ x p, 1 ≤ p ∧ preN ls (lossR ls N r) x p = x ∧ (∀ m, preN ls (lossR ls N r) x m < N ∧ 0 < (lossR ls N r).t.getD (preN ls (lossR ls N r) x m) 0) ∧ cycC ls (lossR ls N r) x p < 0 ∧ ∀ i j, i < j → j < p → preN ls (lossR ls N r) x i ≠ preN ls (lossR ls N r) x j := by
  have hok := loss_r hls hne r
  have hw := lossW_r hls hne r
  obtain ⟨h1, p, hp1, hp2, hp3⟩ := back_ok hls hok hN he hlast
  rw [preN_add] at hp3
  have hx : ∀ m, preN ls (lossR ls N r) (preN ls (lossR ls N r) e N) m < N ∧ 0 < (lossR ls N r).t.getD (preN ls (lossR ls N r) (preN ls (lossR ls N r) e N) m) 0 := fun m => by rw [← preN_add]; exact h1 _
  generalize preN ls (lossR ls N r) e N = x at *
  obtain ⟨q, q1, _, q3, q4⟩ := least_p (P := fun q => preN ls (lossR ls N r) x q = x) p p (Nat.le_refl _) hp1 hp3
  refine ⟨x, q, q1, q3, hx, cyc_neg hne hls hw hx q1 q3, fun i j hij hjq e2 => ?_⟩
  -- the round would close earlier
  have h5 : preN ls (lossR ls N r) x (q - j + i) = x := by
    rw [Nat.add_comm, preN_add, e2, ← preN_add, show j + (q - j) = q by omega]
    exact q3
  exact q4 (q - j + i) (by omega) (by omega) h5
/-- no change came in the last round: no link makes a number less -/
theorem loss_stable {ls : List LinkR} {N : Nat} (hls : LinksOk ls N) (hne : ∀ k, k < ls.length → (ls.getD k default).fr ≠ (ls.getD k default).to_) (hN : 1 ≤ N) (hno : ∀ v, v < N → (lossR ls N N).t.getD v 0 ≤ (N - 1) * ls.length) : ∀ k, k < ls.length → (lossR ls N N).d.getD (ls.getD k default).to_.toNat 0 ≤ (lossR ls N N).d.getD (ls.getD k default).fr.toNat 0 + (ls.getD k default).cost := by
  intro k hk
  have hok := loss_r hls hne N
  rcases Int.lt_or_le ((lossR ls N N).d.getD (ls.getD k default).fr.toNat 0 + (ls.getD k default).cost) ((lossR ls N N).d.getD (ls.getD k default).to_.toNat 0) with hlt | hge
  · exfalso
    have hs : seenAt ls.length N 0 k = (N - 1) * ls.length + k + 1 := by unfold seenAt; rw [if_neg (by omega), if_neg (by omega)]
    have := hok.J k hk (by rw [hs]; omega) hlt
    rw [hs] at this
    have h2 := (hls k hk).1
    have := hno (ls.getD k default).fr.toNat (by omega)
    omega
  · exact hge
/-- costs along a round, with a price at each node -/
theorem cyc_price {ls : List LinkR} {N x : Nat} {s : LossS} {y : Nat} (π : Nat → Int) (h : LossW ls N s y) (hx : ∀ m, preN ls s x m < N ∧ 0 < s.t.getD (preN ls s x m) 0) (hπ : ∀ k, k < ls.length → π (ls.getD k default).to_.toNat ≤ π (ls.getD k default).fr.toNat + (ls.getD k default).cost) : ∀ k, π x - π (preN ls s x k) ≤ cycC ls s x k
  | 0 => by rw [cycC, preN]; omega
  | k + 1 => by
    have ih := cyc_price π h hx hπ k
    obtain ⟨h1, h2, _⟩ := h.W _ (hx k).1 (hx k).2
    have h3 := hπ _ h1
    have h4 := pre_step ls s x k
    rw [cycC, h4]
    unfold linkT at h2 ⊢
    rw [h2, Int.toNat_natCast] at h3
    omega
/-- where prices fit, no change comes in the last round -/
theorem price_none {ls : List LinkR} {N : Nat} (π : Nat → Int) (hls : LinksOk ls N) (hne : ∀ k, k < ls.length → (ls.getD k default).fr ≠ (ls.getD k default).to_) (hN : 1 ≤ N) (hπ : ∀ k, k < ls.length → π (ls.getD k default).to_.toNat ≤ π (ls.getD k default).fr.toNat + (ls.getD k default).cost) (r : Nat) : ∀ v, v < N → (lossR ls N r).t.getD v 0 ≤ (N - 1) * ls.length := by
  intro v hv
  rcases Nat.lt_or_ge ((N - 1) * ls.length) ((lossR ls N r).t.getD v 0) with hlt | hge
  · exfalso
    obtain ⟨x, p, hp, hc, hx, hneg, _⟩ := neg_cycle hls hne hN hv hlt
    have := cyc_price π (lossW_r hls hne r) hx hπ p
    rw [hc] at this
    omega
  · exact hge
end Go.Proofs.Ytnljfhmdjhppmaa

namespace Go.Proofs.Ytnljfhmdjhppmaa
open Go.RowKit

/-- the times of the last changes behind the first j links of round r -/
def tTo (ls : List LinkR) (s : LeastS) (t : List Nat) (r : Nat) : Nat → List Nat
  | 0 => t
  | j + 1 => if leastGo (leastTo ls s j) (ls.getD j default) = true then (tTo ls s t r j).set (ls.getD j default).to_.toNat (r * ls.length + j + 1) else tTo ls s t r j
def tR (ls : List LinkR) (s0 : LeastS) (N : Nat) : Nat → List Nat
  | 0 => List.replicate N 0
  | r + 1 => tTo ls (leastR ls s0 r) (tR ls s0 N r) r ls.length
def srcS (N f : Nat) : LeastS := ⟨List.replicate N 0, (List.replicate N false).set f true, (List.replicate N (-2)).set f (-1), -1⟩
def lk (ls : List LinkR) (t : List Nat) (v : Nat) : LinkR := ls.getD ((t.getD v 0 - 1) % ls.length) default
/-- prices that fit: no left over arc is cheaper than the prices' difference -/
def Fits (ls : List LinkR) (π : Nat → Int) : Prop := ∀ k, k < ls.length → π (ls.getD k default).to_.toNat ≤ π (ls.getD k default).fr.toNat + (ls.getD k default).cost
structure FlOk (ls : List LinkR) (N f : Nat) (π : Nat → Int) (s : LeastS) (t : List Nat) (r j : Nat) : Prop where
  dl : s.d.length = N
  kl : s.k.length = N
  bl : s.b.length = N
  tl : t.length = N
  now : ∀ v, v < N → t.getD v 0 ≤ r * ls.length + j
  known : ∀ v, v < N → (s.k.getD v false = true ↔ (v = f ∨ 0 < t.getD v 0))
  tf : t.getD f 0 = 0
  df : s.d.getD f 0 = 0
  pot : ∀ v, v < N → s.k.getD v false = true → π v - π f ≤ s.d.getD v 0
  J : ∀ k, k < ls.length → 0 < seenAt ls.length r j k → leastGo s (ls.getD k default) = true → seenAt ls.length r j k < t.getD (ls.getD k default).fr.toNat 0
  W : ∀ v, v < N → 0 < t.getD v 0 → (t.getD v 0 - 1) % ls.length < ls.length ∧ (lk ls t v).to_ = v ∧ s.k.getD (lk ls t v).fr.toNat false = true ∧ s.b.getD v 0 = (((t.getD v 0 - 1) % ls.length : Nat) : Int) ∧ s.d.getD (lk ls t v).fr.toNat 0 + (lk ls t v).cost ≤ s.d.getD v 0 ∧ (t.getD v 0 < t.getD (lk ls t v).fr.toNat 0 → s.d.getD (lk ls t v).fr.toNat 0 + (lk ls t v).cost < s.d.getD v 0) ∧ (ls.length < t.getD v 0 → t.getD v 0 < t.getD (lk ls t v).fr.toNat 0 + ls.length)
theorem go_iff {s : LeastS} {l : LinkR} : leastGo s l = true ↔ s.k.getD l.fr.toNat false = true ∧ (s.k.getD l.to_.toNat false = false ∨ s.d.getD l.fr.toNat 0 + l.cost < s.d.getD l.to_.toNat 0) := by
  unfold leastGo
  rw [Bool.and_eq_true, Bool.or_eq_true, Bool.not_eq_true', decide_eq_true_iff]
theorem fl_step {ls : List LinkR} {N f : Nat} {π : Nat → Int} {s : LeastS} {t : List Nat} {r j : Nat} (hls : LinksOk ls N) (hne : ∀ k, k < ls.length → (ls.getD k default).fr ≠ (ls.getD k default).to_) (hπ : Fits ls π) (hf : f < N) (hj : j < ls.length) (h : FlOk ls N f π s t r j) :
    FlOk ls N f π (leastStep s (ls.getD j default) j) (if leastGo s (ls.getD j default) = true then t.set (ls.getD j default).to_.toNat (r * ls.length + j + 1) else t) r (j + 1) := by
  obtain ⟨⟨a0, a1⟩, ⟨b0, b1⟩⟩ := hls j hj
  have hnej := hne j hj
  have hπj := hπ j hj
  unfold leastStep
  by_cases hgo : leastGo s (ls.getD j default) = true
  · rw [if_pos hgo, if_pos hgo]
    obtain ⟨hkf, hbad⟩ := go_iff.1 hgo
    have hpf := h.pot (ls.getD j default).fr.toNat (by omega) hkf
    have htof : (ls.getD j default).to_.toNat ≠ f := fun e => by
      rcases hbad with hb | hb
      · have := (h.known f hf).2 (.inl rfl)
        rw [e] at hb
        rw [hb] at this; cases this
      · rw [e, h.df] at hb
        rw [e] at hπj
        omega
    have hsd : ∀ v, (s.d.set (ls.getD j default).to_.toNat (s.d.getD (ls.getD j default).fr.toNat 0 + (ls.getD j default).cost)).getD v 0 = if (ls.getD j default).to_.toNat = v then s.d.getD (ls.getD j default).fr.toNat 0 + (ls.getD j default).cost else s.d.getD v 0 := fun v => getD_set' _ _ v _ (by rw [h.dl]; omega)
    have hst : ∀ v, (t.set (ls.getD j default).to_.toNat (r * ls.length + j + 1)).getD v 0 = if (ls.getD j default).to_.toNat = v then r * ls.length + j + 1 else t.getD v 0 := fun v => getD_setN _ _ v _ (by rw [h.tl]; omega)
    have hsk : ∀ v, (s.k.set (ls.getD j default).to_.toNat true).getD v false = if (ls.getD j default).to_.toNat = v then true else s.k.getD v false := fun v => getD_setB _ _ v _ (by rw [h.kl]; omega)
    have hsb : ∀ v, (s.b.set (ls.getD j default).to_.toNat (j : Int)).getD v 0 = if (ls.getD j default).to_.toNat = v then (j : Int) else s.b.getD v 0 := fun v => getD_set' _ _ v _ (by rw [h.bl]; omega)
    generalize hl : ls.getD j default = l at *
    refine ⟨by show (s.d.set _ _).length = N; rw [List.length_set]; exact h.dl, by show (s.k.set _ _).length = N; rw [List.length_set]; exact h.kl, by show (s.b.set _ _).length = N; rw [List.length_set]; exact h.bl, by rw [List.length_set]; exact h.tl, fun v hv => ?_, fun v hv => ?_, ?_, ?_, fun v hv hk => ?_, fun k hk h0 hlt => ?_, fun v hv h0 => ?_⟩
    · rw [hst v]
      have := h.now v hv
      split <;> omega
    · show (s.k.set l.to_.toNat true).getD v false = true ↔ _
      rw [hsk, hst]
      by_cases e : l.to_.toNat = v
      · rw [if_pos e, if_pos e]; exact ⟨fun _ => .inr (by omega), fun _ => rfl⟩
      · rw [if_neg e, if_neg e]; exact h.known v hv
    · rw [hst, if_neg htof]; exact h.tf
    · show (s.d.set l.to_.toNat _).getD f 0 = 0
      rw [hsd, if_neg htof]; exact h.df
    · have hk : (s.k.set l.to_.toNat true).getD v false = true := hk
      show π v - π f ≤ (s.d.set l.to_.toNat _).getD v 0
      rw [hsk] at hk
      rw [hsd]
      by_cases e : l.to_.toNat = v
      · rw [if_pos e]; rw [e] at hπj; omega
      · rw [if_neg e] at hk ⊢; exact h.pot v hv hk
    · obtain ⟨⟨c0, c1⟩, ⟨e0, e1⟩⟩ := hls k hk
      obtain ⟨g1, g2⟩ := go_iff.1 hlt
      replace g1 : (s.k.set l.to_.toNat true).getD (ls.getD k default).fr.toNat false = true := g1
      replace g2 : (s.k.set l.to_.toNat true).getD (ls.getD k default).to_.toNat false = false ∨ (s.d.set l.to_.toNat (s.d.getD l.fr.toNat 0 + l.cost)).getD (ls.getD k default).fr.toNat 0 + (ls.getD k default).cost < (s.d.set l.to_.toNat (s.d.getD l.fr.toNat 0 + l.cost)).getD (ls.getD k default).to_.toNat 0 := g2
      rw [hsk] at g1
      rw [hsk, hsd, hsd] at g2
      rw [hst]
      by_cases e : k = j
      · subst e
        exfalso
        rw [hl, if_pos rfl, if_pos rfl, if_neg (by omega)] at g2
        rcases g2 with g2 | g2
        · cases g2
        · omega
      · rw [seenAt_step e] at h0 ⊢
        have hsn := seenAt_lt (M := ls.length) (r := r) (j := j) hk (by omega)
        by_cases e2 : l.to_.toNat = (ls.getD k default).fr.toNat
        · rw [if_pos e2]; omega
        · rw [if_neg e2] at g1 g2 ⊢
          by_cases e3 : l.to_.toNat = (ls.getD k default).to_.toNat
          · rw [if_pos e3, if_pos e3] at g2
            refine h.J k hk h0 (go_iff.2 ⟨g1, ?_⟩)
            rw [← e3]
            rcases g2 with g2 | g2
            · cases g2
            · rcases hbad with hb | hb
              · exact .inl hb
              · exact .inr (by omega)
          · rw [if_neg e3, if_neg e3] at g2
            exact h.J k hk h0 (go_iff.2 ⟨g1, g2⟩)
    · by_cases e : l.to_.toNat = v
      · have hv1 : (t.set l.to_.toNat (r * ls.length + j + 1)).getD v 0 = r * ls.length + j + 1 := by rw [hst, if_pos e]
        have hmod : (r * ls.length + j + 1 - 1) % ls.length = j := by
          rw [Nat.add_sub_cancel, Nat.mul_comm, Nat.mul_add_mod]; exact Nat.mod_eq_of_lt hj
        have hlk : lk ls (t.set l.to_.toNat (r * ls.length + j + 1)) v = l := by unfold lk; rw [hv1, hmod, hl]
        rw [hlk, hv1, hmod]
        show j < ls.length ∧ l.to_ = v ∧ (s.k.set l.to_.toNat true).getD l.fr.toNat false = true ∧ (s.b.set l.to_.toNat (j : Int)).getD v 0 = (j : Int) ∧ (s.d.set l.to_.toNat _).getD l.fr.toNat 0 + l.cost ≤ (s.d.set l.to_.toNat _).getD v 0 ∧ (_ → (s.d.set l.to_.toNat _).getD l.fr.toNat 0 + l.cost < (s.d.set l.to_.toNat _).getD v 0) ∧ _
        rw [hsk, hsb, hsd, hsd, hst, if_pos e, if_pos e, if_neg (by omega), if_neg (by omega), if_neg (by omega)]
        refine ⟨hj, by omega, hkf, rfl, Int.le_refl _, fun hlt => ?_, fun hM => ?_⟩
        · have := h.now l.fr.toNat (by omega); omega
        · have hr : r ≠ 0 := fun hr0 => by rw [hr0] at hM; omega
          have hold := seenAt_old ls.length r j
          rw [if_neg hr] at hold
          have := h.J j hj (by rw [hold]; omega) (by rw [hl]; exact hgo)
          rw [hold, hl] at this
          obtain ⟨r', rfl⟩ : ∃ r', r = r' + 1 := ⟨r - 1, by omega⟩
          rw [Nat.add_sub_cancel] at this
          rw [Nat.succ_mul]
          omega
      · have hv1 : (t.set l.to_.toNat (r * ls.length + j + 1)).getD v 0 = t.getD v 0 := by rw [hst, if_neg e]
        have hlk : lk ls (t.set l.to_.toNat (r * ls.length + j + 1)) v = lk ls t v := by unfold lk; rw [hv1]
        rw [hv1] at h0
        rw [hlk, hv1]
        obtain ⟨p1, p2, p3, p4, p5, p6, p7⟩ := h.W v hv h0
        show _ ∧ _ ∧ (s.k.set l.to_.toNat true).getD (lk ls t v).fr.toNat false = true ∧ (s.b.set l.to_.toNat (j : Int)).getD v 0 = _ ∧ (s.d.set l.to_.toNat _).getD (lk ls t v).fr.toNat 0 + (lk ls t v).cost ≤ (s.d.set l.to_.toNat _).getD v 0 ∧ (_ → (s.d.set l.to_.toNat _).getD (lk ls t v).fr.toNat 0 + (lk ls t v).cost < (s.d.set l.to_.toNat _).getD v 0) ∧ _
        rw [hsk, hsb, hsd, hsd, hst, if_neg e, if_neg e]
        by_cases e2 : l.to_.toNat = (lk ls t v).fr.toNat
        · have hlt : s.d.getD l.fr.toNat 0 + l.cost < s.d.getD (lk ls t v).fr.toNat 0 := by
            rcases hbad with hb | hb
            · rw [e2, p3] at hb; cases hb
            · rw [← e2]; exact hb
          rw [if_pos e2, if_pos e2, if_pos e2]
          exact ⟨p1, p2, rfl, p4, by omega, fun _ => by omega, fun _ => by have := h.now v hv; omega⟩
        · rw [if_neg e2, if_neg e2, if_neg e2]
          exact ⟨p1, p2, p3, p4, p5, p6, p7⟩
  · rw [if_neg hgo, if_neg hgo]
    refine ⟨h.dl, h.kl, h.bl, h.tl, fun v hv => by have := h.now v hv; omega, h.known, h.tf, h.df, h.pot, fun k hk h0 hlt => ?_, h.W⟩
    by_cases e : k = j
    · subst e; exact absurd hlt hgo
    · rw [seenAt_step e] at h0 ⊢
      exact h.J k hk h0 hlt
theorem fl_to {ls : List LinkR} {N f : Nat} {π : Nat → Int} {s : LeastS} {t : List Nat} {r : Nat} (hls : LinksOk ls N) (hne : ∀ k, k < ls.length → (ls.getD k default).fr ≠ (ls.getD k default).to_) (hπ : Fits ls π) (hf : f < N) (h : FlOk ls N f π s t r 0) : ∀ j, j ≤ ls.length → FlOk ls N f π (leastTo ls s j) (tTo ls s t r j) r j
  | 0, _ => ⟨h.dl, h.kl, h.bl, h.tl, h.now, h.known, h.tf, h.df, h.pot, h.J, h.W⟩
  | j + 1, hj => by
    rw [leastTo, tTo]
    exact fl_step hls hne hπ hf (by omega) (fl_to hls hne hπ hf h j (by omega))
theorem fl_next {ls : List LinkR} {N f : Nat} {π : Nat → Int} {s : LeastS} {t : List Nat} {r : Nat} (h : FlOk ls N f π s t r ls.length) : FlOk ls N f π s t (r + 1) 0 := by
  have hs : ∀ k, k < ls.length → seenAt ls.length (r + 1) 0 k = seenAt ls.length r ls.length k := fun k hk => by
    unfold seenAt
    rw [if_neg (by omega), if_neg (by omega), if_pos hk, Nat.add_sub_cancel]
  refine ⟨h.dl, h.kl, h.bl, h.tl, fun v hv => by have := h.now v hv; rw [Nat.succ_mul]; omega, h.known, h.tf, h.df, h.pot, fun k hk h0 hlt => ?_, h.W⟩
  rw [hs k hk] at h0 ⊢
  exact h.J k hk h0 hlt
theorem fl_r {ls : List LinkR} {N f : Nat} {π : Nat → Int} (hls : LinksOk ls N) (hne : ∀ k, k < ls.length → (ls.getD k default).fr ≠ (ls.getD k default).to_) (hπ : Fits ls π) (hf : f < N) : ∀ r, FlOk ls N f π (leastR ls (srcS N f) r) (tR ls (srcS N f) N r) r 0
  | 0 => by
    have ht : ∀ v, v < N → (List.replicate N (0 : Nat)).getD v 0 = 0 := fun v hv => by simp [List.getD, hv]
    have hd : ∀ v, v < N → (List.replicate N (0 : Int)).getD v 0 = 0 := fun v hv => by simp [List.getD, hv]
    have hk : ∀ v, v < N → ((List.replicate N false).set f true).getD v false = decide (f = v) := fun v hv => by
      rw [getD_setB _ _ v _ (by simpa using hf)]
      by_cases e : f = v
      · simp [e]
      · simp [e, List.getD, hv]
    refine ⟨by simp [leastR, srcS], by simp [leastR, srcS], by simp [leastR, srcS], by simp [tR], fun v hv => ?_, fun v hv => ?_, ht f hf, hd f hf, fun v hv h => ?_, fun k hk h0 => ?_, fun v hv h0 => ?_⟩
    · show (List.replicate N (0 : Nat)).getD v 0 ≤ _
      rw [ht v hv]; exact Nat.zero_le _
    · show ((List.replicate N false).set f true).getD v false = true ↔ v = f ∨ 0 < (List.replicate N (0 : Nat)).getD v 0
      rw [hk v hv, ht v hv, decide_eq_true_iff]
      constructor
      · intro e; exact .inl e.symm
      · rintro (e | e)
        · exact e.symm
        · omega
    · have h : ((List.replicate N false).set f true).getD v false = true := h
      rw [hk v hv, decide_eq_true_iff] at h
      subst h
      show π f - π f ≤ (List.replicate N (0 : Int)).getD f 0
      rw [hd f hf]; omega
    · rw [show seenAt ls.length 0 0 k = 0 by simp [seenAt]] at h0; omega
    · have h0' : 0 < (List.replicate N (0 : Nat)).getD v 0 := h0
      rw [ht v hv] at h0'; omega
  | r + 1 => by
    rw [leastR, tR]
    exact fl_next (fl_to hls hne hπ hf (fl_r hls hne hπ hf r) ls.length (Nat.le_refl _))
end Go.Proofs.Ytnljfhmdjhppmaa

namespace Go.Proofs.Ytnljfhmdjhppmaa
open Go.RowKit

def pF (ls : List LinkR) (t : List Nat) (e : Nat) : Nat → Nat
  | 0 => e
  | i + 1 => (lk ls t (pF ls t e i)).fr.toNat
theorem pF_add (ls : List LinkR) (t : List Nat) (e i : Nat) : ∀ j, pF ls t e (i + j) = pF ls t (pF ls t e i) j
  | 0 => rfl
  | j + 1 => by rw [← Nat.add_assoc, pF, pF, pF_add ls t e i j]
def cF (ls : List LinkR) (t : List Nat) (x : Nat) : Nat → Int
  | 0 => 0
  | k + 1 => cF ls t x k + (lk ls t (pF ls t x k)).cost
section
variable {ls : List LinkR} {N f : Nat} {π : Nat → Int} {s : LeastS} {t : List Nat} {r j : Nat}
theorem cF_le (h : FlOk ls N f π s t r j) {x : Nat} : ∀ k, (∀ m, m < k → pF ls t x m < N ∧ 0 < t.getD (pF ls t x m) 0) → cF ls t x k ≤ s.d.getD x 0 - s.d.getD (pF ls t x k) 0
  | 0, _ => by rw [cF, pF]; omega
  | k + 1, hx => by
    have ih := cF_le h k fun m hm => hx m (by omega)
    obtain ⟨_, _, _, _, h5, _⟩ := h.W _ (hx k (by omega)).1 (hx k (by omega)).2
    rw [cF, pF]
    omega
theorem cF_lt (h : FlOk ls N f π s t r j) {x : Nat} : ∀ k, (∀ m, m < k → pF ls t x m < N ∧ 0 < t.getD (pF ls t x m) 0) → cF ls t x k < s.d.getD x 0 - s.d.getD (pF ls t x k) 0 ∨ (∀ i, i < k → t.getD (pF ls t x (i + 1)) 0 ≤ t.getD (pF ls t x i) 0)
  | 0, _ => .inr fun i hi => by omega
  | k + 1, hx => by
    obtain ⟨_, _, _, _, h5, h6, _⟩ := h.W _ (hx k (by omega)).1 (hx k (by omega)).2
    have hp : pF ls t x (k + 1) = (lk ls t (pF ls t x k)).fr.toNat := rfl
    rw [← hp] at h5 h6
    rw [cF]
    rcases cF_lt h k (fun m hm => hx m (by omega)) with h1 | h1
    · left; omega
    · have ih := cF_le h k fun m hm => hx m (by omega)
      by_cases e : t.getD (pF ls t x k) 0 < t.getD (pF ls t x (k + 1)) 0
      · left
        have := h6 e
        omega
      · right
        intro i hi
        by_cases e2 : i = k
        · subst e2; omega
        · exact h1 i (by omega)
theorem cF_price (hπ : Fits ls π) (h : FlOk ls N f π s t r j) {x : Nat} : ∀ k, (∀ m, m < k → pF ls t x m < N ∧ 0 < t.getD (pF ls t x m) 0) → π x - π (pF ls t x k) ≤ cF ls t x k
  | 0, _ => by rw [cF, pF]; omega
  | k + 1, hx => by
    have ih := cF_price hπ h k fun m hm => hx m (by omega)
    obtain ⟨h1, h2, _⟩ := h.W _ (hx k (by omega)).1 (hx k (by omega)).2
    have h3 := hπ _ h1
    have hp : pF ls t x (k + 1) = (lk ls t (pF ls t x k)).fr.toNat := rfl
    rw [cF, hp]
    unfold lk at h2 ⊢
    rw [h2, Int.toNat_natCast] at h3
    omega
theorem tF_one (h : FlOk ls N f π s t r j) {u v : Nat} (hu : u < N) (hv : v < N) (h0 : 0 < t.getD u 0) (e : t.getD u 0 = t.getD v 0) : u = v := by
  obtain ⟨_, h2, _⟩ := h.W u hu h0
  obtain ⟨_, h3, _⟩ := h.W v hv (by omega)
  unfold lk at h2 h3
  rw [e, h3] at h2
  omega
/-- where prices fit the changes never lead round -/
theorem no_round (hls : LinksOk ls N) (hne : ∀ k, k < ls.length → (ls.getD k default).fr ≠ (ls.getD k default).to_) (hπ : Fits ls π) (h : FlOk ls N f π s t r j) {x p : Nat} (hp : 1 ≤ p) (hx : ∀ m, m ≤ p → pF ls t x m < N ∧ 0 < t.getD (pF ls t x m) 0) (hc : pF ls t x p = x) : False := by
  have h1 := cF_price hπ h p fun m hm => hx m (by omega)
  rw [hc] at h1
  rcases cF_lt h p (fun m hm => hx m (by omega)) with h2 | h2
  · rw [hc] at h2; omega
  · obtain ⟨_, h3⟩ := le_chain (f := fun i => t.getD (pF ls t x i) 0) p h2
    have h4 : t.getD (pF ls t x p) 0 ≤ t.getD (pF ls t x 1) 0 := h3 1 hp
    have h5 : t.getD (pF ls t x 1) 0 ≤ t.getD (pF ls t x 0) 0 := h2 0 (by omega)
    have h6 : t.getD (pF ls t x 0) 0 = t.getD x 0 := rfl
    rw [hc] at h4
    have e := tF_one h (hx 1 hp).1 (hx 0 (by omega)).1 (hx 1 hp).2 (by omega)
    obtain ⟨q1, q2, _⟩ := h.W _ (hx 0 (by omega)).1 (hx 0 (by omega)).2
    have h7 : pF ls t x 1 = (lk ls t (pF ls t x 0)).fr.toNat := rfl
    rw [e] at h7
    have h8 := hne _ q1
    have h9 := (hls _ q1).1
    unfold lk at h7 q2
    omega
theorem no_repeat (hls : LinksOk ls N) (hne : ∀ k, k < ls.length → (ls.getD k default).fr ≠ (ls.getD k default).to_) (hπ : Fits ls π) (h : FlOk ls N f π s t r j) {x a b : Nat} (hab : a < b) (hx : ∀ m, m ≤ b → pF ls t x m < N ∧ 0 < t.getD (pF ls t x m) 0) (hc : pF ls t x a = pF ls t x b) : False := by
  refine no_round hls hne hπ h (x := pF ls t x a) (p := b - a) (by omega) (fun m hm => ?_) ?_
  · rw [← pF_add]; exact hx (a + m) (by omega)
  · rw [← pF_add, show a + (b - a) = b by omega]; exact hc.symm
/-- N places that are none the source repeat -/
theorem too_long (hls : LinksOk ls N) (hne : ∀ k, k < ls.length → (ls.getD k default).fr ≠ (ls.getD k default).to_) (hπ : Fits ls π) (hf : f < N) (h : FlOk ls N f π s t r j) {x : Nat} (hx : ∀ m, m ≤ N - 1 → pF ls t x m < N ∧ 0 < t.getD (pF ls t x m) 0) : False := by
  obtain ⟨i, k, hik, hk, e⟩ := pigeon (f := fun i => if i = 0 then f else pF ls t x (i - 1)) (N := N) (fun i hi => by
    show (if i = 0 then f else pF ls t x (i - 1)) < N
    split
    · exact hf
    · exact (hx (i - 1) (by omega)).1)
  have e : (if i = 0 then f else pF ls t x (i - 1)) = if k = 0 then f else pF ls t x (k - 1) := e
  rw [if_neg (show ¬ k = 0 by omega)] at e
  by_cases hi : i = 0
  · rw [if_pos hi] at e
    have := (hx (k - 1) (by omega)).2
    rw [← e, h.tf] at this
    omega
  · rw [if_neg hi] at e
    exact no_repeat hls hne hπ h (show i - 1 < k - 1 by omega) (fun m hm => hx m (by omega)) e
theorem chainF (hls : LinksOk ls N) (h : FlOk ls N f π s t r j) {e : Nat} (he : e < N) (hlast : (N - 1) * ls.length < t.getD e 0) : ∀ i, i ≤ N - 1 → pF ls t e i < N ∧ (N - 1 - i) * ls.length < t.getD (pF ls t e i) 0
  | 0, _ => ⟨he, hlast⟩
  | i + 1, hi => by
    obtain ⟨h1, h2⟩ := chainF hls h he hlast i (by omega)
    have h0 : 0 < t.getD (pF ls t e i) 0 := by omega
    obtain ⟨p1, _, _, _, _, _, p7⟩ := h.W _ h1 h0
    have hfr := (hls _ p1).1
    refine ⟨by show (lk ls t (pF ls t e i)).fr.toNat < N; unfold lk; omega, ?_⟩
    have e1 : N - 1 - i = (N - 1 - (i + 1)) + 1 := by omega
    rw [e1, Nat.succ_mul] at h2
    have := p7 (by omega)
    show (N - 1 - (i + 1)) * ls.length < t.getD (lk ls t (pF ls t e i)).fr.toNat 0
    omega
theorem no_late (hls : LinksOk ls N) (hne : ∀ k, k < ls.length → (ls.getD k default).fr ≠ (ls.getD k default).to_) (hπ : Fits ls π) (hf : f < N) (h : FlOk ls N f π s t r j) {e : Nat} (he : e < N) : t.getD e 0 ≤ (N - 1) * ls.length := by
  rcases Nat.lt_or_ge ((N - 1) * ls.length) (t.getD e 0) with hlt | hge
  · exfalso
    have hc := chainF hls h he hlt
    exact too_long hls hne hπ hf h (x := e) fun m hm => ⟨(hc m hm).1, by have := (hc m hm).2; omega⟩
  · exact hge
end
theorem round_quiet {ls : List LinkR} {s : LeastS} {t : List Nat} {r N : Nat} (hls : LinksOk ls N) (htl : t.length = N) : ∀ j, j ≤ ls.length → (tTo ls s t r j).length = N ∧ ((∃ e, e < N ∧ r * ls.length < (tTo ls s t r j).getD e 0) ∨ (leastTo ls s j = { s with e := -1 } ∧ ∀ i, i < j → ¬ leastGo s (ls.getD i default) = true))
  | 0, _ => ⟨htl, .inr ⟨rfl, fun i hi => by omega⟩⟩
  | j + 1, hj => by
    obtain ⟨h1, h2⟩ := round_quiet (s := s) (t := t) (r := r) hls htl j (by omega)
    obtain ⟨_, b0, b1⟩ := hls j (by omega)
    rw [tTo, leastTo]
    by_cases hgo : leastGo (leastTo ls s j) (ls.getD j default) = true
    · rw [if_pos hgo]
      refine ⟨by rw [List.length_set]; exact h1, .inl ⟨(ls.getD j default).to_.toNat, by omega, ?_⟩⟩
      rw [getD_setN _ _ _ _ (by rw [h1]; omega), if_pos rfl]; omega
    · rw [if_neg hgo]
      refine ⟨h1, ?_⟩
      rcases h2 with h2 | ⟨h2, h3⟩
      · exact .inl h2
      · right
        refine ⟨by unfold leastStep; rw [if_neg hgo]; exact h2, fun i hi => ?_⟩
        by_cases e : i = j
        · subst e
          rw [h2] at hgo
          exact hgo
        · exact h3 i (by omega)
section
variable {ls : List LinkR} {N f : Nat} {π : Nat → Int}
/-- behind N - 1 rounds all is settled -/
theorem settled (hls : LinksOk ls N) (hne : ∀ k, k < ls.length → (ls.getD k default).fr ≠ (ls.getD k default).to_) (hπ : Fits ls π) (hf : f < N) : ∀ k, k < ls.length → ¬ leastGo (leastR ls (srcS N f) (N - 1)) (ls.getD k default) = true := by
  have h := fl_r hls hne hπ hf (N - 1)
  have h2 := fl_to hls hne hπ hf h ls.length (Nat.le_refl _)
  have h3 := round_quiet (s := leastR ls (srcS N f) (N - 1)) (t := tR ls (srcS N f) N (N - 1)) (r := N - 1) hls h.tl ls.length (Nat.le_refl _)
  rcases h3.2 with ⟨e, he, hlt⟩ | ⟨_, h4⟩
  · have := no_late hls hne hπ hf h2 he
    omega
  · exact h4
end
end Go.Proofs.Ytnljfhmdjhppmaa

namespace Go.Proofs.Ytnljfhmdjhppmaa
open Go.RowKit

/-- links, the last one first, that lead back from a node to f, as 'by' tells -/
def Path (ls : List LinkR) (by_ : List Int) (N : Nat) (f : Int) : List LinkR → Int → Prop
  | [], at_ => at_ = f
  | l :: ws, at_ => ¬ at_ = f ∧ (0 ≤ at_ ∧ at_ < N) ∧ (∃ k : Nat, by_.getD at_.toNat 0 = k ∧ k < ls.length ∧ ls.getD k default = l) ∧ Path ls by_ N f ws l.fr
/-- what is let along a way -/
def amtOf : List LinkR → Int → Int
  | [], m => m
  | l :: ws, m => amtOf ws (min m l.room)
def pushOne (fl : List Int) (l : LinkR) (x : Int) : List Int := fl.set l.arc (fl.getD l.arc 0 + l.by_ * x)
def pushAll : List LinkR → Int → List Int → List Int
  | [], _, fl => fl
  | l :: ws, x, fl => pushAll ws x (pushOne fl l x)
/-- numbers stay small along a way -/
def PushOk (n : Nat) (x : Int) : List LinkR → List Int → Prop
  | [], _ => True
  | l :: ws, fl => l.arc < n ∧ (0 ≤ fl.getD l.arc 0 ∧ fl.getD l.arc 0 ≤ 1000000) ∧ PushOk n x ws (pushOne fl l x)
theorem pushOne_len (fl : List Int) (l : LinkR) (x : Int) : (pushOne fl l x).length = fl.length := by simp [pushOne]
theorem pushAll_len (x : Int) : ∀ (ws : List LinkR) (fl : List Int), (pushAll ws x fl).length = fl.length
  | [], fl => rfl
  | l :: ws, fl => by rw [pushAll, pushAll_len x ws, pushOne_len]
theorem amtOf_le : ∀ (ws : List LinkR) (m : Int), amtOf ws m ≤ m ∧ ∀ l ∈ ws, amtOf ws m ≤ l.room
  | [], m => ⟨Int.le_refl _, fun l h => nomatch h⟩
  | l :: ws, m => by
    obtain ⟨h1, h2⟩ := amtOf_le ws (min m l.room)
    rw [amtOf]
    refine ⟨by omega, fun l' h => ?_⟩
    rcases List.mem_cons.1 h with h | h
    · subst h; omega
    · exact h2 l' h
theorem amtOf_ge {b : Int} : ∀ (ws : List LinkR) (m : Int), b ≤ m → (∀ l ∈ ws, b ≤ l.room) → b ≤ amtOf ws m
  | [], m, h, _ => h
  | l :: ws, m, h, h2 => by
    rw [amtOf]
    have := h2 l (by simp)
    exact amtOf_ge ws _ (by omega) fun l' h' => h2 l' (by simp [h'])
theorem amtOf_big {l : LinkR} {ws : List LinkR} {m m' : Int} (h : l.room ≤ m) (h' : l.room ≤ m') : amtOf (l :: ws) m = amtOf (l :: ws) m' := by
  rw [amtOf, amtOf, show min m l.room = l.room by omega, show min m' l.room = l.room by omega]

/-- what a link is, of its arc -/
def LinkIs (xs : List ArcR) (fl : List Int) (n : Nat) (l : LinkR) : Prop :=
  l.arc < n ∧ 0 < l.room ∧ ((l.back = false ∧ l.fr = (xs.getD l.arc default).fr ∧ l.to_ = (xs.getD l.arc default).to_ ∧ l.room = (xs.getD l.arc default).room - fl.getD l.arc 0) ∨
    (l.back = true ∧ l.fr = (xs.getD l.arc default).to_ ∧ l.to_ = (xs.getD l.arc default).fr ∧ l.room = fl.getD l.arc 0))
theorem linksTo_is (xs : List ArcR) (fl : List Int) : ∀ n, ∀ l ∈ linksTo xs fl n, LinkIs xs fl n l
  | 0, l, h => by simp [linksTo] at h
  | n + 1, l, h => by
    rw [linksTo_succ, List.mem_append] at h
    rcases h with h | h
    · obtain ⟨h1, h2, h3⟩ := linksTo_is xs fl n l h
      exact ⟨by omega, h2, h3⟩
    · unfold linksOf at h
      rw [List.mem_append] at h
      rcases h with h | h
      · split at h
        · rename_i hlt
          simp only [List.mem_singleton] at h
          subst h
          exact ⟨by show n < n + 1; omega, by show 0 < (xs.getD n default).room - fl.getD n 0; omega, .inl ⟨rfl, rfl, rfl, rfl⟩⟩
        · simp at h
      · split at h
        · rename_i hlt
          simp only [List.mem_singleton] at h
          subst h
          exact ⟨by show n < n + 1; omega, by show 0 < fl.getD n 0; omega, .inr ⟨rfl, rfl, rfl, rfl⟩⟩
        · simp at h

/-- queues hold each node once -/
theorem bfs_nodup {ls : List LinkR} {N f : Nat} (hls : LinksOk ls N) (hf : f < N) : ∀ i, (bfsTo ls N f i).2.Nodup
  | 0 => by simp [bfsTo]
  | i + 1 => by
    have ih := bfs_nodup hls hf i
    have hok := bfs_ok hls hf i
    rw [bfsTo]
    split
    · rename_i hi
      have key : ∀ k, k ≤ ls.length → (scanTo ls ((bfsTo ls N f i).2.getD i 0) (bfsTo ls N f i) k).2.Nodup := by
        intro k
        induction k with
        | zero => intro _; exact ih
        | succ k ihk =>
          intro hk
          have ihk := ihk (by omega)
          obtain ⟨hs, _, _⟩ := bfs_scan hls hok hi _ rfl k (by omega)
          rw [scanTo]
          split
          · rename_i hc
            generalize scanTo ls ((bfsTo ls N f i).2.getD i 0) (bfsTo ls N f i) k = s at *
            rw [List.nodup_append]
            refine ⟨ihk, by simp, ?_⟩
            intro a ha b hb
            simp only [List.mem_singleton] at hb
            subst hb
            intro e
            obtain ⟨p, hp, hpe⟩ := List.mem_iff_getElem.1 ha
            have hpd : s.2.getD p 0 = a := by simp [List.getD, List.getElem?_eq_getElem hp, hpe]
            have h2 := hc.2
            rw [← e, ← hpd] at h2
            rcases Nat.eq_zero_or_pos p with h0 | h0
            · subst h0
              rw [hs.q0, Int.toNat_natCast, hs.fby] at h2
              exact absurd h2 (by decide)
            · obtain ⟨k', _, e2, _⟩ := hs.by_ p hp h0
              rw [e2] at h2
              omega
          · exact ihk
      exact key ls.length (Nat.le_refl _)
    · exact ih
theorem nodup_at {zs : List Int} (h : zs.Nodup) {i j : Nat} (hi : i < zs.length) (hj : j < zs.length) (e : zs.getD i 0 = zs.getD j 0) : i = j := by
  simp only [List.getD, List.getElem?_eq_getElem hi, List.getElem?_eq_getElem hj, Option.getD_some] at e
  exact (List.getElem_inj h).1 e

/-- the way to the p-th node of the queue -/
theorem way_of {ls : List LinkR} {N f : Nat} {st : List Int × List Int} (hok : BfsOk ls N f st) (hnd : st.2.Nodup) : ∀ (p b : Nat), p ≤ b → p < st.2.length →
    ∃ ws : List LinkR, Path ls st.1 N f ws (st.2.getD p 0) ∧ ws.length ≤ p ∧ (p = 0 → ws = []) ∧ (0 < p → ∃ l ws', ws = l :: ws') ∧
      (∀ l ∈ ws, l ∈ ls ∧ ∃ i j, i < j ∧ j ≤ p ∧ st.2.getD i 0 = l.fr ∧ st.2.getD j 0 = l.to_) ∧ ws.Pairwise (fun l1 l2 => ∃ i j j', j' ≤ i ∧ i < j ∧ j ≤ p ∧ st.2.getD j 0 = l1.to_ ∧ st.2.getD i 0 = l1.fr ∧ st.2.getD j' 0 = l2.to_ ∧ ∃ i', i' < j' ∧ st.2.getD i' 0 = l2.fr)
  | p, 0, hb, hp => by
    have e : p = 0 := by omega
    subst e
    exact ⟨[], by rw [Path, hok.q0], Nat.zero_le _, fun _ => rfl, fun h => absurd h (by omega), (fun l h => nomatch h), List.Pairwise.nil⟩
  | p, b + 1, hb, hp => by
    rcases Nat.eq_zero_or_pos p with h0 | h0
    · subst h0
      exact ⟨[], by rw [Path, hok.q0], Nat.zero_le _, fun _ => rfl, fun h => absurd h (by omega), (fun l h => nomatch h), List.Pairwise.nil⟩
    · obtain ⟨k, hk, hby, hto, p', hp', hfr⟩ := hok.by_ p hp h0
      obtain ⟨ws, hw1, hw2, hw3, hw4, hw5, hw6⟩ := way_of hok hnd p' b (by omega) (by omega)
      have hne : ¬ st.2.getD p 0 = (f : Int) := by
        intro e
        have := nodup_at hnd hp (show 0 < st.2.length by omega) (by rw [hok.q0]; exact e)
        omega
      refine ⟨ls.getD k default :: ws, ?_, by simp; omega, fun h => by omega, fun _ => ⟨_, _, rfl⟩, ?_, ?_⟩
      · rw [Path]
        exact ⟨hne, hok.qin p hp, ⟨k, hby, hk, rfl⟩, by rw [← hfr]; exact hw1⟩
      · intro l hl
        rcases List.mem_cons.1 hl with h | h
        · subst h
          exact ⟨getDL_mem hk, p', p, hp', Nat.le_refl _, hfr, hto.symm⟩
        · obtain ⟨h1, i, j, h2, h3, h4⟩ := hw5 l h
          exact ⟨h1, i, j, h2, by omega, h4⟩
      · refine List.Pairwise.cons ?_ (hw6.imp ?_)
        · intro l2 hl2
          obtain ⟨_, i, j, h2, h3, h4, h5⟩ := hw5 l2 hl2
          exact ⟨p', p, j, h3, hp', Nat.le_refl _, hto.symm, hfr, h5, i, h2, h4⟩
        · rintro l1 l2 ⟨i, j, j', h1, h2, h3, h4⟩
          exact ⟨i, j, j', h1, h2, by omega, h4⟩
end Go.Proofs.Ytnljfhmdjhppmaa

namespace Go.Proofs.Ytnljfhmdjhppmaa
open Go.RowKit

/-- the links of the way that leads to a node, the last one first -/
def wayB (ls : List LinkR) (by_ : List Int) (f : Int) : Nat → Int → List LinkR
  | 0, _ => []
  | k + 1, at_ => if at_ = f then [] else (ls.getD (by_.getD at_.toNat 0).toNat default) :: wayB ls by_ f k (ls.getD (by_.getD at_.toNat 0).toNat default).fr
theorem wayB_path {ls : List LinkR} {by_ : List Int} {N : Nat} {f : Int} : ∀ (k : Nat) (ws : List LinkR) (at_ : Int), Path ls by_ N f ws at_ → ws.length ≤ k → wayB ls by_ f k at_ = ws
  | 0, ws, at_, _, h2 => by
    have : ws = [] := List.eq_nil_of_length_eq_zero (by omega)
    subst this; rfl
  | k + 1, [], at_, h, _ => by
    rw [Path] at h
    rw [wayB, if_pos h]
  | k + 1, l :: ws, at_, h, h2 => by
    rw [Path] at h
    obtain ⟨h1, _, ⟨j, h3, _, h4⟩, h5⟩ := h
    rw [wayB, if_neg h1, h3, Int.toNat_natCast, h4, wayB_path k ws l.fr h5 (by simp at h2; omega)]

def FlowIn (xs : List ArcR) (fl : List Int) (n : Nat) : Prop := fl.length = n ∧ ∀ k, k < n → 0 ≤ fl.getD k 0 ∧ fl.getD k 0 ≤ (xs.getD k default).room
def netX (x : Int) (node : Int) : List LinkR → Int
  | [] => 0
  | l :: ws => netX x node ws + (if l.fr = node then x else 0) - (if l.to_ = node then x else 0)
theorem outTo_set (xs : List ArcR) (fl : List Int) (node : Int) (a : Nat) (v : Int) (ha : a < fl.length) : ∀ k, outTo xs (fl.set a v) node k = outTo xs fl node k + (if a < k then (if (xs.getD a default).fr = node then v - fl.getD a 0 else 0) - (if (xs.getD a default).to_ = node then v - fl.getD a 0 else 0) else 0)
  | 0 => by simp [outTo]
  | k + 1 => by
    rw [outTo_succ, outTo_succ, outTo_set xs fl node a v ha k, getD_set' fl a k v ha]
    by_cases h : a = k
    · subst h
      rw [if_pos rfl, if_neg (Nat.lt_irrefl a), if_pos (Nat.lt_succ_self a)]
      split <;> split <;> omega
    · have key : ∀ o A B C D : Int, o + (A - B) + C - D = o + C - D + (A - B) := by omega
      have key2 : ∀ o C D : Int, o + 0 + C - D = o + C - D + 0 := by omega
      by_cases h2 : a < k
      · simp only [if_neg h, if_pos h2, if_pos (show a < k + 1 by omega)]; exact key _ _ _ _ _
      · simp only [if_neg h, if_neg h2, if_neg (show ¬ a < k + 1 by omega)]; exact key2 _ _ _
theorem outTo_one {xs : List ArcR} {fl fl0 : List Int} {n : Nat} {l : LinkR} (h : LinkIs xs fl0 n l) (hl : fl.length = n) (x node : Int) : outTo xs (pushOne fl l x) node n = outTo xs fl node n + (if l.fr = node then x else 0) - (if l.to_ = node then x else 0) := by
  obtain ⟨h1, _, h3⟩ := h
  unfold pushOne
  rw [outTo_set xs fl node l.arc _ (by omega) n, if_pos h1]
  generalize fl.getD l.arc 0 = y
  rcases h3 with ⟨hb, e1, e2, _⟩ | ⟨hb, e1, e2, _⟩
  · have hby : l.by_ = 1 := by unfold LinkR.by_; rw [hb]; rfl
    rw [hby, e1, e2]
    split <;> split <;> omega
  · have hby : l.by_ = -1 := by unfold LinkR.by_; rw [hb]; rfl
    rw [hby, e1, e2]
    split <;> split <;> omega
theorem push_inv {xs : List ArcR} {fl0 : List Int} {n : Nat} (hr : ∀ k, k < n → 0 ≤ (xs.getD k default).room ∧ (xs.getD k default).room ≤ 1000000) (x : Int) (hx : 0 ≤ x) :
    ∀ (ws : List LinkR) (fl : List Int), FlowIn xs fl n → (∀ l ∈ ws, LinkIs xs fl0 n l ∧ fl.getD l.arc 0 = fl0.getD l.arc 0 ∧ x ≤ l.room) → ws.Pairwise (fun l1 l2 => l1.arc ≠ l2.arc) →
      PushOk n x ws fl ∧ FlowIn xs (pushAll ws x fl) n ∧ ∀ node, outTo xs (pushAll ws x fl) node n = outTo xs fl node n + netX x node ws
  | [], fl, h, _, _ => ⟨trivial, h, fun node => by simp [pushAll, netX]⟩
  | l :: ws, fl, h, h2, h3 => by
    obtain ⟨k1, k2, k3⟩ := h2 l (by simp)
    obtain ⟨hlen, hin⟩ := h
    have ⟨a1, a2, a3⟩ := k1
    have hnew : FlowIn xs (pushOne fl l x) n := by
      refine ⟨by rw [pushOne_len]; exact hlen, fun k hk => ?_⟩
      unfold pushOne
      rw [getD_set' fl l.arc k _ (by omega)]
      by_cases e : l.arc = k
      · subst e
        rw [if_pos rfl, k2]
        have := hin l.arc hk
        rw [k2] at this
        have := hr l.arc hk
        rcases a3 with ⟨hb, _, _, e4⟩ | ⟨hb, _, _, e4⟩
        · have hby : l.by_ = 1 := by unfold LinkR.by_; rw [hb]; rfl
          rw [hby]; omega
        · have hby : l.by_ = -1 := by unfold LinkR.by_; rw [hb]; rfl
          rw [hby]; omega
      · rw [if_neg e]; exact hin k hk
    have h3' := List.pairwise_cons.1 h3
    obtain ⟨b1, b2, b3⟩ := push_inv hr x hx ws (pushOne fl l x) hnew (fun l2 hl2 => by
      obtain ⟨c1, c2, c3⟩ := h2 l2 (by simp [hl2])
      refine ⟨c1, ?_, c3⟩
      unfold pushOne
      rw [getD_set' fl l.arc l2.arc _ (by omega), if_neg (h3'.1 l2 hl2)]
      exact c2) h3'.2
    refine ⟨⟨a1, ?_, b1⟩, b2, fun node => ?_⟩
    · have := hin l.arc a1
      have := hr l.arc a1
      omega
    · rw [pushAll, b3 node, outTo_one k1 hlen x node, netX]
      omega
theorem netX_way {ls : List LinkR} {by_ : List Int} {N : Nat} {f : Int} (x : Int) : ∀ (ws : List LinkR) (at_ : Int), Path ls by_ N f ws at_ → (∀ l ∈ ws, l.to_ ≠ f) → netX x f ws = if ws = [] then 0 else x
  | [], _, _, _ => rfl
  | l :: ws, at_, h, h2 => by
    rw [Path] at h
    obtain ⟨_, _, _, h5⟩ := h
    have ih := netX_way x ws l.fr h5 (fun l' hl' => h2 l' (by simp [hl']))
    rw [netX, ih, if_neg (h2 l (by simp)), if_neg (List.cons_ne_nil _ _)]
    cases ws with
    | nil =>
      rw [Path] at h5
      rw [if_pos rfl, if_pos h5]; omega
    | cons l2 ws =>
      rw [Path] at h5
      rw [if_neg (List.cons_ne_nil _ _), if_neg h5.1]; omega

/-- what stands when a node is reached -/
theorem aug_ok {xs : List ArcR} {nodes : Int} {N F t n : Nat} {fl : List Int} (hN : nodes = N) (hv : validB nodes xs = true) (hn : xs.length = n) (hfl : FlowIn xs fl n) (hF : F < N) (ht : t < N) (hne : t ≠ F)
    (hby : (reachL (linksTo xs fl n) N F).getD t 0 ≠ -2) :
    ∃ ws, wayB (linksTo xs fl n) (reachL (linksTo xs fl n) N F) F N t = ws ∧ Path (linksTo xs fl n) (reachL (linksTo xs fl n) N F) N F ws t ∧ (∃ l ws', ws = l :: ws') ∧ (∀ l ∈ ws, 1 ≤ l.room ∧ l.room ≤ 1000000) ∧
      ∀ x, 0 ≤ x → (∀ l ∈ ws, x ≤ l.room) → PushOk n x ws fl ∧ FlowIn xs (pushAll ws x fl) n ∧ outTo xs (pushAll ws x fl) F n = outTo xs fl F n + x ∧ ∀ node, node ≠ (F : Int) → node ≠ (t : Int) → True := by
  subst hn
  have hls := linksTo_ok fl hN hv xs.length (Nat.le_refl _)
  have hok := bfs_ok hls hF N
  have hnd := bfs_nodup hls hF N
  obtain ⟨_, _, _, hb⟩ := valid_bd hv
  obtain ⟨p, hp, hpt⟩ := hok.inq t ht hby
  have hqN := bfs_len hls hF N
  have hp0 : 0 < p := by
    rcases Nat.eq_zero_or_pos p with h | h
    · subst h; rw [hok.q0] at hpt; omega
    · exact h
  obtain ⟨ws, w1, w2, _, w4, w5, w6⟩ := way_of hok hnd p p (Nat.le_refl _) hp
  rw [hpt] at w1
  have his : ∀ l ∈ ws, LinkIs xs fl xs.length l := fun l hl => linksTo_is xs fl xs.length l (w5 l hl).1
  have hrm : ∀ k, k < xs.length → 0 ≤ (xs.getD k default).room ∧ (xs.getD k default).room ≤ 1000000 := fun k hk => (hb k hk).2.2.2.1
  have hto : ∀ l ∈ ws, l.to_ ≠ (F : Int) := fun l hl e => by
    obtain ⟨_, i, j, h1, h2, _, h4⟩ := w5 l hl
    have := nodup_at hnd (show j < _ by omega) (show 0 < _ by omega) (by rw [h4, hok.q0, e])
    omega
  have hpw : ws.Pairwise (fun l1 l2 => l1.arc ≠ l2.arc) := by
    refine List.Pairwise.imp_of_mem ?_ w6
    rintro l1 l2 m1 m2 ⟨i, j, j', h1, h2, h3, h4, h5, h6, i', h7, h8⟩ e
    obtain ⟨_, _, a⟩ := his l1 m1
    obtain ⟨_, _, b⟩ := his l2 m2
    rw [e] at a
    rcases a with ⟨_, a1, a2, _⟩ | ⟨_, a1, a2, _⟩ <;> rcases b with ⟨_, b1, b2, _⟩ | ⟨_, b1, b2, _⟩
    · have := nodup_at hnd (show j < _ by omega) (show j' < _ by omega) (by rw [h4, h6, a2, b2]); omega
    · have := nodup_at hnd (show j < _ by omega) (show i' < _ by omega) (by rw [h4, h8, a2, b1]); omega
    · have := nodup_at hnd (show j < _ by omega) (show i' < _ by omega) (by rw [h4, h8, a2, b1]); omega
    · have := nodup_at hnd (show j < _ by omega) (show j' < _ by omega) (by rw [h4, h6, a2, b2]); omega
  obtain ⟨l, ws', hws⟩ := w4 hp0
  refine ⟨ws, wayB_path N ws t w1 (by omega), w1, ⟨l, ws', hws⟩, fun l hl => ?_, fun x hx hx2 => ?_⟩
  · obtain ⟨a1, a2, a3⟩ := his l hl
    have := hrm l.arc a1
    have := hfl.2 l.arc a1
    rcases a3 with ⟨_, _, _, e⟩ | ⟨_, _, _, e⟩ <;> omega
  · obtain ⟨p1, p2, p3⟩ := push_inv hrm x hx ws fl hfl (fun l hl => ⟨his l hl, rfl, hx2 l hl⟩) hpw
    refine ⟨p1, p2, ?_, fun _ _ _ => trivial⟩
    rw [p3, netX_way x ws t w1 hto, if_neg (by rw [hws]; exact List.cons_ne_nil _ _)]

/-- a greatest flow: rounds -/
def greatRun (xs : List ArcR) (n N F t : Nat) : Nat → List Int → Int → List Int × Int
  | 0, fl, a => (fl, a)
  | k + 1, fl, a => if (reachL (linksTo xs fl n) N F).getD t 0 = -2 then (fl, a) else greatRun xs n N F t k (pushAll (wayB (linksTo xs fl n) (reachL (linksTo xs fl n) N F) F N t) (amtOf (wayB (linksTo xs fl n) (reachL (linksTo xs fl n) N F) F N t) 100000000) fl) (a + amtOf (wayB (linksTo xs fl n) (reachL (linksTo xs fl n) N F) F N t) 100000000)
theorem great_end {xs : List ArcR} {n N F t k : Nat} {fl : List Int} {a : Int} (h : (reachL (linksTo xs fl n) N F).getD t 0 = -2) : greatRun xs n N F t k fl a = (fl, a) := by
  cases k with
  | zero => rfl
  | succ k => rw [greatRun, if_pos h]
theorem great_step {xs : List ArcR} {n N F t k : Nat} {fl : List Int} {a : Int} {ws : List LinkR} (h : (reachL (linksTo xs fl n) N F).getD t 0 ≠ -2) (hw : wayB (linksTo xs fl n) (reachL (linksTo xs fl n) N F) F N t = ws) : greatRun xs n N F t (k + 1) fl a = greatRun xs n N F t k (pushAll ws (amtOf ws 100000000) fl) (a + amtOf ws 100000000) := by
  rw [greatRun, if_neg h, hw]
/-- rounds enough -/
def greatG : Nat := 48000001
def greatL (xs : List ArcR) (N F t : Nat) : List Int × Int := greatRun xs xs.length N F t greatG (List.replicate xs.length 0) 0
theorem flow_zero {xs : List ArcR} {n : Nat} (hr : ∀ k, k < n → 0 ≤ (xs.getD k default).room) : FlowIn xs (List.replicate n 0) n := by
  refine ⟨by simp, fun k hk => ?_⟩
  have : (List.replicate n (0 : Int)).getD k 0 = 0 := by simp [List.getD, hk]
  rw [this]
  exact ⟨Int.le_refl _, hr k hk⟩
theorem out_zero (xs : List ArcR) (n : Nat) (node : Int) : ∀ k, k ≤ n → outTo xs (List.replicate n 0) node k = 0
  | 0, _ => rfl
  | k + 1, h => by
    have : (List.replicate n (0 : Int)).getD k 0 = 0 := by simp [List.getD, show k < n by omega]
    rw [outTo_succ, out_zero xs n node k (by omega), this]
    simp
end Go.Proofs.Ytnljfhmdjhppmaa

namespace Go.Proofs.Ytnljfhmdjhppmaa
open Go.RowKit

theorem ret_LBc {A : Option Addr} {n c : Nat} {a b : Bool} (h : a = b) : Ending.returned (.tuple #[.slice A n c, .bool a]) = .returned (.tuple #[.slice A n c, .bool b]) := by rw [h]
/-- the first k nodes that are reached -/
def cutLTo (by_ : List Int) (k : Nat) : List Int := ((List.range k).filter fun v => by_.getD v 0 != -2).map fun (v : Nat) => (v : Int)
theorem cutLTo_succ (by_ : List Int) (k : Nat) : cutLTo by_ (k + 1) = if (by_.getD k 0 != -2) = true then cutLTo by_ k ++ [(k : Int)] else cutLTo by_ k := by
  unfold cutLTo
  rw [List.range_succ, List.filter_append, List.map_append]
  simp only [List.filter_cons, List.filter_nil]
  cases h : (by_.getD k 0 != -2)
  · rw [if_neg (by decide), if_neg (by decide)]; simp
  · rw [if_pos rfl, if_pos rfl]; rfl
theorem cutLTo_len (by_ : List Int) (k : Nat) : (cutLTo by_ k).length ≤ k := by
  unfold cutLTo
  rw [List.length_map]
  exact Nat.le_trans (List.length_filter_le _ _) (by simp)

def cutLV (nodes : Int) (xs : List ArcR) (fl : List Int) (f : Int) : List Int := if flowAB nodes xs fl f = true then cutLTo (reachL (linksTo xs fl xs.length) nodes.toNat f.toNat) nodes.toNat else []
theorem cutLV_no {nodes : Int} {xs : List ArcR} {fl : List Int} {f : Int} (h : flowAB nodes xs fl f = false) : cutLV nodes xs fl f = [] := by unfold cutLV; rw [if_neg (by rw [h]; decide)]
theorem cutLV_yes {nodes : Int} {xs : List ArcR} {fl : List Int} {f : Int} (h : flowAB nodes xs fl f = true) : cutLV nodes xs fl f = cutLTo (reachL (linksTo xs fl xs.length) nodes.toNat f.toNat) nodes.toNat := by unfold cutLV; rw [if_pos h]
theorem cutLV_len (nodes : Int) (xs : List ArcR) (fl : List Int) (f : Int) : (cutLV nodes xs fl f).length ≤ 1048576 := by
  cases h : flowAB nodes xs fl f
  · rw [cutLV_no h]; simp
  · rw [cutLV_yes h]
    have := cutLTo_len (reachL (linksTo xs fl xs.length) nodes.toNat f.toNat) nodes.toNat
    unfold flowAB at h
    rw [Bool.and_eq_true] at h
    obtain ⟨h1, _⟩ := h
    obtain ⟨_, b, _⟩ := valid_bd (flow_bd h1).1
    omega
theorem flow_all_bd {nodes : Int} {xs : List ArcR} {fl : List Int} {n : Nat} (hl : xs.length = n) (h : flowB nodes xs fl = true) : n ≤ 48 ∧ fl.length = n ∧ ∀ k, k < n → (0 ≤ fl.getD k 0 ∧ fl.getD k 0 ≤ 1000000) ∧ (0 ≤ (xs.getD k default).room ∧ (xs.getD k default).room ≤ 1000000) ∧ (-1000 ≤ (xs.getD k default).cost ∧ (xs.getD k default).cost ≤ 1000) := by
  subst hl
  obtain ⟨h1, h2, h3⟩ := flow_bd h
  obtain ⟨_, _, h4, h5⟩ := valid_bd h1
  exact ⟨h4, h2, fun k hk => ⟨⟨(h3 k hk).1, (h3 k hk).2.2⟩, (h5 k hk).2.2.2.1, (h5 k hk).2.2.2.2⟩⟩



end Go.Proofs.Ytnljfhmdjhppmaa

namespace Go.Proofs.Ytnljfhmdjhppmaa
open Go.RowKit

theorem sumI_ind (R : Nat → Bool) {N : Nat} {a : Int} (h0 : 0 ≤ a) (h1 : a < N) (y : Int) : sumI (fun v => if R v then (if a = (v : Int) then y else 0) else 0) N = if R a.toNat then y else 0 := by
  obtain ⟨a, rfl⟩ := Int.eq_ofNat_of_zero_le h0
  rw [Int.toNat_natCast]
  have e : ∀ v, v < N → (if R v then (if (a : Int) = (v : Int) then y else 0) else 0) = if a = v then (if R a then y else 0) else 0 := by
    intro v _
    by_cases h : a = v
    · subst h; rw [if_pos rfl, if_pos rfl]
    · rw [if_neg h, if_neg (show ¬ (a : Int) = v by omega)]; simp
  rw [sumI_congr N e, sumI_one, if_pos (by omega)]

/-- what crosses out of a set, less what crosses in -/
def crossI (xs : List ArcR) (fl : List Int) (R : Nat → Bool) (i : Nat) : Int :=
  (if R (xs.getD i default).fr.toNat && !R (xs.getD i default).to_.toNat then fl.getD i 0 else 0) - (if !R (xs.getD i default).fr.toNat && R (xs.getD i default).to_.toNat then fl.getD i 0 else 0)
def EndsOk (xs : List ArcR) (n N : Nat) : Prop := ∀ k, k < n → (0 ≤ (xs.getD k default).fr ∧ (xs.getD k default).fr < N) ∧ (0 ≤ (xs.getD k default).to_ ∧ (xs.getD k default).to_ < N)
theorem valid_ends {N : Nat} {xs : List ArcR} (h : validB N xs = true) : EndsOk xs xs.length N := by
  obtain ⟨_, _, _, hb⟩ := valid_bd h
  exact fun k hk => ⟨(hb k hk).1, (hb k hk).2.1⟩
theorem cross_eq {xs : List ArcR} {N : Nat} (fl : List Int) (R : Nat → Bool) : ∀ n, EndsOk xs n N → sumI (fun v => if R v then outTo xs fl (v : Int) n else 0) N = sumI (crossI xs fl R) n
  | 0, _ => by
    have e : ∀ v, v < N → (if R v then outTo xs fl (v : Int) 0 else 0) = 0 := fun v _ => by simp [outTo]
    rw [sumI_congr N e, sumI_zero]; rfl
  | n + 1, h => by
    obtain ⟨⟨a0, a1⟩, b0, b1⟩ := h n (by omega)
    have ih := cross_eq fl R n fun k hk => h k (by omega)
    have e : ∀ v, v < N → (if R v then outTo xs fl (v : Int) (n + 1) else 0) = ((if R v then outTo xs fl (v : Int) n else 0) + (if R v then (if (xs.getD n default).fr = (v : Int) then fl.getD n 0 else 0) else 0)) - (if R v then (if (xs.getD n default).to_ = (v : Int) then fl.getD n 0 else 0) else 0) := by
      intro v _
      cases R v
      · simp
      · rw [if_pos rfl, if_pos rfl, if_pos rfl, if_pos rfl, outTo_succ]
    rw [sumI_congr N e, sumI_sub, sumI_add, ih, sumI_ind R a0 a1, sumI_ind R b0 b1, sumI, crossI]
    cases R (xs.getD n default).fr.toNat <;> cases R (xs.getD n default).to_.toNat <;> simp <;> omega
/-- a sum with one or two nodes that are no zeros -/
theorem sum_bal {R : Nat → Bool} {g : Nat → Int} {F : Nat} : ∀ {N : Nat}, F < N → R F = true → (∀ v, v < N → v ≠ F → R v = true → g v = 0) → sumI (fun v => if R v then g v else 0) N = g F := by
  intro N hF hR h
  have e : ∀ v, v < N → (if R v then g v else 0) = if F = v then g F else 0 := by
    intro v hv
    by_cases hvF : F = v
    · subst hvF; rw [if_pos hR, if_pos rfl]
    · rw [if_neg hvF]
      cases hr : R v
      · rfl
      · rw [if_pos rfl]; exact h v hv (fun e => hvF e.symm) hr
  rw [sumI_congr N e, sumI_one, if_pos hF]

/-- no link leads out of what is reached -/
theorem bfs_closed {ls : List LinkR} {N f : Nat} (hls : LinksOk ls N) (hf : f < N) :
    (∀ i, ∀ p, p < i → p < (bfsTo ls N f i).2.length → ∀ k, k < ls.length → (ls.getD k default).fr = (bfsTo ls N f i).2.getD p 0 → (bfsTo ls N f i).1.getD (ls.getD k default).to_.toNat 0 ≠ -2) := by
  have mono : ∀ (u : Int) (st : List Int × List Int), st.1.length = N → ∀ k, k ≤ ls.length → (∀ v : Nat, st.1.getD v 0 ≠ -2 → (scanTo ls u st k).1.getD v 0 ≠ -2) ∧ (scanTo ls u st k).1.length = N ∧ (∃ ys, (scanTo ls u st k).2 = st.2 ++ ys) := by
    intro u st hst k
    induction k with
    | zero => intro _; exact ⟨fun v h => h, hst, [], by simp [scanTo]⟩
    | succ k ih =>
      intro hk
      obtain ⟨h1, h2, ys, h3⟩ := ih (by omega)
      rw [scanTo]
      split
      · refine ⟨fun v hv => ?_, by simp [h2], ys ++ [(ls.getD k default).to_], by simp [h3]⟩
        obtain ⟨_, b0, b1⟩ := hls k (by omega)
        show ((scanTo ls u st k).1.set (ls.getD k default).to_.toNat (k : Int)).getD v 0 ≠ -2
        rw [getD_set' _ _ v _ (by rw [h2]; omega)]
        split
        · omega
        · exact h1 v hv
      · exact ⟨h1, h2, ys, h3⟩
  have full : ∀ (u : Int) (st : List Int × List Int), st.1.length = N → ∀ k, k ≤ ls.length → ∀ j, j < k → (ls.getD j default).fr = u → (scanTo ls u st k).1.getD (ls.getD j default).to_.toNat 0 ≠ -2 := by
    intro u st hst k
    induction k with
    | zero => intro _ j hj; omega
    | succ k ih =>
      intro hk j hj hu
      obtain ⟨_, b0, b1⟩ := hls j (by omega)
      obtain ⟨m1, m2, _⟩ := mono u st hst k (by omega)
      rw [scanTo]
      by_cases e : j = k
      · subst e
        by_cases h2 : (scanTo ls u st j).1.getD (ls.getD j default).to_.toNat 0 = -2
        · rw [if_pos ⟨hu, h2⟩]
          show ((scanTo ls u st j).1.set (ls.getD j default).to_.toNat (j : Int)).getD (ls.getD j default).to_.toNat 0 ≠ -2
          rw [getD_set' _ _ _ _ (by rw [m2]; omega), if_pos rfl]; omega
        · rw [if_neg (fun h => h2 h.2)]; exact h2
      · have := ih (by omega) j (by omega) hu
        split
        · obtain ⟨_, c0, c1⟩ := hls k (by omega)
          show ((scanTo ls u st k).1.set (ls.getD k default).to_.toNat (k : Int)).getD (ls.getD j default).to_.toNat 0 ≠ -2
          rw [getD_set' _ _ _ _ (by rw [m2]; omega)]
          split
          · omega
          · exact this
        · exact this
  intro i
  induction i with
  | zero => intro p hp; omega
  | succ i ih =>
    intro p hp hlen k hk hfr
    have hok := bfs_ok hls hf i
    by_cases hi : i < (bfsTo ls N f i).2.length
    · rw [bfs_step hi] at hlen hfr ⊢
      obtain ⟨m1, m2, ys, m3⟩ := mono ((bfsTo ls N f i).2.getD i 0) (bfsTo ls N f i) hok.len ls.length (Nat.le_refl _)
      rw [m3] at hfr
      by_cases e : p = i
      · subst e
        refine full _ _ hok.len _ (Nat.le_refl _) k hk ?_
        rw [hfr]
        simp [List.getD, List.getElem?_append_left hi]
      · have hp2 : p < (bfsTo ls N f i).2.length := by omega
        refine m1 _ (ih p (by omega) hp2 k hk ?_)
        rw [hfr]
        simp [List.getD, List.getElem?_append_left hp2]
    · have e : bfsTo ls N f (i + 1) = bfsTo ls N f i := by rw [bfsTo, if_neg hi]
      rw [e] at hlen hfr ⊢
      exact ih p (by omega) hlen k hk hfr
theorem reach_closed {ls : List LinkR} {N f : Nat} (hls : LinksOk ls N) (hf : f < N) {l : LinkR} (hl : l ∈ ls) (h : (reachL ls N f).getD l.fr.toNat 0 ≠ -2) : (reachL ls N f).getD l.to_.toNat 0 ≠ -2 := by
  obtain ⟨k, hk, rfl⟩ := List.mem_iff_getElem.1 hl
  have e : ls[k] = ls.getD k default := by simp [List.getD, List.getElem?_eq_getElem hk]
  rw [e] at h ⊢
  have hok := bfs_ok hls hf N
  obtain ⟨⟨a0, a1⟩, _⟩ := hls k hk
  obtain ⟨p, hp, hpe⟩ := hok.inq _ (show (ls.getD k default).fr.toNat < N by omega) h
  have := bfs_len hls hf N
  exact bfs_closed hls hf N p (by omega) hp k hk (by rw [hpe]; omega)
theorem reach_from {ls : List LinkR} {N f : Nat} (hls : LinksOk ls N) (hf : f < N) : (reachL ls N f).getD f 0 ≠ -2 := by
  have := (bfs_ok hls hf N).fby
  rw [reachL, this]; decide
end Go.Proofs.Ytnljfhmdjhppmaa
