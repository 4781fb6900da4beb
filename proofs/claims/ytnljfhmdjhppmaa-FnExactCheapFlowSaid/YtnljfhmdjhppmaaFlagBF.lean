/- Least ways from a node by rounds: with the times of the changes, and prices that fit. In plain numbers. -/
import Derived.Test.YtnljfhmdjhppmaaNegCyc
namespace Go.Proofs.Ytnljfhmdjhppmaa
open Go.RowKit

/-- the times of the last changes behind the first j links of round r -/
def tTo (ls : List LinkR) (s : LeastS) (t : List Nat) (r : Nat) : Nat → List Nat
  | 0 => t
  | j + 1 => if leastGo (leastTo ls s j) (ls.getD j default) = true then (tTo ls s t r j).set (ls.getD j default).to_.toNat (r * ls.length + j + 1) else tTo ls s t r j
def tR (ls : List LinkR) (s0 : LeastS) (N : Nat) : Nat → List Nat
  | 0 => List.replicate N 0
  | r + 1 => tTo ls (leastR ls s0 r) (tR ls s0 N r) r ls.length
def srcS (N f : Nat) : LeastS := ⟨List.replicate N 0, (List.replicate N false).set f true, (List.replicate N (-2)).set f (-1), -1⟩
def lk (ls : List LinkR) (t : List Nat) (v : Nat) : LinkR := ls.getD ((t.getD v 0 - 1) % ls.length) default
/-- prices that fit: no left over arc is cheaper than the prices' difference -/
def Fits (ls : List LinkR) (π : Nat → Int) : Prop := ∀ k, k < ls.length → π (ls.getD k default).to_.toNat ≤ π (ls.getD k default).fr.toNat + (ls.getD k default).cost
structure FlOk (ls : List LinkR) (N f : Nat) (π : Nat → Int) (s : LeastS) (t : List Nat) (r j : Nat) : Prop where
  dl : s.d.length = N
  kl : s.k.length = N
  bl : s.b.length = N
  tl : t.length = N
  now : ∀ v, v < N → t.getD v 0 ≤ r * ls.length + j
  known : ∀ v, v < N → (s.k.getD v false = true ↔ (v = f ∨ 0 < t.getD v 0))
  tf : t.getD f 0 = 0
  df : s.d.getD f 0 = 0
  pot : ∀ v, v < N → s.k.getD v false = true → π v - π f ≤ s.d.getD v 0
  J : ∀ k, k < ls.length → 0 < seenAt ls.length r j k → leastGo s (ls.getD k default) = true → seenAt ls.length r j k < t.getD (ls.getD k default).fr.toNat 0
  W : ∀ v, v < N → 0 < t.getD v 0 → (t.getD v 0 - 1) % ls.length < ls.length ∧ (lk ls t v).to_ = v ∧ s.k.getD (lk ls t v).fr.toNat false = true ∧ s.b.getD v 0 = (((t.getD v 0 - 1) % ls.length : Nat) : Int) ∧ s.d.getD (lk ls t v).fr.toNat 0 + (lk ls t v).cost ≤ s.d.getD v 0 ∧ (t.getD v 0 < t.getD (lk ls t v).fr.toNat 0 → s.d.getD (lk ls t v).fr.toNat 0 + (lk ls t v).cost < s.d.getD v 0) ∧ (ls.length < t.getD v 0 → t.getD v 0 < t.getD (lk ls t v).fr.toNat 0 + ls.length)
theorem go_iff {s : LeastS} {l : LinkR} : leastGo s l = true ↔ s.k.getD l.fr.toNat false = true ∧ (s.k.getD l.to_.toNat false = false ∨ s.d.getD l.fr.toNat 0 + l.cost < s.d.getD l.to_.toNat 0) := by
  unfold leastGo
  rw [Bool.and_eq_true, Bool.or_eq_true, Bool.not_eq_true', decide_eq_true_iff]
theorem fl_step {ls : List LinkR} {N f : Nat} {π : Nat → Int} {s : LeastS} {t : List Nat} {r j : Nat} (hls : LinksOk ls N) (hne : ∀ k, k < ls.length → (ls.getD k default).fr ≠ (ls.getD k default).to_) (hπ : Fits ls π) (hf : f < N) (hj : j < ls.length) (h : FlOk ls N f π s t r j) :
    FlOk ls N f π (leastStep s (ls.getD j default) j) (if leastGo s (ls.getD j default) = true then t.set (ls.getD j default).to_.toNat (r * ls.length + j + 1) else t) r (j + 1) := by
  obtain ⟨⟨a0, a1⟩, ⟨b0, b1⟩⟩ := hls j hj
  have hnej := hne j hj
  have hπj := hπ j hj
  unfold leastStep
  by_cases hgo : leastGo s (ls.getD j default) = true
  · rw [if_pos hgo, if_pos hgo]
    obtain ⟨hkf, hbad⟩ := go_iff.1 hgo
    have hpf := h.pot (ls.getD j default).fr.toNat (by omega) hkf
    have htof : (ls.getD j default).to_.toNat ≠ f := fun e => by
      rcases hbad with hb | hb
      · have := (h.known f hf).2 (.inl rfl)
        rw [e] at hb
        rw [hb] at this; cases this
      · rw [e, h.df] at hb
        rw [e] at hπj
        omega
    have hsd : ∀ v, (s.d.set (ls.getD j default).to_.toNat (s.d.getD (ls.getD j default).fr.toNat 0 + (ls.getD j default).cost)).getD v 0 = if (ls.getD j default).to_.toNat = v then s.d.getD (ls.getD j default).fr.toNat 0 + (ls.getD j default).cost else s.d.getD v 0 := fun v => getD_set' _ _ v _ (by rw [h.dl]; omega)
    have hst : ∀ v, (t.set (ls.getD j default).to_.toNat (r * ls.length + j + 1)).getD v 0 = if (ls.getD j default).to_.toNat = v then r * ls.length + j + 1 else t.getD v 0 := fun v => getD_setN _ _ v _ (by rw [h.tl]; omega)
    have hsk : ∀ v, (s.k.set (ls.getD j default).to_.toNat true).getD v false = if (ls.getD j default).to_.toNat = v then true else s.k.getD v false := fun v => getD_setB _ _ v _ (by rw [h.kl]; omega)
    have hsb : ∀ v, (s.b.set (ls.getD j default).to_.toNat (j : Int)).getD v 0 = if (ls.getD j default).to_.toNat = v then (j : Int) else s.b.getD v 0 := fun v => getD_set' _ _ v _ (by rw [h.bl]; omega)
    generalize hl : ls.getD j default = l at *
    refine ⟨by show (s.d.set _ _).length = N; rw [List.length_set]; exact h.dl, by show (s.k.set _ _).length = N; rw [List.length_set]; exact h.kl, by show (s.b.set _ _).length = N; rw [List.length_set]; exact h.bl, by rw [List.length_set]; exact h.tl, fun v hv => ?_, fun v hv => ?_, ?_, ?_, fun v hv hk => ?_, fun k hk h0 hlt => ?_, fun v hv h0 => ?_⟩
    · rw [hst v]
      have := h.now v hv
      split <;> omega
    · show (s.k.set l.to_.toNat true).getD v false = true ↔ _
      rw [hsk, hst]
      by_cases e : l.to_.toNat = v
      · rw [if_pos e, if_pos e]; exact ⟨fun _ => .inr (by omega), fun _ => rfl⟩
      · rw [if_neg e, if_neg e]; exact h.known v hv
    · rw [hst, if_neg htof]; exact h.tf
    · show (s.d.set l.to_.toNat _).getD f 0 = 0
      rw [hsd, if_neg htof]; exact h.df
    · have hk : (s.k.set l.to_.toNat true).getD v false = true := hk
      show π v - π f ≤ (s.d.set l.to_.toNat _).getD v 0
      rw [hsk] at hk
      rw [hsd]
      by_cases e : l.to_.toNat = v
      · rw [if_pos e]; rw [e] at hπj; omega
      · rw [if_neg e] at hk ⊢; exact h.pot v hv hk
    · obtain ⟨⟨c0, c1⟩, ⟨e0, e1⟩⟩ := hls k hk
      obtain ⟨g1, g2⟩ := go_iff.1 hlt
      replace g1 : (s.k.set l.to_.toNat true).getD (ls.getD k default).fr.toNat false = true := g1
      replace g2 : (s.k.set l.to_.toNat true).getD (ls.getD k default).to_.toNat false = false ∨ (s.d.set l.to_.toNat (s.d.getD l.fr.toNat 0 + l.cost)).getD (ls.getD k default).fr.toNat 0 + (ls.getD k default).cost < (s.d.set l.to_.toNat (s.d.getD l.fr.toNat 0 + l.cost)).getD (ls.getD k default).to_.toNat 0 := g2
      rw [hsk] at g1
      rw [hsk, hsd, hsd] at g2
      rw [hst]
      by_cases e : k = j
      · subst e
        exfalso
        rw [hl, if_pos rfl, if_pos rfl, if_neg (by omega)] at g2
        rcases g2 with g2 | g2
        · cases g2
        · omega
      · rw [seenAt_step e] at h0 ⊢
        have hsn := seenAt_lt (M := ls.length) (r := r) (j := j) hk (by omega)
        by_cases e2 : l.to_.toNat = (ls.getD k default).fr.toNat
        · rw [if_pos e2]; omega
        · rw [if_neg e2] at g1 g2 ⊢
          by_cases e3 : l.to_.toNat = (ls.getD k default).to_.toNat
          · rw [if_pos e3, if_pos e3] at g2
            refine h.J k hk h0 (go_iff.2 ⟨g1, ?_⟩)
            rw [← e3]
            rcases g2 with g2 | g2
            · cases g2
            · rcases hbad with hb | hb
              · exact .inl hb
              · exact .inr (by omega)
          · rw [if_neg e3, if_neg e3] at g2
            exact h.J k hk h0 (go_iff.2 ⟨g1, g2⟩)
    · by_cases e : l.to_.toNat = v
      · have hv1 : (t.set l.to_.toNat (r * ls.length + j + 1)).getD v 0 = r * ls.length + j + 1 := by rw [hst, if_pos e]
        have hmod : (r * ls.length + j + 1 - 1) % ls.length = j := by
          rw [Nat.add_sub_cancel, Nat.mul_comm, Nat.mul_add_mod]; exact Nat.mod_eq_of_lt hj
        have hlk : lk ls (t.set l.to_.toNat (r * ls.length + j + 1)) v = l := by unfold lk; rw [hv1, hmod, hl]
        rw [hlk, hv1, hmod]
        show j < ls.length ∧ l.to_ = v ∧ (s.k.set l.to_.toNat true).getD l.fr.toNat false = true ∧ (s.b.set l.to_.toNat (j : Int)).getD v 0 = (j : Int) ∧ (s.d.set l.to_.toNat _).getD l.fr.toNat 0 + l.cost ≤ (s.d.set l.to_.toNat _).getD v 0 ∧ (_ → (s.d.set l.to_.toNat _).getD l.fr.toNat 0 + l.cost < (s.d.set l.to_.toNat _).getD v 0) ∧ _
        rw [hsk, hsb, hsd, hsd, hst, if_pos e, if_pos e, if_neg (by omega), if_neg (by omega), if_neg (by omega)]
        refine ⟨hj, by omega, hkf, rfl, Int.le_refl _, fun hlt => ?_, fun hM => ?_⟩
        · have := h.now l.fr.toNat (by omega); omega
        · have hr : r ≠ 0 := fun hr0 => by rw [hr0] at hM; omega
          have hold := seenAt_old ls.length r j
          rw [if_neg hr] at hold
          have := h.J j hj (by rw [hold]; omega) (by rw [hl]; exact hgo)
          rw [hold, hl] at this
          obtain ⟨r', rfl⟩ : ∃ r', r = r' + 1 := ⟨r - 1, by omega⟩
          rw [Nat.add_sub_cancel] at this
          rw [Nat.succ_mul]
          omega
      · have hv1 : (t.set l.to_.toNat (r * ls.length + j + 1)).getD v 0 = t.getD v 0 := by rw [hst, if_neg e]
        have hlk : lk ls (t.set l.to_.toNat (r * ls.length + j + 1)) v = lk ls t v := by unfold lk; rw [hv1]
        rw [hv1] at h0
        rw [hlk, hv1]
        obtain ⟨p1, p2, p3, p4, p5, p6, p7⟩ := h.W v hv h0
        show _ ∧ _ ∧ (s.k.set l.to_.toNat true).getD (lk ls t v).fr.toNat false = true ∧ (s.b.set l.to_.toNat (j : Int)).getD v 0 = _ ∧ (s.d.set l.to_.toNat _).getD (lk ls t v).fr.toNat 0 + (lk ls t v).cost ≤ (s.d.set l.to_.toNat _).getD v 0 ∧ (_ → (s.d.set l.to_.toNat _).getD (lk ls t v).fr.toNat 0 + (lk ls t v).cost < (s.d.set l.to_.toNat _).getD v 0) ∧ _
        rw [hsk, hsb, hsd, hsd, hst, if_neg e, if_neg e]
        by_cases e2 : l.to_.toNat = (lk ls t v).fr.toNat
        · have hlt : s.d.getD l.fr.toNat 0 + l.cost < s.d.getD (lk ls t v).fr.toNat 0 := by
            rcases hbad with hb | hb
            · rw [e2, p3] at hb; cases hb
            · rw [← e2]; exact hb
          rw [if_pos e2, if_pos e2, if_pos e2]
          exact ⟨p1, p2, rfl, p4, by omega, fun _ => by omega, fun _ => by have := h.now v hv; omega⟩
        · rw [if_neg e2, if_neg e2, if_neg e2]
          exact ⟨p1, p2, p3, p4, p5, p6, p7⟩
  · rw [if_neg hgo, if_neg hgo]
    refine ⟨h.dl, h.kl, h.bl, h.tl, fun v hv => by have := h.now v hv; omega, h.known, h.tf, h.df, h.pot, fun k hk h0 hlt => ?_, h.W⟩
    by_cases e : k = j
    · subst e; exact absurd hlt hgo
    · rw [seenAt_step e] at h0 ⊢
      exact h.J k hk h0 hlt
theorem fl_to {ls : List LinkR} {N f : Nat} {π : Nat → Int} {s : LeastS} {t : List Nat} {r : Nat} (hls : LinksOk ls N) (hne : ∀ k, k < ls.length → (ls.getD k default).fr ≠ (ls.getD k default).to_) (hπ : Fits ls π) (hf : f < N) (h : FlOk ls N f π s t r 0) : ∀ j, j ≤ ls.length → FlOk ls N f π (leastTo ls s j) (tTo ls s t r j) r j
  | 0, _ => ⟨h.dl, h.kl, h.bl, h.tl, h.now, h.known, h.tf, h.df, h.pot, h.J, h.W⟩
  | j + 1, hj => by
    rw [leastTo, tTo]
    exact fl_step hls hne hπ hf (by omega) (fl_to hls hne hπ hf h j (by omega))
theorem fl_next {ls : List LinkR} {N f : Nat} {π : Nat → Int} {s : LeastS} {t : List Nat} {r : Nat} (h : FlOk ls N f π s t r ls.length) : FlOk ls N f π s t (r + 1) 0 := by
  have hs : ∀ k, k < ls.length → seenAt ls.length (r + 1) 0 k = seenAt ls.length r ls.length k := fun k hk => by
    unfold seenAt
    rw [if_neg (by omega), if_neg (by omega), if_pos hk, Nat.add_sub_cancel]
  refine ⟨h.dl, h.kl, h.bl, h.tl, fun v hv => by have := h.now v hv; rw [Nat.succ_mul]; omega, h.known, h.tf, h.df, h.pot, fun k hk h0 hlt => ?_, h.W⟩
  rw [hs k hk] at h0 ⊢
  exact h.J k hk h0 hlt
theorem fl_r {ls : List LinkR} {N f : Nat} {π : Nat → Int} (hls : LinksOk ls N) (hne : ∀ k, k < ls.length → (ls.getD k default).fr ≠ (ls.getD k default).to_) (hπ : Fits ls π) (hf : f < N) : ∀ r, FlOk ls N f π (leastR ls (srcS N f) r) (tR ls (srcS N f) N r) r 0
  | 0 => by
    have ht : ∀ v, v < N → (List.replicate N (0 : Nat)).getD v 0 = 0 := fun v hv => by simp [List.getD, hv]
    have hd : ∀ v, v < N → (List.replicate N (0 : Int)).getD v 0 = 0 := fun v hv => by simp [List.getD, hv]
    have hk : ∀ v, v < N → ((List.replicate N false).set f true).getD v false = decide (f = v) := fun v hv => by
      rw [getD_setB _ _ v _ (by simpa using hf)]
      by_cases e : f = v
      · simp [e]
      · simp [e, List.getD, hv]
    refine ⟨by simp [leastR, srcS], by simp [leastR, srcS], by simp [leastR, srcS], by simp [tR], fun v hv => ?_, fun v hv => ?_, ht f hf, hd f hf, fun v hv h => ?_, fun k hk h0 => ?_, fun v hv h0 => ?_⟩
    · show (List.replicate N (0 : Nat)).getD v 0 ≤ _
      rw [ht v hv]; exact Nat.zero_le _
    · show ((List.replicate N false).set f true).getD v false = true ↔ v = f ∨ 0 < (List.replicate N (0 : Nat)).getD v 0
      rw [hk v hv, ht v hv, decide_eq_true_iff]
      constructor
      · intro e; exact .inl e.symm
      · rintro (e | e)
        · exact e.symm
        · omega
    · have h : ((List.replicate N false).set f true).getD v false = true := h
      rw [hk v hv, decide_eq_true_iff] at h
      subst h
      show π f - π f ≤ (List.replicate N (0 : Int)).getD f 0
      rw [hd f hf]; omega
    · rw [show seenAt ls.length 0 0 k = 0 by simp [seenAt]] at h0; omega
    · have h0' : 0 < (List.replicate N (0 : Nat)).getD v 0 := h0
      rw [ht v hv] at h0'; omega
  | r + 1 => by
    rw [leastR, tR]
    exact fl_next (fl_to hls hne hπ hf (fl_r hls hne hπ hf r) ls.length (Nat.le_refl _))
end Go.Proofs.Ytnljfhmdjhppmaa
