/- The program's rounds and the reference's, in plain lists. -/
import Derived.Test.YtjjciebioagkhaaLongsPlain
import Derived.Test.YtjjciebioagkhaaLeastPlain
namespace Go.Proofs.Ytjjciebioagkhaa
open Go.RowKit

def longLk (a : ArcR) : LinkR := ⟨0, false, a.fr, a.to_, 0, a.cost⟩
def longLs (xs : List ArcR) : List LinkR := xs.map longLk
theorem longLs_get {xs : List ArcR} {k : Nat} (h : k < xs.length) : (longLs xs).getD k default = longLk (xs.getD k default) := by
  simp [longLs, List.getD, List.getElem?_eq_getElem h]
structure RelD (N : Nat) (s : LeastS) (D : List Int) : Prop where
  dl : s.d.length = N
  kl : s.k.length = N
  Dl : D.length = N
  k : ∀ v, v < N → s.k.getD v false = decide (0 ≤ D.getD v 0)
  d : ∀ v, v < N → 0 ≤ D.getD v 0 → s.d.getD v 0 = D.getD v 0
theorem rel_step {N : Nat} {xs : List ArcR} {s : LeastS} {D : List Int} {j : Nat} (h : RelD N s D) (hf : 0 ≤ (xs.getD j default).fr ∧ (xs.getD j default).fr < N) (ht : 0 ≤ (xs.getD j default).to_ ∧ (xs.getD j default).to_ < N) (hc : 0 ≤ (xs.getD j default).cost) :
    RelD N (leastStep s (longLk (xs.getD j default)) j) (if 0 ≤ D.getD (xs.getD j default).fr.toNat 0 ∧ (D.getD (xs.getD j default).to_.toNat 0 < 0 ∨ D.getD (xs.getD j default).fr.toNat 0 + (xs.getD j default).cost < D.getD (xs.getD j default).to_.toNat 0)
      then D.set (xs.getD j default).to_.toNat (D.getD (xs.getD j default).fr.toNat 0 + (xs.getD j default).cost) else D) := by
  generalize xs.getD j default = a at *
  have hfN : a.fr.toNat < N := by omega
  have htN : a.to_.toNat < N := by omega
  have k1 := h.k a.fr.toNat hfN
  have k2 := h.k a.to_.toNat htN
  have hgo : leastGo s (longLk a) = decide (0 ≤ D.getD a.fr.toNat 0 ∧ (D.getD a.to_.toNat 0 < 0 ∨ D.getD a.fr.toNat 0 + a.cost < D.getD a.to_.toNat 0)) := by
    show (s.k.getD a.fr.toNat false && (!s.k.getD a.to_.toNat false || decide (s.d.getD a.fr.toNat 0 + a.cost < s.d.getD a.to_.toNat 0))) = _
    rw [k1, k2]
    by_cases e1 : 0 ≤ D.getD a.fr.toNat 0
    · have d1 := h.d a.fr.toNat hfN e1
      by_cases e2 : 0 ≤ D.getD a.to_.toNat 0
      · have d2 := h.d a.to_.toNat htN e2
        rw [d1, d2, decide_eq_true e1, decide_eq_true e2, Bool.true_and, Bool.not_true, Bool.false_or]
        apply decide_eq_decide.2
        constructor
        · intro h3; exact ⟨e1, .inr h3⟩
        · rintro ⟨_, h3 | h3⟩
          · omega
          · exact h3
      · rw [decide_eq_true e1, decide_eq_false e2, Bool.true_and, Bool.not_false, Bool.true_or]
        symm
        rw [decide_eq_true_iff]
        exact ⟨e1, .inl (by omega)⟩
    · rw [decide_eq_false e1, Bool.false_and]
      symm
      rw [decide_eq_false_iff_not]
      exact fun h3 => e1 h3.1
  unfold leastStep
  rw [hgo]
  by_cases hcond : 0 ≤ D.getD a.fr.toNat 0 ∧ (D.getD a.to_.toNat 0 < 0 ∨ D.getD a.fr.toNat 0 + a.cost < D.getD a.to_.toNat 0)
  · rw [if_pos hcond, decide_eq_true hcond, if_pos rfl]
    have d1 := h.d a.fr.toNat hfN hcond.1
    refine ⟨by simp [h.dl], by simp [h.kl], by simp [h.Dl], fun v hv => ?_, fun v hv h0 => ?_⟩
    · show (s.k.set a.to_.toNat true).getD v false = _
      rw [getD_setB _ _ v _ (by rw [h.kl]; exact htN), getD_setL _ _ v _ (by rw [h.Dl]; exact htN)]
      by_cases e : a.to_.toNat = v
      · rw [if_pos e, if_pos e]; symm; rw [decide_eq_true_iff]; have := hcond.1; omega
      · rw [if_neg e, if_neg e]; exact h.k v hv
    · show (s.d.set a.to_.toNat (s.d.getD a.fr.toNat 0 + a.cost)).getD v 0 = _
      rw [getD_setL _ _ v _ (by rw [h.Dl]; exact htN)] at h0
      rw [getD_setL _ _ v _ (by rw [h.dl]; exact htN), getD_setL _ _ v _ (by rw [h.Dl]; exact htN)]
      by_cases e : a.to_.toNat = v
      · rw [if_pos e, if_pos e, d1]
      · rw [if_neg e] at h0
        rw [if_neg e, if_neg e]
        exact h.d v hv h0
  · rw [if_neg hcond, decide_eq_false hcond, if_neg (by decide)]
    exact h
theorem rel_to {N : Nat} {xs : List ArcR} (hc : ∀ i, i < xs.length → 0 ≤ (xs.getD i default).cost) (hx : ∀ i, i < xs.length → (0 ≤ (xs.getD i default).fr ∧ (xs.getD i default).fr < N) ∧ (0 ≤ (xs.getD i default).to_ ∧ (xs.getD i default).to_ < N)) {s : LeastS} {D : List Int} (h : RelD N s D) : ∀ j, j ≤ xs.length → RelD N (leastTo (longLs xs) s j) (relaxTo xs D j)
  | 0, _ => ⟨h.dl, h.kl, h.Dl, h.k, h.d⟩
  | j + 1, hj => by
    have ih := rel_to hc hx h j (by omega)
    rw [leastTo, relaxTo, longLs_get (by omega)]
    exact rel_step ih (hx j (by omega)).1 (hx j (by omega)).2 (hc j (by omega))
theorem rel_r {N f : Nat} {xs : List ArcR} (hc : ∀ i, i < xs.length → 0 ≤ (xs.getD i default).cost) (hx : ∀ i, i < xs.length → (0 ≤ (xs.getD i default).fr ∧ (xs.getD i default).fr < N) ∧ (0 ≤ (xs.getD i default).to_ ∧ (xs.getD i default).to_ < N)) {s : LeastS} (h : RelD N s (roundsL xs N f 0)) : ∀ r, RelD N (leastR (longLs xs) s r) (roundsL xs N f r)
  | 0 => h
  | r + 1 => by
    rw [leastR, roundsL, show (longLs xs).length = xs.length by simp [longLs]]
    exact rel_to hc hx (rel_r hc hx h r) xs.length (Nat.le_refl _)
theorem rel_start {xs : List ArcR} {N f : Nat} (hf : f < N) (b : List Int) (e : Int) : RelD N ⟨List.replicate N 0, (List.replicate N false).set f true, b, e⟩ (roundsL xs N f 0) := by
  refine ⟨by simp, by simp, by simp [roundsL], fun v hv => ?_, fun v hv h0 => ?_⟩
  · show ((List.replicate N false).set f true).getD v false = _
    rw [roundsL, getD_setL _ _ v _ (by simpa using hf), getD_setB _ _ v _ (by simpa using hf)]
    by_cases e : f = v
    · rw [if_pos e, if_pos e]; rfl
    · rw [if_neg e, if_neg e]; simp [List.getD, hv]
  · show (List.replicate N (0 : Int)).getD v 0 = _
    rw [roundsL, getD_setL _ _ v _ (by simpa using hf)] at h0 ⊢
    by_cases e : f = v
    · rw [if_pos e]; simp [List.getD, hv]
    · rw [if_neg e] at h0
      have : (List.replicate N (-1 : Int)).getD v 0 = -1 := by simp [List.getD, hv]
      rw [this] at h0; omega
/-- the program's last loop: -1 where a node is not known -/
def unTo (s : LeastS) (j : Nat) : List Int := (List.range s.d.length).map fun v => if v < j ∧ s.k.getD v false = false then -1 else s.d.getD v 0
end Go.Proofs.Ytjjciebioagkhaa
