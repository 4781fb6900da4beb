/- The least cover of the pairs of two sides, in plain lists. -/
import Derived.Test.YtfoelpmglmaamaaMatchTop
namespace Go.Proofs.Ytfoelpmglmaamaa
open Go.RowKit

/-- left things that stay away, right things that are reached, the queue -/
structure CovS where
  a : List Bool
  r : List Bool
  q : List Int
def covI (out : List Int) (L R : Nat) : Nat → CovS
  | 0 => ⟨List.replicate L false, List.replicate R false, []⟩
  | k + 1 => { covI out L R k with a := (covI out L R k).a.set k (decide (0 ≤ out.getD k 0)), q := if out.getD k 0 < 0 then (covI out L R k).q ++ [(k : Int)] else (covI out L R k).q }
def covJ (out : List Int) (L : Nat) : Nat → List Bool
  | 0 => List.replicate L false
  | k + 1 => if out.getD k 0 < 0 then (covJ out L k).set k true else covJ out L k
/-- one pair -/
def covOne (ps O : List Int) (u : Int) (j : Nat) (s : CovS) : CovS :=
  if pX ps j = u ∧ s.r.getD (pY ps j) false = false then
    if 0 ≤ O.getD (pY ps j) 0 ∧ s.a.getD (O.getD (pY ps j) 0).toNat false = true then ⟨s.a.set (O.getD (pY ps j) 0).toNat false, s.r.set (pY ps j) true, s.q ++ [O.getD (pY ps j) 0]⟩
    else { s with r := s.r.set (pY ps j) true }
  else s
def covTo (ps O : List Int) (u : Int) (s : CovS) : Nat → CovS
  | 0 => s
  | j + 1 => covOne ps O u j (covTo ps O u s j)
def covR (ps O : List Int) (m : Nat) (s : CovS) : Nat → CovS
  | 0 => s
  | k + 1 => if k < (covR ps O m s k).q.length then covTo ps O ((covR ps O m s k).q.getD k 0) (covR ps O m s k) m else covR ps O m s k
theorem covR_stay {ps O : List Int} {m : Nat} {s : CovS} {k : Nat} (h : ¬ k < (covR ps O m s k).q.length) : ∀ d, covR ps O m s (k + d) = covR ps O m s k
  | 0 => rfl
  | d + 1 => by
    rw [← Nat.add_assoc, covR, covR_stay h d, if_neg (by omega)]
structure CovOk (L R : Nat) (s : CovS) : Prop where
  al : s.a.length = L
  rl : s.r.length = R
  ql : s.q.length = s.a.count false
theorem count_down {ks : List Bool} {y : Nat} (h : y < ks.length) (hk : ks.getD y false = true) : (ks.set y false).count false = ks.count false + 1 := by
  induction ks generalizing y with
  | nil => simp at h
  | cons k ks ih =>
    cases y with
    | zero =>
      simp [List.getD] at hk
      subst hk
      simp
    | succ y =>
      have := ih (y := y) (by simpa using h) (by simpa [List.getD] using hk)
      simp only [List.set_cons_succ, List.count_cons]
      omega
theorem covOne_ok {L R : Nat} {ps O : List Int} {u : Int} {j : Nat} {s : CovS} (h : CovOk L R s) (hO : O.getD (pY ps j) 0 < L) : CovOk L R (covOne ps O u j s) := by
  unfold covOne
  split
  · split
    · rename_i h1 h2
      refine ⟨by show (List.set _ _ _).length = L; rw [List.length_set]; exact h.al, by show (List.set _ _ _).length = R; rw [List.length_set]; exact h.rl, ?_⟩
      show (s.q ++ [_]).length = (s.a.set _ false).count false
      rw [count_down (by rw [h.al]; omega) h2.2, List.length_append, h.ql]; rfl
    · exact ⟨h.al, by show (List.set _ _ _).length = R; rw [List.length_set]; exact h.rl, h.ql⟩
  · exact h
theorem covTo_ok {L R m : Nat} {ps O : List Int} {u : Int} {s : CovS} (h : CovOk L R s) (hO : ∀ j, j < m → O.getD (pY ps j) 0 < L) : ∀ j, j ≤ m → CovOk L R (covTo ps O u s j)
  | 0, _ => h
  | j + 1, hj => covOne_ok (covTo_ok h hO j (by omega)) (hO j (by omega))
theorem covR_ok {L R m : Nat} {ps O : List Int} {s : CovS} (h : CovOk L R s) (hO : ∀ j, j < m → O.getD (pY ps j) 0 < L) : ∀ k, CovOk L R (covR ps O m s k)
  | 0 => h
  | k + 1 => by
    rw [covR]
    split
    · exact covTo_ok (covR_ok h hO k) hO m (Nat.le_refl _)
    · exact covR_ok h hO k
theorem covI_ok {out : List Int} {L R : Nat} : ∀ k, k ≤ L → (covI out L R k).a.length = L ∧ (covI out L R k).r = List.replicate R false ∧ (∀ i, i < L → (covI out L R k).a.getD i false = if i < k then decide (0 ≤ out.getD i 0) else false) ∧ (covI out L R k).q.length + (L - k) = (covI out L R k).a.count false
  | 0, _ => ⟨by simp [covI], rfl, fun i hi => by simp [covI, List.getD, hi], by simp [covI]⟩
  | k + 1, hk => by
    obtain ⟨h1, h2, h3, h4⟩ := covI_ok (out := out) (L := L) (R := R) k (by omega)
    rw [covI]
    refine ⟨by show (List.set _ _ _).length = L; rw [List.length_set]; exact h1, h2, fun i hi => ?_, ?_⟩
    · show (List.set _ _ _).getD i false = _
      rw [gB_set _ _ _ _ (by omega), h3 i hi]
      by_cases e : k = i
      · subst e; rw [if_pos rfl, if_pos (by omega)]
      · rw [if_neg e]
        by_cases hlt : i < k
        · rw [if_pos hlt, if_pos (by omega)]
        · rw [if_neg hlt, if_neg (by omega)]
    · have hk0 := h3 k (by omega)
      rw [if_neg (by omega)] at hk0
      show (if out.getD k 0 < 0 then (covI out L R k).q ++ [(k : Int)] else (covI out L R k).q).length + (L - (k + 1)) = ((covI out L R k).a.set k (decide (0 ≤ out.getD k 0))).count false
      by_cases e : out.getD k 0 < 0
      · rw [if_pos e, decide_eq_false (by omega)]
        have hs : (covI out L R k).a.set k false = (covI out L R k).a := by
          apply List.ext_getElem (by simp)
          intro i hi1 hi2
          rw [List.getElem_set]
          split
          · rename_i e2
            subst e2
            simpa [List.getD, List.getElem?_eq_getElem hi2] using hk0.symm
          · rfl
        rw [hs, List.length_append, ← h4]
        show _ + 1 + _ = _
        omega
      · rw [if_neg e, decide_eq_true (by omega)]
        have := count_set (y := k) (by omega) hk0
        omega
theorem covI_cov {out : List Int} {L R : Nat} : CovOk L R (covI out L R L) := by
  obtain ⟨h1, h2, _, h4⟩ := covI_ok (out := out) (L := L) (R := R) L (Nat.le_refl _)
  exact ⟨h1, by rw [h2]; simp, by omega⟩
theorem covJ_ok {out : List Int} {L : Nat} : ∀ k, k ≤ L → (covJ out L k).length = L ∧ ∀ i, i < L → (covJ out L k).getD i false = if i < k then decide (out.getD i 0 < 0) else false
  | 0, _ => ⟨by simp [covJ], fun i hi => by simp [covJ, List.getD, hi]⟩
  | k + 1, hk => by
    obtain ⟨h1, h2⟩ := covJ_ok (out := out) (L := L) k (by omega)
    rw [covJ]
    by_cases e : out.getD k 0 < 0
    · rw [if_pos e]
      refine ⟨by rw [List.length_set]; exact h1, fun i hi => ?_⟩
      rw [gB_set _ _ _ _ (by omega), h2 i hi]
      by_cases e2 : k = i
      · subst e2; rw [if_pos rfl, if_pos (by omega), decide_eq_true e]
      · rw [if_neg e2]
        by_cases hlt : i < k
        · rw [if_pos hlt, if_pos (by omega)]
        · rw [if_neg hlt, if_neg (by omega)]
    · rw [if_neg e]
      refine ⟨h1, fun i hi => ?_⟩
      rw [h2 i hi]
      by_cases hlt : i < k
      · rw [if_pos hlt, if_pos (by omega)]
      · rw [if_neg hlt]
        by_cases e2 : k = i
        · subst e2; rw [if_pos (by omega), decide_eq_false e]
        · rw [if_neg (by omega)]
theorem covJ_not {out : List Int} {L R : Nat} : covJ out L L = (covI out L R L).a.map not := by
  obtain ⟨h1, h2⟩ := covJ_ok (out := out) (L := L) L (Nat.le_refl _)
  obtain ⟨h3, _, h4, _⟩ := covI_ok (out := out) (L := L) (R := R) L (Nat.le_refl _)
  apply List.ext_getElem (by rw [List.length_map, h1, h3])
  intro i hi hi2
  have a1 := h2 i (by omega)
  have a2 := h4 i (by omega)
  rw [if_pos (by omega)] at a1 a2
  have b1 : (covJ out L L)[i] = decide (out.getD i 0 < 0) := by simpa [List.getD, List.getElem?_eq_getElem hi] using a1
  have b2 : (covI out L R L).a[i]'(by rw [h3]; omega) = decide (0 ≤ out.getD i 0) := by simpa [List.getD, List.getElem?_eq_getElem (show i < (covI out L R L).a.length by omega)] using a2
  rw [List.getElem_map, b1, b2]
  by_cases e : out.getD i 0 < 0
  · rw [decide_eq_true e, decide_eq_false (by omega)]; rfl
  · rw [decide_eq_false e, decide_eq_true (by omega)]; rfl
theorem map_not_set {a : List Bool} {x : Nat} : (a.map not).set x true = (a.set x false).map not := by rw [List.map_set]; rfl
theorem map_not_get {a : List Bool} {x : Nat} (h : x < a.length) : (a.map not).getD x false = !a.getD x false := by
  simp [List.getD, List.getElem?_eq_getElem h]
/-- the indices that are true, below k -/
def setTo (bs : List Bool) (k : Nat) : List Int := ((List.range k).filter fun v => bs.getD v false).map fun (v : Nat) => (v : Int)
theorem setTo_succ (bs : List Bool) (k : Nat) : setTo bs (k + 1) = if bs.getD k false = true then setTo bs k ++ [(k : Int)] else setTo bs k := by
  unfold setTo
  rw [List.range_succ, List.filter_append, List.map_append]
  simp only [List.filter_cons, List.filter_nil]
  cases h : bs.getD k false
  · rw [if_neg (by decide), if_neg (by decide)]; simp
  · rw [if_pos rfl, if_pos rfl]; rfl
theorem setTo_len (bs : List Bool) (k : Nat) : (setTo bs k).length ≤ k := by
  unfold setTo
  rw [List.length_map]
  exact Nat.le_trans (List.length_filter_le _ _) (by simp)
def covAll (ps : List Int) (m L R : Nat) : CovS := covR ps (matTo ps m L R L).R m (covI (matTo ps m L R L).L L R L) L
def covV (l r : Int) (ps : List Int) : List Int × List Int := if sidesB l r ps = true then (setTo (covAll ps (ps.length / 2) l.toNat r.toNat).a l.toNat, setTo (covAll ps (ps.length / 2) l.toNat r.toNat).r r.toNat) else ([], [])
theorem covV_no {l r : Int} {ps : List Int} (h : sidesB l r ps = false) : covV l r ps = ([], []) := by unfold covV; rw [if_neg (by rw [h]; decide)]
theorem covV_yes {L R m : Nat} {ps : List Int} (h : sidesB L R ps = true) (hm : ps.length = 2 * m) : covV L R ps = (setTo (covAll ps m L R).a L, setTo (covAll ps m L R).r R) := by
  unfold covV
  rw [if_pos h, hm, show 2 * m / 2 = m by omega, Int.toNat_natCast, Int.toNat_natCast]
theorem covV_len (l r : Int) (ps : List Int) : (covV l r ps).1.length ≤ 1048576 ∧ (covV l r ps).2.length ≤ 1048576 := by
  cases h : sidesB l r ps
  · rw [covV_no h]; simp
  · obtain ⟨L, R, m, rfl, rfl, l1, l2, r1, r2, hm, hm2, hps⟩ := sides_bd h
    rw [covV_yes h hm]
    have h1 := setTo_len (covAll ps m L R).a L
    have h2 := setTo_len (covAll ps m L R).r R
    exact ⟨by show (setTo _ _).length ≤ _; omega, by show (setTo _ _).length ≤ _; omega⟩
section one
variable {ps O : List Int} {u : Int} {j : Nat} {s : CovS}
theorem one_no1 (h : pX ps j ≠ u) : covOne ps O u j s = s := by unfold covOne; rw [if_neg (fun h1 => h h1.1)]
theorem one_no2 (h : s.r.getD (pY ps j) false = true) : covOne ps O u j s = s := by unfold covOne; rw [if_neg (fun h1 => by rw [h] at h1; cases h1.2)]
theorem one_only (h1 : pX ps j = u) (h2 : s.r.getD (pY ps j) false = false) (h3 : ¬ (0 ≤ O.getD (pY ps j) 0 ∧ s.a.getD (O.getD (pY ps j) 0).toNat false = true)) : covOne ps O u j s = { s with r := s.r.set (pY ps j) true } := by
  unfold covOne; rw [if_pos ⟨h1, h2⟩, if_neg h3]
theorem one_both (h1 : pX ps j = u) (h2 : s.r.getD (pY ps j) false = false) (h3 : 0 ≤ O.getD (pY ps j) 0 ∧ s.a.getD (O.getD (pY ps j) 0).toNat false = true) : covOne ps O u j s = ⟨s.a.set (O.getD (pY ps j) 0).toNat false, s.r.set (pY ps j) true, s.q ++ [O.getD (pY ps j) 0]⟩ := by
  unfold covOne; rw [if_pos ⟨h1, h2⟩, if_pos h3]
end one
end Go.Proofs.Ytfoelpmglmaamaa
