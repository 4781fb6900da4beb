/- The program's rounds ('least') and the rounds with times. -/
import Derived.Test.YtnljfhmdjhppmaaRoundPlain2
namespace Go.Proofs.Ytnljfhmdjhppmaa
open Go.RowKit

/-- the last node changed among the first j links of round r, -1 if there is none -/
def endTo (ls : List LinkR) (s : LossS) (r : Nat) : Nat → Int
  | 0 => -1
  | j + 1 => if lossGo (lossTo ls s r j) (ls.getD j default) = true then (ls.getD j default).to_ else endTo ls s r j
theorem endTo_ok {ls : List LinkR} {N : Nat} {s : LossS} {r : Nat} (hls : LinksOk ls N) (hne : ∀ k, k < ls.length → (ls.getD k default).fr ≠ (ls.getD k default).to_) (h : LossOk ls N s r 0) : ∀ j, j ≤ ls.length → endTo ls s r j = -1 ∨ ∃ v : Nat, endTo ls s r j = v ∧ v < N ∧ r * ls.length < (lossTo ls s r j).t.getD v 0
  | 0, _ => .inl rfl
  | j + 1, hj => by
    have hok := loss_to hls hne h j (by omega)
    obtain ⟨_, b0, b1⟩ := hls j (by omega)
    rw [endTo, lossTo]
    by_cases hgo : lossGo (lossTo ls s r j) (ls.getD j default) = true
    · rw [if_pos hgo]
      refine .inr ⟨(ls.getD j default).to_.toNat, by omega, by omega, ?_⟩
      unfold lossStep
      rw [if_pos hgo]
      show r * ls.length < ((lossTo ls s r j).t.set (ls.getD j default).to_.toNat (r * ls.length + j + 1)).getD _ 0
      rw [getD_setN _ _ _ _ (by rw [hok.tl]; omega), if_pos rfl]
      omega
    · rw [if_neg hgo]
      unfold lossStep
      rw [if_neg hgo]
      exact endTo_ok hls hne h j (by omega)
def timeB (M t : Nat) : Int := if t = 0 then -1 else (((t - 1) % M : Nat) : Int)
structure RelT (ls : List LinkR) (N : Nat) (s : LeastS) (u : LossS) : Prop where
  d : s.d = u.d
  k : s.k = List.replicate N true
  bl : s.b.length = N
  b : ∀ v, v < N → s.b.getD v 0 = timeB ls.length (u.t.getD v 0)
theorem relT_to {ls : List LinkR} {N : Nat} {s : LeastS} {u : LossS} {r : Nat} (hls : LinksOk ls N) (hne : ∀ k, k < ls.length → (ls.getD k default).fr ≠ (ls.getD k default).to_) (hu : LossOk ls N u r 0) (h : RelT ls N s u) : ∀ j, j ≤ ls.length → RelT ls N (leastTo ls s j) (lossTo ls u r j) ∧ (leastTo ls s j).e = endTo ls u r j
  | 0, _ => ⟨⟨h.d, h.k, h.bl, h.b⟩, rfl⟩
  | j + 1, hj => by
    obtain ⟨ih, ihe⟩ := relT_to hls hne hu h j (by omega)
    have hok := loss_to hls hne hu j (by omega)
    obtain ⟨⟨a0, a1⟩, b0, b1⟩ := hls j (by omega)
    rw [leastTo, lossTo, endTo]
    generalize leastTo ls s j = s' at *
    generalize lossTo ls u r j = u' at *
    have hk : ∀ v, v < N → s'.k.getD v false = true := fun v hv => by rw [ih.k]; simp [List.getD, hv]
    have hgo : leastGo s' (ls.getD j default) = lossGo u' (ls.getD j default) := by
      unfold leastGo lossGo
      rw [hk _ (by omega), hk _ (by omega), ih.d]
      simp
    unfold leastStep lossStep
    rw [hgo]
    by_cases hc : lossGo u' (ls.getD j default) = true
    · rw [if_pos hc, if_pos hc, if_pos hc]
      refine ⟨⟨?_, ?_, ?_, fun v hv => ?_⟩, rfl⟩
      · show s'.d.set _ _ = u'.d.set _ _
        rw [ih.d]
      · show s'.k.set _ true = _
        rw [ih.k]
        apply List.ext_getElem (by simp)
        intro i h1 h2
        simp
      · show (s'.b.set _ _).length = N
        rw [List.length_set]; exact ih.bl
      · show (s'.b.set (ls.getD j default).to_.toNat (j : Int)).getD v 0 = timeB ls.length ((u'.t.set (ls.getD j default).to_.toNat (r * ls.length + j + 1)).getD v 0)
        rw [getD_set' _ _ v _ (by rw [ih.bl]; omega), getD_setN _ _ v _ (by rw [hok.tl]; omega)]
        by_cases e : (ls.getD j default).to_.toNat = v
        · rw [if_pos e, if_pos e]
          unfold timeB
          rw [if_neg (by omega), Nat.add_sub_cancel, Nat.mul_comm, Nat.mul_add_mod, Nat.mod_eq_of_lt (by omega)]
        · rw [if_neg e, if_neg e]; exact ih.b v hv
    · rw [if_neg hc, if_neg hc, if_neg hc]
      exact ⟨ih, ihe⟩
def loss0 (N : Nat) : LeastS := ⟨List.replicate N 0, List.replicate N true, List.replicate N (-1), -1⟩
theorem relT_r {ls : List LinkR} {N : Nat} (hls : LinksOk ls N) (hne : ∀ k, k < ls.length → (ls.getD k default).fr ≠ (ls.getD k default).to_) : ∀ r, RelT ls N (leastR ls (loss0 N) r) (lossR ls N r)
  | 0 => by
    refine ⟨rfl, rfl, by simp [leastR, loss0], fun v hv => ?_⟩
    have h1 : (List.replicate N (-1 : Int)).getD v 0 = -1 := by simp [List.getD, hv]
    have h2 : (List.replicate N (0 : Nat)).getD v 0 = 0 := by simp [List.getD, hv]
    show (List.replicate N (-1 : Int)).getD v 0 = timeB ls.length ((List.replicate N (0 : Nat)).getD v 0)
    rw [h1, h2]; rfl
  | r + 1 => by
    rw [leastR, lossR]
    exact (relT_to hls hne (loss_r hls hne r) (relT_r hls hne r) ls.length (Nat.le_refl _)).1
theorem relT_end {ls : List LinkR} {N : Nat} (hls : LinksOk ls N) (hne : ∀ k, k < ls.length → (ls.getD k default).fr ≠ (ls.getD k default).to_) (r : Nat) : (leastR ls (loss0 N) (r + 1)).e = endTo ls (lossR ls N r) r ls.length := by
  rw [leastR]
  exact (relT_to hls hne (loss_r hls hne r) (relT_r hls hne r) ls.length (Nat.le_refl _)).2
/-- the node from which one goes back; -1 if there is no round -/
def lossE (ls : List LinkR) (N : Nat) : Int := endTo ls (lossR ls N (N - 1)) (N - 1) ls.length
theorem lossE_ok {ls : List LinkR} {N : Nat} (hN : 1 ≤ N) (hls : LinksOk ls N) (hne : ∀ k, k < ls.length → (ls.getD k default).fr ≠ (ls.getD k default).to_) : lossE ls N = -1 ∨ ∃ v : Nat, lossE ls N = v ∧ v < N ∧ (N - 1) * ls.length < (lossR ls N N).t.getD v 0 := by
  have h := endTo_ok hls hne (loss_r hls hne (N - 1)) ls.length (Nat.le_refl _)
  rcases h with h | ⟨v, h1, h2, h3⟩
  · exact .inl h
  · refine .inr ⟨v, h1, h2, ?_⟩
    have e : lossR ls N N = lossTo ls (lossR ls N (N - 1)) (N - 1) ls.length := by
      conv => lhs; rw [show N = N - 1 + 1 by omega, lossR]
      rw [show N - 1 + 1 = N by omega]
    rw [e]; exact h3
/-- what both find: the round, first its node behind N steps, then the others forwards -/
def lossP (ls : List LinkR) (N : Nat) (p : Nat) : List Int := ((preN ls (lossR ls N N) (lossE ls N).toNat N : Nat) : Int) :: (backTo ls (lossR ls N N) (preN ls (lossR ls N N) (lossE ls N).toNat N) (p - 1)).reverse
end Go.Proofs.Ytnljfhmdjhppmaa
