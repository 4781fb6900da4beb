/- What the law FnBestPairs asks: in plain lists. -/
import Derived.Test.YtfoelpmglmaamaaAssign3
import Derived.Test.YtfoelpmglmaamaaKonig2
import Derived.Test.YtfoelpmglmaamaaFlags
import Derived.Test.YtfoelpmglmaamaaBPairsTop
namespace Go.Proofs.Ytfoelpmglmaamaa
open Go.RowKit

theorem bp_ok {S : Nat} {cs : List Int} (h1 : 1 ≤ S) (h2 : S ≤ 16) (hl : cs.length = S * S) (hc : ∀ x ∈ cs, -5 ≤ x ∧ x ≤ 14) : bpOk (S : Int) cs = true := by
  unfold bpOk
  rw [Bool.and_eq_true, Bool.and_eq_true, decide_eq_true_iff, List.all_eq_true]
  refine ⟨⟨inB_iff.2 ⟨by omega, by omega⟩, by rw [hl]; exact Int.natCast_mul S S⟩, fun x hx => inB_iff.2 ?_⟩
  have := hc x hx
  omega
theorem bp_bd {S : Nat} {cs : List Int} (h2 : S ≤ 16) (hl : cs.length = S * S) (hc : ∀ x ∈ cs, -5 ≤ x ∧ x ≤ 14) : ∀ j, j < S * S → -5 ≤ cs.getD j 0 ∧ cs.getD j 0 ≤ 14 := fun j hj => hc _ (getDL_mem (by omega))
theorem bp_vb {S : Nat} {cs : List Int} (h1 : 1 ≤ S) (h2 : S ≤ 16) (hl : cs.length = S * S) (hc : ∀ x ∈ cs, -5 ≤ x ∧ x ≤ 14) : ∀ k, k < S → -10000000000 ≤ (bpVs cs S).getD k 0 ∧ (bpVs cs S).getD k 0 ≤ 0 := by
  have hb : ∀ j, j < S * S → -1000000 ≤ cs.getD j 0 ∧ cs.getD j 0 ≤ 1000000 := fun j hj => by have := bp_bd h2 hl hc j hj; omega
  have hP := (pairs_r (cs := cs) (S := S) S (Nat.le_refl _)).len
  have hps : (bpPs cs S).length = S := hP
  have h3 := lgT_bd h2 hb (ro := roT (bpPs cs S) S S) (roT_bd S (Nat.le_refl _)) S
  intro k hk
  have h4 := h3.2 k hk
  unfold bpVs
  rw [hps]
  have : (512000000 : Int) * (S : Int) ≤ 512000000 * 16 := by omega
  omega
theorem sides_yes {L R m : Nat} {ps : List Int} (h1 : 1 ≤ L) (h2 : L ≤ 16) (h3 : 1 ≤ R) (h4 : R ≤ 16) (hl : ps.length = 2 * m) (hm : m ≤ 48) (hp : PairsOk ps m L R) : sidesB (L : Int) (R : Int) ps = true := by
  simp only [sidesB, Bool.and_eq_true, decide_eq_true_eq]
  refine ⟨inB_iff.2 ⟨by omega, by omega⟩, inB_iff.2 ⟨by omega, by omega⟩, by omega, by omega, ?_⟩
  rw [show ps.length / 2 = m by omega]
  unfold pairsTo
  rw [List.all_eq_true]
  intro j hj
  rw [List.mem_range] at hj
  have := hp j hj
  unfold pairB
  rw [Bool.and_eq_true]
  exact ⟨inB_iff.2 ⟨this.1.1, by omega⟩, inB_iff.2 ⟨this.2.1, by omega⟩⟩
/-- the pairs are looked through for a pair -/
def thereTo (ps : List Int) (x y : Int) : Nat → Bool
  | 0 => false
  | q + 1 => thereTo ps x y q || (ps.getD (2 * q) 0 == x && ps.getD (2 * q + 1) 0 == y)
theorem there_yes {ps : List Int} {x y : Int} {j : Nat} : ∀ q, j < q → ps.getD (2 * j) 0 = x → ps.getD (2 * j + 1) 0 = y → thereTo ps x y q = true
  | q + 1, hj, h1, h2 => by
    rw [thereTo]
    by_cases e : j = q
    · subst e; rw [h1, h2]; simp
    · rw [there_yes q (by omega) h1 h2]; rfl
def cntLU (Lm : List Int) (j : Nat) : Nat := (List.range j).countP fun u => decide (0 ≤ Lm.getD u 0)
theorem cntLU_succ (Lm : List Int) (j : Nat) : cntLU Lm (j + 1) = cntLU Lm j + if 0 ≤ Lm.getD j 0 then 1 else 0 := by
  unfold cntLU
  rw [List.range_succ, List.countP_append]
  simp [List.countP_cons]
theorem cntLU_le (Lm : List Int) (j : Nat) : cntLU Lm j ≤ j := by
  unfold cntLU
  exact Nat.le_trans List.countP_le_length (by simp)
/-- a matched thing is new -/
theorem mat_new {L R : Nat} {Rr Lm : List Int} (h : MatC L R Rr Lm) {j : Nat} (hj : j < L) (hp : 0 ≤ Lm.getD j 0) : hasB (Lm.take j) (Lm.getD j 0) = false := by
  rw [hasB_not]
  intro hm
  obtain ⟨i, hi, e⟩ := List.mem_iff_getElem.1 hm
  rw [List.length_take] at hi
  rw [List.getElem_take] at e
  have hl := h.ll
  have hi2 : Lm.getD i 0 = Lm.getD j 0 := by
    rw [← e]; simp [List.getD, List.getElem?_eq_getElem (show i < Lm.length by omega)]
  rcases h.hl j hj with h1 | ⟨y, h1, h2, h3⟩
  · omega
  · rcases h.hl i (by omega) with h4 | ⟨z, h4, h5, h6⟩
    · omega
    · have : y = z := by omega
      subst this
      omega
end Go.Proofs.Ytfoelpmglmaamaa
