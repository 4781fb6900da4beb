/- Circles: the law's checks on angles, by the kernel. -/
import Derived.Test.YtnjipckpkcandaaCirB
namespace Go.Proofs.Ytnjipckpkcandaa
open Ieee
namespace Cir
variable (O : FO)
def k10000h : Nat := 4666723447345250304
def turnO (k : Nat) : Option Nat := (O.wid (anF (k % 64))).bind fun an => (O.mul an sixty4).bind fun s => O.sub s (ofI ((k : Int) - 128))
def wholeO (tn : Nat) : Option Int := (O.add tn k10000h).bind toI
def restW (tn : Nat) (wh : Int) : Bool := cond (decide (0 ≤ wh) && decide (wh < 20000) && decide ((wh - 10000).tmod 64 = 0)) (match gapO O tn (ofI (wh - 10000)) with | some g => !isGt g e3 | none => false) false
def turnC (k : Nat) : Bool := Fst.force k fun k => match turnO O k with | some tn => Fst.force tn fun tn => (match wholeO O tn with | some wh => restW O tn wh | none => false) | none => false
theorem turn_ok : allB (turnC fst) 8 0 = true := by decide +kernel
theorem turn_at {k : Nat} (hk : k < 256) : ∃ tn wh g, turnO gen k = some tn ∧ wholeO gen tn = some wh ∧ 0 ≤ wh ∧ wh < 20000 ∧ (wh - 10000).tmod 64 = 0 ∧ gapO gen tn (ofI (wh - 10000)) = some g ∧ isGt g e3 = false := by
  have h := allB_at 8 0 k turn_ok (Nat.zero_le _) (by omega)
  unfold turnC at h
  rw [Fst.force_eq] at h
  rw [gen_fst]
  cases ht : turnO fst k with
  | none => rw [ht] at h; cases h
  | some tn =>
    rw [ht] at h
    have h : Fst.force tn (fun tn => (match wholeO fst tn with | some wh => restW fst tn wh | none => false)) = true := h
    rw [Fst.force_eq] at h
    cases hw : wholeO fst tn with
    | none => rw [hw] at h; cases h
    | some wh =>
      rw [hw] at h
      have h : restW fst tn wh = true := h
      unfold restW at h
      obtain ⟨h1, h⟩ := cond_t h
      rw [Bool.and_eq_true, Bool.and_eq_true, decide_eq_true_eq, decide_eq_true_eq, decide_eq_true_eq] at h1
      cases hg : gapO fst tn (ofI (wh - 10000)) with
      | none => rw [hg] at h; cases h
      | some g =>
        rw [hg] at h
        exact ⟨tn, wh, g, rfl, hw, h1.1.1, h1.1.2, h1.2, hg, by simpa using h⟩
/-- quarters of turns: the first part's gap to nought is nought or one -/
def fourC (i : Nat) : Bool := Fst.force i fun i => Fst.force (phF (16 * i)).1 fun x => match (O.wid x).bind fun y => gapO O y 0 with | some g => isEq g 0 || isEq g one | none => false
theorem four_ok : allB (fourC fst) 2 0 = true := by decide +kernel
theorem four_at {i : Nat} (hi : i < 4) : ∃ y g, gen.wid (phF (16 * i)).1 = some y ∧ gapO gen y 0 = some g ∧ (isEq g 0 = true ∨ isEq g one = true) := by
  have h := allB_at 2 0 i four_ok (Nat.zero_le _) (by omega)
  unfold fourC at h
  rw [Fst.force_eq, Fst.force_eq] at h
  rw [gen_fst]
  cases hy : fst.wid (phF (16 * i)).1 with
  | none => rw [hy] at h; cases h
  | some y =>
    rw [hy] at h
    have h : (match gapO fst y 0 with | some g => isEq g 0 || isEq g one | none => false) = true := h
    cases hg : gapO fst y 0 with
    | none => rw [hg] at h; cases h
    | some g =>
      rw [hg] at h
      exact ⟨y, g, rfl, hg, by simpa using h⟩
end Cir
end Go.Proofs.Ytnjipckpkcandaa
