/- The turns a / 64 for a in -256 .. 255, and the phasors of them, called. -/
import Derived.Test.YtnjipckpkcandaaCirT
import Derived.Test.YtnjipckpkcandaaCirJ
import Derived.Test.YtnjipckpkcandaaCirK
import Derived.Test.YtnjipckpkcandaaCirL
namespace Go.Proofs.Ytnjipckpkcandaa
open Ieee
namespace Cir
variable (O : FO)
def far : Nat := 4841369599423283200
def tA (k : Nat) : Option Nat := O.quo (ofI ((k : Int) - 256)) sixty4
def argT (k t : Nat) : Bool := cond (Nat.blt t 18446744073709551616) (cond (nanK .f64 t) false (cond (match O.sub t t with | some z => isEq z 0 | none => false) (cond (isGe (absB t) far) false (eqN (restO O t) (frF (k % 64)))) false)) false
def argC (k : Nat) : Bool := Fst.force k fun k => match tA O k with | some t => Fst.force t (argT O k) | none => false
theorem arg_ok : allB (argC fst) 9 0 = true := by decide +kernel
theorem cond_t {a b : Bool} (h : cond a b false = true) : a = true ∧ b = true := by
  cases a
  · cases h
  · exact ⟨rfl, h⟩
theorem cond_f {a b : Bool} (h : cond a false b = true) : a = false ∧ b = true := by
  cases a
  · exact ⟨rfl, h⟩
  · cases h
theorem tA_at {k : Nat} (hk : k < 512) : ∃ t z, gen.quo (ofI ((k : Int) - 256)) sixty4 = some t ∧ t < 18446744073709551616 ∧ nanK .f64 t = false ∧ gen.sub t t = some z ∧ isEq z 0 = true ∧ isGe (absB t) far = false ∧ phasO gen t = some (phF (k % 64)) := by
  have h := allB_at 9 0 k arg_ok (Nat.zero_le _) (by omega)
  rw [gen_fst]
  unfold argC at h
  rw [Fst.force_eq] at h
  cases ht : tA fst k with
  | none => rw [ht] at h; cases h
  | some t =>
    rw [ht] at h
    have h : Fst.force t (argT fst k) = true := h
    rw [Fst.force_eq] at h
    unfold argT at h
    obtain ⟨h1, h⟩ := cond_t h
    obtain ⟨h2, h⟩ := cond_f h
    obtain ⟨h3, h⟩ := cond_t h
    obtain ⟨h4, h⟩ := cond_f h
    have h5 := eqN_iff h
    have hp := allB_at 6 0 (k % 64) ph_ok (Nat.zero_le _) (by omega)
    unfold phC at hp
    rw [Fst.force_eq, Fst.force_eq] at hp
    have hp := eqP_iff hp
    cases hz : fst.sub t t with
    | none => rw [hz] at h3; cases h3
    | some z =>
      rw [hz] at h3
      refine ⟨t, z, ht, Fst.blt_iff.1 h1, h2, hz, h3, h4, ?_⟩
      rw [phasR_is, h5]
      exact hp
end Cir
end Go.Proofs.Ytnjipckpkcandaa
