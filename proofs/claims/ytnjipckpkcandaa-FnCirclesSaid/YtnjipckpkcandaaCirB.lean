/- Circles: the contracts of phasors, products, powers and angles at the table's values. -/
import Derived.Test.YtnjipckpkcandaaCirA
import Derived.Test.YtnjipckpkcandaaCirM
namespace Go.Proofs.Ytnjipckpkcandaa
open Ieee
namespace Cir
def zeroD (x : Nat) : Bool := match floatBits .sub .f32 x x with | some z => FloatKind.f32.format.order z 0 == some .eq | none => false
def finP (p : Nat × Nat) : Bool := cond (zeroD p.1) (cond (zeroD p.2) (cond (FloatKind.f32.format.order p.1 0 == some .eq && FloatKind.f32.format.order p.2 0 == some .eq) false true) false) false
theorem fin_ok : allB (fun i => Fst.force i fun i => fP i finP) 6 0 = true := by decide +kernel
theorem zeroD_is {x : Nat} (h : zeroD x = true) : ∃ z, floatBits .sub .f32 x x = some z ∧ (FloatKind.f32.format.order z 0 == some .eq) = true := by
  unfold zeroD at h
  cases hz : floatBits .sub .f32 x x with
  | none => rw [hz] at h; cases h
  | some z => rw [hz] at h; exact ⟨z, rfl, h⟩
theorem fin_at {i : Nat} (hi : i < 64) : zeroD (phF i).1 = true ∧ zeroD (phF i).2 = true ∧ (FloatKind.f32.format.order (phF i).1 0 == some .eq && FloatKind.f32.format.order (phF i).2 0 == some .eq) = false := by
  have h := allB_at 6 0 i fin_ok (Nat.zero_le _) (by omega)
  rw [Fst.force_eq, fP_eq] at h
  unfold finP at h
  obtain ⟨h1, h⟩ := cond_t h
  obtain ⟨h2, h⟩ := cond_t h
  exact ⟨h1, h2, (cond_f h).1⟩
theorem an_at {i : Nat} (hi : i < 64) : angO gen (phF i).2 (phF i).1 = some (anF i) := by
  have h := allB_at 6 0 i an_ok (Nat.zero_le _) (by omega)
  unfold anC at h
  rw [Fst.force_eq, fP_eq] at h
  rw [gen_fst]
  exact eqN_iff h
theorem near_at {i j : Nat} (hi : i < 64) (hj : j < 64) : ∃ m, mulO gen (phF i) (phF j) = some m ∧ nearO gen m (phF ((i + j) % 64)) = some true := by
  have h := allB_at 6 0 j (allB_at 6 0 i near_ok (Nat.zero_le _) (by omega)) (Nat.zero_le _) (by omega)
  unfold nearC at h
  rw [Fst.force_eq, Fst.force_eq, fP_eq, fP_eq, fP_eq] at h
  rw [gen_fst]
  cases hm : mulO fst (phF i) (phF j) with
  | none => rw [hm] at h; cases h
  | some m =>
    rw [hm] at h
    refine ⟨m, rfl, ?_⟩
    have h : (match nearO fst m (phF ((i + j) % 64)) with | some b => b | none => false) = true := h
    cases hb : nearO fst m (phF ((i + j) % 64)) with
    | none => rw [hb] at h; cases h
    | some b => rw [hb] at h; rw [show b = true from h]
theorem pow_at {i : Nat} (hi : i < 64) : ∃ x y g, powO gen (phF i) = some x ∧ gen.wid x = some y ∧ gapO gen y one = some g ∧ isGt g e4 = false := by
  have h := allB_at 6 0 i pow_ok (Nat.zero_le _) (by omega)
  unfold powC at h
  rw [Fst.force_eq, fP_eq] at h
  rw [gen_fst]
  cases hx : powO fst (phF i) with
  | none => rw [hx] at h; cases h
  | some x =>
    rw [hx] at h
    have h : (match (fst.wid x).bind (fun y => gapO fst y one) with | some g => !isGt g e4 | none => false) = true := h
    cases hy : fst.wid x with
    | none => rw [hy] at h; cases h
    | some y =>
      rw [hy] at h
      have h : (match gapO fst y one with | some g => !isGt g e4 | none => false) = true := h
      cases hg : gapO fst y one with
      | none => rw [hg] at h; cases h
      | some g =>
        rw [hg] at h
        exact ⟨x, y, g, rfl, hy, hg, by simpa using h⟩
end Cir
open Go.RowKit
theorem phasor_at {k : Nat} (hk : k < 512) : ∃ t, floatBits .quo .f64 (Cir.ofI ((k : Int) - 256)) Cir.sixty4 = some t ∧ ∀ w : World, Calls Try.prog 7 #[.float .f64 t] w fun e w' => e = .returned (.complex .f32 (Cir.phF (k % 64)).1 (Cir.phF (k % 64)).2) ∧ w = w' := by
  obtain ⟨t, z, h1, h2, h3, h4, h5, h6, h7⟩ := Cir.tA_at hk
  exact ⟨t, h1, fun w => phasor_any t z _ h7 h2 h3 h4 h5 h6 w⟩
theorem angle_at {i : Nat} (hi : i < 64) (w : World) : Calls Try.prog 8 #[.complex .f32 (Cir.phF i).1 (Cir.phF i).2] w fun e w' => e = .returned (.float .f32 (Cir.anF i)) ∧ w = w' := by
  obtain ⟨h1, h2, h3⟩ := Cir.fin_at hi
  obtain ⟨z1, a1, b1⟩ := Cir.zeroD_is h1
  obtain ⟨z2, a2, b2⟩ := Cir.zeroD_is h2
  exact angleOf_any (Cir.phF i) _ z1 z2 (Cir.an_at hi) a1 b1 a2 b2 h3 w
end Go.Proofs.Ytnjipckpkcandaa
