/- What CheapFlow returns, in plain lists. -/
import Derived.Test.YtnljfhmdjhppmaaCheapP2
import Derived.Test.YtnljfhmdjhppmaaRoundTop
namespace Go.Proofs.Ytnljfhmdjhppmaa
open Go.RowKit

def cheapL (xs : List ArcR) (N F t : Nat) (m : Int) : Option (List Int) := if lossE (linksTo xs (List.replicate xs.length 0) xs.length) N = -1 then cheapRun xs xs.length N F t m.toNat (List.replicate xs.length 0) m else none
def cheapOk (nodes : Int) (xs : List ArcR) (a b m : Int) : Bool := endsB nodes xs a b && inB m 0 1000000
def cheapO (nodes : Int) (xs : List ArcR) (a b m : Int) : Option (List Int) := if cheapOk nodes xs a b m = true then cheapL xs nodes.toNat a.toNat b.toNat m else none
def cheapF (o : Option (List Int)) : List Int := o.getD []
def cheapC (xs : List ArcR) (o : Option (List Int)) : Int := match o with | none => 0 | some fl => costTo xs fl xs.length
theorem cheapO_no {nodes : Int} {xs : List ArcR} {a b m : Int} (h : cheapOk nodes xs a b m = false) : cheapO nodes xs a b m = none := by unfold cheapO; rw [if_neg (by rw [h]; decide)]
theorem cheapO_yes {nodes : Int} {xs : List ArcR} {a b m : Int} (h : cheapOk nodes xs a b m = true) : cheapO nodes xs a b m = cheapL xs nodes.toNat a.toNat b.toNat m := by unfold cheapO; rw [if_pos h]
/-- nothing flows -/
theorem zero_flow {xs : List ArcR} {N F t : Nat} (hv : validB N xs = true) : FlowOk xs N F t xs.length (List.replicate xs.length 0) 0 := by
  obtain ⟨_, _, _, hb⟩ := valid_bd hv
  exact ⟨flow_zero fun k hk => (hb k hk).2.2.2.1.1, (out_zero xs _ F _ (Nat.le_refl _)).symm, Int.le_refl _, fun v _ _ _ => out_zero xs _ v _ (Nat.le_refl _)⟩
theorem cheap_start {xs : List ArcR} {N F t : Nat} (hv : validB N xs = true) (h : lossE (linksTo xs (List.replicate xs.length 0) xs.length) N = -1) : CheapOk xs N F t xs.length (List.replicate xs.length 0) 0 :=
  ⟨zero_flow hv, none_fits (loss_hyps (fl := List.replicate xs.length 0) (n := xs.length) (N := N) rfl rfl hv).hls h⟩
theorem cheapO_len (nodes : Int) (xs : List ArcR) (a b m : Int) : (cheapF (cheapO nodes xs a b m)).length ≤ 1048576 := by
  cases h : cheapOk nodes xs a b m
  · rw [cheapO_no h]; exact Nat.zero_le _
  · rw [cheapO_yes h]
    have h2 := h
    unfold cheapOk at h2
    rw [Bool.and_eq_true] at h2
    obtain ⟨N, F, t, rfl, rfl, rfl, hF, ht, hne, hv⟩ := ends_bd h2.1
    have hm := inB_iff.1 h2.2
    simp only [Int.toNat_natCast]
    unfold cheapL
    split
    · rename_i hE
      cases hc : cheapRun xs xs.length N F t m.toNat (List.replicate xs.length 0) m with
      | none => exact Nat.zero_le _
      | some fl =>
        have := (cheap_run_ok hv hF ht hne m.toNat _ 0 m (cheap_start hv hE) hm.1 (by omega)).1 fl hc
        have h1 := this.inn.1
        have h3 := (valid_bd hv).2.2.1
        show fl.length ≤ _
        omega
    · exact Nat.zero_le _
end Go.Proofs.Ytnljfhmdjhppmaa
