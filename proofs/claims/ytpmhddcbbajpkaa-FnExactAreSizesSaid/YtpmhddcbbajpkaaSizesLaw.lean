/- The walk of the law FnExactAreSizes. -/
import Derived.Test.YtpmhddcbbajpkaaSizes
import Derived.Test.YtpmhddcbbajpkaaOpen
namespace Go.Proofs.Ytpmhddcbbajpkaa
open Go.RowKit

set_option maxHeartbeats 400000 in
theorem walk_AreSizes (A : Option Addr) (n c : Nat) (zs : List Int) (w : World) (h : IntsAt w A n zs) (_hf : FitI zs) (_hm : n ≤ maxLen) :
    Calls Try.prog 3 #[.slice A n c] w fun e w' => e = .returned (.bool true) ∧ Below w.heap.size w w' := by
  by_cases hbig : n ≤ 1048576
  · have HL := Lib.hid h.len
    go_enter Try.func3, Try.ntmps3
    go_wp2_with fail
    refine (toInt64S_any _ _ _ zs _ h hbig).mono ?_
    rintro e w1 ⟨A1, n1, c1, rfl, o1, b1⟩
    obtain rfl : n = n1 := HL.out.symm.trans o1.len
    have h1 := h.below b1
    go_wp2_with fail
    refine (specAreSizes_any _ _ _ zs _ o1.ints hbig).mono ?_
    rintro e _ ⟨rfl, rfl⟩
    go_wp2_with fail
    refine (toInt64S_any _ _ _ zs _ h1 hbig).mono ?_
    rintro e w2 ⟨A2, n2, c2, rfl, o2, b2⟩
    obtain rfl : n = n2 := HL.out.symm.trans o2.len
    have h2 := h1.below b2
    go_wp2_with fail
    refine (implAreSizes_any _ _ _ zs _ o2.ints hbig).mono ?_
    rintro e _ ⟨rfl, rfl⟩
    have hne : (sizesB zs != sizesB zs) = false := by simp
    generalize sizesB zs = bb at *
    go_wp2_with fail
    refine (toInt64S_any _ _ _ zs _ h2 hbig).mono ?_
    rintro e w3 ⟨A3, n3, c3, rfl, o3, b3⟩
    obtain rfl : n = n3 := HL.out.symm.trans o3.len
    go_wp2_with fail
    refine (eqInt64S_any _ _ _ _ _ _ zs zs _ (o2.ints.below b3) o3.ints o2.le).mono ?_
    rintro e _ ⟨rfl, q, rfl⟩
    rw [decide_eq_true (rfl : zs = zs)]
    go_wp2
    go_ret
    exact ⟨rfl, ext_drewN (ext_trans (ext_trans b1 b2) b3) _⟩
  · go_enter Try.func3, Try.ntmps3
    go_wp2
    go_ret
    exact ⟨rfl, Below.refl _ _⟩
end Go.Proofs.Ytpmhddcbbajpkaa
