/- Sorting by insertion: the library's walk with a closure that compares. -/
import Derived.Test.YtigaopfhjimpmaaDoorJ2
import Derived.Test.YtigaopfhjimpmaaDoorZGrid
namespace Go.Proofs.YtigaopfhjimpmaaDoor
open Go.RowKit

theorem compare_any (x y : Int) (w : World) :
    Calls Tryd.prog 35 #[.int .i64 x, .int .i64 y] w fun e w' => e = .returned (.int .i64 (cmpI x y)) ∧ w = w' := by
  have hx : ∀ (z : Int) (w : World), Calls Tryd.prog 52 #[.int .i64 z] w fun e w' => e = .returned (.bool false) ∧ w = w' := by
    intro z w
    go_enter Tryd.func52, Tryd.ntmps52
    go_wp2
    go_ret
    exact ⟨by simp, rfl⟩
  by_cases h1 : x < y
  · have H := Lib.hid (show cmpI x y = -1 by unfold cmpI; rw [if_pos h1])
    go_enter Tryd.func35, Tryd.ntmps35
    go_wp2_with (go_at_call 52; refine (hx _ _).mono ?_; rintro e w' ⟨rfl, rfl⟩)
    go_ret
    exact ⟨ret_int H.out.symm, rfl⟩
  · by_cases h2 : y < x
    · have H := Lib.hid (show cmpI x y = 1 by unfold cmpI; rw [if_neg h1, if_pos h2])
      go_enter Tryd.func35, Tryd.ntmps35
      go_wp2_with (go_at_call 52; refine (hx _ _).mono ?_; rintro e w' ⟨rfl, rfl⟩)
      go_ret
      exact ⟨ret_int H.out.symm, rfl⟩
    · have H := Lib.hid (show cmpI x y = 0 by unfold cmpI; rw [if_neg h1, if_neg h2])
      go_enter Tryd.func35, Tryd.ntmps35
      go_wp2_with (go_at_call 52; refine (hx _ _).mono ?_; rintro e w' ⟨rfl, rfl⟩)
      go_ret
      exact ⟨ret_int H.out.symm, rfl⟩
theorem compare_q (x y : Int) (w : World) (k : Nat) :
    Calls Tryd.prog 35 #[.int .i64 x, .int .i64 y] (w.drewN k) fun e w' => e = .returned (.int .i64 (cmpI x y)) ∧ ∃ m, w' = w.drewN m := quiet_here (compare_any x y (w.drewN k))

theorem seqI_snoc (i : Nat) : seqI 0 (i + 1) = seqI 0 i ++ [(i : Int)] := by
  unfold seqI
  rw [List.range_succ, List.map_append, List.map_singleton, Int.zero_add]
theorem ints_lt {w : World} {A : Option Addr} {n : Nat} {zs : List Int} (h : IntsAt w A n zs) (hn : 1 ≤ n) {ad : Addr} (ha : A = some ad) : ad.block < w.heap.size := by
  obtain ⟨ad', e, hlt, _⟩ := h.at_ (k := 0) (by omega)
  rw [ha] at e
  injection e with e
  subst e
  exact hlt

end Go.Proofs.YtigaopfhjimpmaaDoor
