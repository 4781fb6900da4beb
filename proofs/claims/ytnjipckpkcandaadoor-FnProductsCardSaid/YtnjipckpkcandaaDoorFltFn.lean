/- Floats: the contracts of small functions: finite numbers, lists of them, copies, what the laws hold against each other. -/
import Derived.Test.YtnjipckpkcandaaDoorFltMem
import Derived.Test.YtnjipckpkcandaaDoorLaw
import Derived.Test.YtnjipckpkcandaaDoorMark
import Derived.Deep.RegionHeld3
namespace Go.Proofs.YtnjipckpkcandaaDoor
open Go.RowKit

/-- a number is finite: what is taken from itself is zero then alone -/
def finO (x : Option Nat) : Bool := ford .f32 (fop .sub .f32 x x) (some 0) == some .eq
theorem abs0 : absK .f32 0 = some 0 := by decide
theorem abs0d : absK .f64 0 = some 0 := by decide
theorem finO_nan : finO none = false := rfl
def allFin (bs : List Nat) : Bool := bs.all fun b => finO (absK .f32 b)
theorem infoF : (Tryd.prog.info? 28).map (fun i => (i.zero, i.size, i.bytes)) = some (some (.float .f32 0), 1, 4) := by kernel_rfl

theorem run_store_f (w : World) (a : Addr) (k : FloatKind) (b : Nat) (m : Mode) : (store a (.float k b) m).run Tryd.prog w = stored Tryd.prog w a (.float k b) m := run_store _ w a _ m rfl
theorem isFinite_any (b : Nat) (w : World) :
    Calls Tryd.prog 51 #[.float .f32 b] w fun e w' => e = .returned (.bool (finO (absK .f32 b))) ∧ Drew w w' := by
  go_enter Tryd.func51, Tryd.ntmps51
  go_wp2_with (refine wp_fop _ rfl .sub _ _ _ _ rfl rfl .f32 b b rfl rfl ?_; intro r w1 hr _ hd)
  go_ret
  exact ⟨ret_bool (by rw [ford_abs, hr, abs0]; rfl), hd⟩
theorem l01Finite_any (b : Nat) (w : World) :
    Calls Tryd.prog 52 #[.float .f32 b] w fun e w' => e = .returned (.bool (finO (absK .f32 b))) ∧ Drew w w' := by
  go_enter Tryd.func52, Tryd.ntmps52
  go_wp2_with (refine wp_fop _ rfl .sub _ _ _ _ rfl rfl .f32 b b rfl rfl ?_; intro r w1 hr _ hd)
  go_ret
  exact ⟨ret_bool (by rw [ford_abs, hr, abs0]; rfl), hd⟩
/-- a number is finite and at least 0 -/
def leastO (x : Option Nat) : Bool := finO x && (ford .f32 x (some 0) == some .gt || ford .f32 x (some 0) == some .eq)
/-- The call hands back a slice of its own that holds these floats, and leaves what was there. -/
def RetF (T : Nat) (bs : List Nat) (w : World) (e : Ending) (w' : World) : Prop :=
  ∃ (A : Option Addr) (c : Nat), e = .returned (.slice A bs.length c) ∧ OwnF T w.heap.size w' A bs.length c bs ∧ Below w.heap.size w w'
theorem take_rep_setF (zs : List Nat) (k n : Nat) (x : Nat) (hn : zs.length = n) (hk : k < n) :
    (zs.take k ++ List.replicate (n - k) x).set k (zs.getD k 0) = zs.take (k + 1) ++ List.replicate (n - (k + 1)) x := by
  apply List.ext_getElem?
  intro j
  have hl : (zs.take k).length = k := by simp; omega
  rw [List.getElem?_set]
  simp only [List.length_append, List.length_replicate, hl]
  by_cases h1 : k = j
  · subst h1
    rw [if_pos rfl, if_pos (by omega), List.getElem?_append_left (by simp; omega), List.getElem?_take, if_pos (by omega)]
    simp [List.getD, List.getElem?_eq_getElem (show k < zs.length by omega)]
  · rw [if_neg h1]
    by_cases h2 : j < k
    · rw [List.getElem?_append_left (by omega), List.getElem?_append_left (by simp; omega)]
      simp [List.getElem?_take, h2, Nat.lt_succ_of_lt h2]
    · rw [List.getElem?_append_right (by omega), List.getElem?_append_right (by simp; omega)]
      have hl' : (zs.take (k+1)).length = k + 1 := by simp; omega
      rw [hl, hl', List.getElem?_replicate, List.getElem?_replicate]
      by_cases h3 : j < n
      · rw [if_pos (by omega), if_pos (by omega)]
      · rw [if_neg (by omega), if_neg (by omega)]
end Go.Proofs.YtnjipckpkcandaaDoor
