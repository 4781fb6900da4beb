/- Bits of a float32 and sameness of numbers (the reference's). -/
import Derived.Test.YtnjipckpkcandaaDoorFlt
import Derived.Test.YtnjipckpkcandaaDoorCirJ
namespace Go.Proofs.YtnjipckpkcandaaDoor
open Go.RowKit
/-- the bits of a number, those of one 'not a number' for all of them -/
def bitsB (x : Nat) : Nat := if nanK .f32 x = true then 2143289344 else x
theorem run_f32bitsC (b : Nat) (w : World) : (callFunc 46 #[.float .f32 b]).run Tryd.prog w = .ok (.value (.int .u32 b)) w := by
  rw [run_callFunc_extern Tryd.func46 (e := Extern.MathFloatBits.float32bits) (by kernel_rfl) (by kernel_rfl) (by kernel_rfl) (by kernel_rfl)]
  rfl
/-- a number differs from itself just if it is no number -/
theorem order_selfE {k : FloatKind} {b : Nat} : (k.format.order b b == some .eq) = !nanK k b := by
  have h : ∀ d : Ieee.Datum, (d.order d == some .eq) = !d.isNaN := by
    intro d
    cases d with
    | nan s f => rfl
    | infinity s => cases s <;> rfl
    | number s m p =>
      show (some (compare _ _) == some Ordering.eq) = true
      rw [Std.compare_self]; rfl
  exact h _
theorem order_selfN {k : FloatKind} {b : Nat} : (k.format.order b b != some .eq) = nanK k b := by
  rw [bne, order_selfE, Bool.not_not]
theorem specBits_any (x : Nat) (hx : x < 4294967296) (w : World) : Calls Tryd.prog 55 #[.float .f32 x] w fun e w' => e = .returned (.int .i64 (bitsB x : Nat)) ∧ w = w' := by
  have h1 := fun (b : Nat) (w : World) => run_f32bitsC b w
  cases hn : nanK .f32 x
  · have d1 : (FloatKind.f32.format.order x x != some .eq) = false := by rw [order_selfN, hn]
    have e1 : bitsB x = x := by unfold bitsB; rw [if_neg (by rw [hn]; decide)]
    rw [e1]
    clear e1 hn
    go_enter Tryd.func55, Tryd.ntmps55
    go_wp2_with fail
    go_ret
    exact ⟨rfl, rfl⟩
  · have d1 : (FloatKind.f32.format.order x x != some .eq) = true := by rw [order_selfN, hn]
    have e1 : bitsB x = 2143289344 := by unfold bitsB; rw [if_pos hn]
    rw [e1]
    clear e1 hn
    go_enter Tryd.func55, Tryd.ntmps55
    go_wp2_with fail
    go_ret
    exact ⟨rfl, rfl⟩
theorem specL_any (x y : Nat) (hx : x < 4294967296) (hy : y < 4294967296) (w : World) : Calls Tryd.prog 32 #[.float .f32 x, .float .f32 y] w fun e w' => e = .returned (.bool (decide (bitsB x = bitsB y))) ∧ w = w' := by
  have HX := fun W => Lib.hid (specBits_any x hx W)
  have HY := fun W => Lib.hid (specBits_any y hy W)
  have e1 : ((bitsB x : Int) == (bitsB y : Int)) = decide (bitsB x = bitsB y) := by
    rw [show ((bitsB x : Int) == (bitsB y : Int)) = decide ((bitsB x : Int) = (bitsB y : Int)) from rfl, decide_eq_decide]; omega
  generalize decide (bitsB x = bitsB y) = d at *
  generalize bitsB x = p at *
  generalize bitsB y = q at *
  have E1 := Lib.hid e1
  clear e1 hx hy
  go_enter Tryd.func32, Tryd.ntmps32
  go_wp2_with fail
  refine (HX _).out.mono ?_
  rintro e w1 ⟨rfl, rfl⟩
  go_wp2_with fail
  refine (HY _).out.mono ?_
  rintro e w1 ⟨rfl, rfl⟩
  go_wp2_with fail
  go_ret
  exact ⟨ret_bool E1.out, rfl⟩
theorem specSame_any (x y : Nat) (hx : x < 4294967296) (hy : y < 4294967296) (w : World) : Calls Tryd.prog 9 #[.float .f32 x, .float .f32 y] w fun e w' => e = .returned (.bool (decide (bitsB x = bitsB y))) ∧ w = w' := by
  have H := fun W => Lib.hid (specL_any x y hx hy W)
  generalize decide (bitsB x = bitsB y) = d at *
  clear hx hy
  go_enter Tryd.func9, Tryd.ntmps9
  go_wp2_with fail
  refine (H _).out.mono ?_
  rintro e w1 ⟨rfl, rfl⟩
  go_wp2_with fail
  go_ret
  exact ⟨rfl, rfl⟩
end Go.Proofs.YtnjipckpkcandaaDoor
