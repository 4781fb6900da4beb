/- Circles: the contracts of the program's functions on floats. -/
import Derived.Test.YtnjipckpkcandaaDoorCirP
import Derived.Test.YtnjipckpkcandaaDoorFlt
import Derived.Laws.BitsAllLaws
namespace Go.Proofs.YtnjipckpkcandaaDoor
open Go.RowKit

theorem run_f64 {P : Program} {op : BinOp} {x y r : Nat} (t : TypeId) (h : floatBits op .f64 x y = some r) (w : World) : (binOp op t (.float .f64 x) (.float .f64 y)).run P w = .ok (.float .f64 r) w := run_float_arith w op t .f64 x y r h
/-- what the library's ways to whole numbers answer -/
def wholeS (way : Ieee.Toward) (x : Nat) : Ieee.Datum → Sem Value
  | .nan s t => if FloatKind.f64.format.quiet t = t then pure (.float .f64 x) else do
      let kept ← choose (.extern "math.Floor,Ceil,Trunc,RoundToEven.signallingNaN kept" 2)
      pure (.float .f64 (if kept == 1 then x else FloatKind.f64.encode (.nan s (FloatKind.f64.format.quiet t))))
  | d => pure (.float .f64 (FloatKind.f64.encode (d.integral way)))
theorem wholeS_is (name : String) (way : Ieee.Toward) (x : Nat) : Extern.MathFloor.toIntegral name way #[.float .f64 x] = wholeS way x (FloatKind.f64.decode x) := rfl
theorem wholeS_run {P : Program} (name : String) (way : Ieee.Toward) (b : Nat) (h : nanK .f64 b = false) (w : World) : ((Extern.MathFloor.toIntegral name way #[.float .f64 b]).run P w) = .ok (.float .f64 (Ieee.double.write ((Ieee.double.read b).integral way))) w := by
  have h' : (FloatKind.f64.decode b).isNaN = false := h
  rw [wholeS_is]
  have e : Ieee.double.write ((Ieee.double.read b).integral way) = FloatKind.f64.encode ((FloatKind.f64.decode b).integral way) := rfl
  rw [e]
  cases hd : FloatKind.f64.decode b with
  | nan s t => rw [hd] at h'; cases h'
  | infinity s => rfl
  | number s m p => rfl
theorem run_sqrt (b r : Nat) (h : Cir.sqrtB b = some r) (w : World) : (callFunc 56 #[.float .f64 b]).run Tryd.prog w = .ok (.value (.float .f64 r)) w := by
  rw [run_callFunc_extern Tryd.func56 (e := Extern.MathSqrt.sqrt) (by kernel_rfl) (by kernel_rfl) (by kernel_rfl) (by kernel_rfl)]
  have h2 : FloatKind.f64.format.sqrt b = some r := h
  have e : Extern.MathSqrt.sqrt #[.float .f64 b] = (match FloatKind.f64.format.sqrt b with
    | some r => pure (.float .f64 r)
    | none => do pure (.float .f64 (← choose (.nanBits .f64 b b)))) := rfl
  rw [e, h2]
  rfl
theorem sqrt_any (b r : Nat) (h : Cir.sqrtB b = some r) (w : World) : Calls Tryd.prog 33 #[.float .f64 b] w fun e w' => e = .returned (.float .f64 r) ∧ w = w' := by
  have h1 := fun (w : World) => run_sqrt b r h w
  clear h
  go_enter Tryd.func33, Tryd.ntmps33
  go_wp2_with fail
  go_ret
  exact ⟨rfl, rfl⟩
theorem run_neg64 {P : Program} (w : World) (b : Nat) : (Op.unary .neg (.float .f64 b)).run P w = .ok (.float .f64 (Op.negFloat .f64 b)) w := by simp [Op.unary]
end Go.Proofs.YtnjipckpkcandaaDoor
