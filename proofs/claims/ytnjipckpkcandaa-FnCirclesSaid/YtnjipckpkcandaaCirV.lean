/- Tenths of single products: what is checked. -/
import Derived.Test.YtnjipckpkcandaaCirU
namespace Go.Proofs.Ytnjipckpkcandaa
open Ieee
namespace Cir
variable (O : FO)
def eqI (a : Option Int) (b : Nat) : Bool := match a with | some x => decide (x + 200 = (b : Int)) | none => false
/-- x is finite and greater than nought -/
def posC (x : Nat) : Bool := cond (eqN (Fst.subF single Fst.c32 x x) 0) (cond (FloatKind.f32.format.order x 0 == some .lt || FloatKind.f32.format.order x 0 == some .eq) false true) false
def tenC (n : Nat) : Bool := Fst.force n fun n => cond (isP n) (Fst.force (x32 n) fun x => cond (posC x) (eqI (tenO O x) (tenN n)) false) true
end Cir
end Go.Proofs.Ytnjipckpkcandaa
