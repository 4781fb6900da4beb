/- NearTour: the contracts. -/
import Derived.Test.YtnliekbckdbaaaaNear
namespace Go.Proofs.Ytnliekbckdbaaaa
open Go.RowKit

theorem ret_LB {A : Option Addr} {n c : Nat} {a b : Bool} (h : a = b) : Ending.returned (.tuple #[.slice A n c, .bool a]) = .returned (.tuple #[.slice A n c, .bool b]) := by rw [h]


end Go.Proofs.Ytnliekbckdbaaaa
