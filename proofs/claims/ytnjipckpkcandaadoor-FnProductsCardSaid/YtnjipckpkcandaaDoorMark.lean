/- Contracts of the laws' marking of memory, and posts of several results. -/
import Derived.Test.YtnjipckpkcandaaDoorLaw
namespace Go.Proofs.YtnjipckpkcandaaDoor
open Go.RowKit

def RetV (v : Value) (w : World) (e : Ending) (w' : World) : Prop := e = .returned v ∧ Below w.heap.size w w'
def RetLB (T : Nat) (zs : List Int) (b : Bool) (w : World) (e : Ending) (w' : World) : Prop :=
  ∃ (A : Option Addr) (n c : Nat), e = .returned (.tuple #[.slice A n c, .bool b]) ∧ OwnI T w.heap.size w' A n c zs ∧ Below w.heap.size w w'
def RetLIB (T : Nat) (zs : List Int) (i : Int) (b : Bool) (w : World) (e : Ending) (w' : World) : Prop :=
  ∃ (A : Option Addr) (n c : Nat), e = .returned (.tuple #[.slice A n c, .int .i64 i, .bool b]) ∧ OwnI T w.heap.size w' A n c zs ∧ Below w.heap.size w w'

theorem ret_IB {i j : Int} {a b : Bool} (h1 : i = j) (h2 : a = b) : Ending.returned (.tuple #[.int .i64 i, .bool a]) = .returned (.tuple #[.int .i64 j, .bool b]) := by rw [h1, h2]
theorem pure_ret {P : Program} {f : FuncId} {args : Array Value} {w : World} {v : Value} (h : Calls P f args w fun e w' => e = .returned v ∧ w = w') : Calls P f args w (RetV v w) :=
  h.mono fun _ _ ⟨h1, h2⟩ => ⟨h1, h2 ▸ Below.refl _ _⟩

end Go.Proofs.YtnjipckpkcandaaDoor
