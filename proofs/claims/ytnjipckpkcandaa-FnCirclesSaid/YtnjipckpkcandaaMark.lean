/- Contracts of the laws' marking of memory, and posts of several results. -/
import Derived.Test.YtnjipckpkcandaaLaw
namespace Go.Proofs.Ytnjipckpkcandaa
open Go.RowKit

def RetV (v : Value) (w : World) (e : Ending) (w' : World) : Prop := e = .returned v ∧ Below w.heap.size w w'
def RetLB (T : Nat) (zs : List Int) (b : Bool) (w : World) (e : Ending) (w' : World) : Prop :=
  ∃ (A : Option Addr) (n c : Nat), e = .returned (.tuple #[.slice A n c, .bool b]) ∧ OwnI T w.heap.size w' A n c zs ∧ Below w.heap.size w w'
def RetLIB (T : Nat) (zs : List Int) (i : Int) (b : Bool) (w : World) (e : Ending) (w' : World) : Prop :=
  ∃ (A : Option Addr) (n c : Nat), e = .returned (.tuple #[.slice A n c, .int .i64 i, .bool b]) ∧ OwnI T w.heap.size w' A n c zs ∧ Below w.heap.size w w'

theorem ret_IB {i j : Int} {a b : Bool} (h1 : i = j) (h2 : a = b) : Ending.returned (.tuple #[.int .i64 i, .bool a]) = .returned (.tuple #[.int .i64 j, .bool b]) := by rw [h1, h2]
theorem pure_ret {P : Program} {f : FuncId} {args : Array Value} {w : World} {v : Value} (h : Calls P f args w fun e w' => e = .returned v ∧ w = w') : Calls P f args w (RetV v w) :=
  h.mono fun _ _ ⟨h1, h2⟩ => ⟨h1, h2 ▸ Below.refl _ _⟩

theorem eqInt64S_same (A B : Option Addr) (n c m d : Nat) (zs : List Int) (w : World) (hx : IntsAt w A n zs) (hy : IntsAt w B m zs) (hn : n ≤ maxLen) :
    Calls Try.prog 18 #[.slice A n c, .slice B m d] w (RetV (.bool true) w) :=
  (eqInt64S_any A B n c m d zs zs w hx hy hn).mono fun _ _ ⟨h1, q, h2⟩ => ⟨by rw [h1, decide_eq_true rfl], h2 ▸ ext_drewN (Below.refl _ _) q⟩

theorem toInt64S_len (A : Option Addr) (n c : Nat) (zs : List Int) (w : World) (h : IntsAt w A n zs) (hl : n ≤ 1048576) :
    Calls Try.prog 16 #[.slice A n c] w fun e w' => ∃ (A' : Option Addr) (c' : Nat), e = .returned (.slice A' n c') ∧ OwnI 2 w.heap.size w' A' n c' zs ∧ Below w.heap.size w w' :=
  (toInt64S_any A n c zs w h hl).mono fun _ _ ⟨A', n', c', h1, h2, h3⟩ => by
    obtain rfl : n = n' := h.len.symm.trans h2.len
    exact ⟨A', c', h1, h2, h3⟩

end Go.Proofs.Ytnjipckpkcandaa
