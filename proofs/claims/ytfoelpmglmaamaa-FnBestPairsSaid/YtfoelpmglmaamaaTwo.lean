/- Two lists as results. -/
import Derived.Test.YtfoelpmglmaamaaMark
namespace Go.Proofs.Ytfoelpmglmaamaa
open Go.RowKit

def RetLLB (T : Nat) (zs ys : List Int) (b : Bool) (w : World) (e : Ending) (w' : World) : Prop :=
  ∃ (A : Option Addr) (n c : Nat) (A' : Option Addr) (n' c' : Nat), e = .returned (.tuple #[.slice A n c, .slice A' n' c', .bool b]) ∧ OwnI T w.heap.size w' A n c zs ∧ OwnI T w.heap.size w' A' n' c' ys ∧ Sep A A' ∧ Below w.heap.size w w'
theorem ret_LLB {A : Option Addr} {n c : Nat} {A' : Option Addr} {n' c' : Nat} {a b : Bool} (h : a = b) : Ending.returned (.tuple #[.slice A n c, .slice A' n' c', .bool a]) = .returned (.tuple #[.slice A n c, .slice A' n' c', .bool b]) := by rw [h]
theorem sep_none {A : Option Addr} : Sep none A := fun _ _ h => by cases h
theorem sep_ne {g h : Nat} {i j : Nat} (hn : g ≠ h) : Sep (some ⟨g, i, none⟩) (some ⟨h, j, none⟩) := by
  intro a b ha hb
  injection ha with ha; injection hb with hb
  subst ha; subst hb
  exact hn
end Go.Proofs.Ytfoelpmglmaamaa
