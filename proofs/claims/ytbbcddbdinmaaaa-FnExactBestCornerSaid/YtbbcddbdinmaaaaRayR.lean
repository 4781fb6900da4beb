/- What RayOf hands back (printed by gen_ray.py). -/
import Derived.Test.YtbbcddbdinmaaaaRowR
namespace Go.Proofs.Ytbbcddbdinmaaaa
open Go.RowKit

def rayR (v : Int) (ns bs gs : List Nat) (most : Int) (near : Nat) : Option (List Nat) :=
  match rowS v ns bs gs most near with
  | some (a, b, _, col) => if col < 0 then none else some (rayT v.toNat col.toNat a b)
  | none => none
theorem rayR_no {v : Int} {ns bs gs : List Nat} {most : Int} {near : Nat} (h : rowS v ns bs gs most near = none) : rayR v ns bs gs most near = none := by unfold rayR; rw [h]
theorem rayR_neg {v : Int} {ns bs gs a : List Nat} {most : Int} {near cnt : Nat} {b : List Int} {col : Int} (h : rowS v ns bs gs most near = some (a, b, cnt, col)) (hc : col < 0) : rayR v ns bs gs most near = none := by unfold rayR; rw [h]; dsimp only; rw [if_pos hc]
theorem rayR_of {V : Nat} {ns bs gs a : List Nat} {most : Int} {near cnt cc : Nat} {b : List Int} (h : rowS V ns bs gs most near = some (a, b, cnt, (cc : Int))) : rayR V ns bs gs most near = some (rayT V cc a b) := by unfold rayR; rw [h]; dsimp only; rw [if_neg (by omega)]; simp only [Int.toNat_natCast]
def ryN (o : Option (List Nat)) : List Nat := match o with | some x => x | none => []
theorem ry_len (v : Int) (ns bs gs : List Nat) (most : Int) (near : Nat) : (ryN (rayR v ns bs gs most near)).length ≤ 200 := by
  cases hr : rowS v ns bs gs most near with
  | none => rw [rayR_no hr]; simp [ryN]
  | some s =>
    obtain ⟨a, b, cnt, col⟩ := s
    cases hk : rowOk v ns bs gs most near
    · rw [rowS_no hk] at hr; cases hr
    · unfold rowOk at hk
      rw [Bool.and_eq_true] at hk
      obtain ⟨V, rfl, hV, -, -, -⟩ := rows_bd hk.1
      unfold rayR
      rw [hr]
      dsimp only
      split
      · simp [ryN]
      · show (rayT _ _ a b).length ≤ 200
        rw [rayT_len]; simp only [Int.toNat_natCast]; omega
/-- what hands back a list of floats and whether there is one -/
def RetFb (z : List Nat) (b : Bool) (w : World) (e : Ending) (w' : World) : Prop :=
  ∃ (N : Option Addr) (nn cn : Nat), e = .returned (.tuple #[.slice N nn cn, .bool b]) ∧ OwnF 34 w.heap.size w' N nn cn z ∧ Below w.heap.size w w'
theorem nilFb (w w' : World) (b : Bool) (hb : Below w.heap.size w w') : RetFb [] b w (.returned (.tuple #[.slice none 0 0, .bool b])) w' :=
  ⟨none, 0, 0, rfl, OwnF.nil_ _ _ _, hb⟩
theorem rayT_lt {V c : Nat} {ns : List Nat} {bs : List Int} (h : c < V) : rayT V c ns bs = (rayUp V c ns bs bs.length).set c 1065353216 := by unfold rayT; rw [if_pos h]
theorem rayT_ge {V c : Nat} {ns : List Nat} {bs : List Int} (h : ¬ c < V) : rayT V c ns bs = rayUp V c ns bs bs.length := by unfold rayT; rw [if_neg h]
end Go.Proofs.Ytbbcddbdinmaaaa
