/- What PivotTable hands back. -/
import Derived.Test.YtbbcddbdinmaaaaPivPlain
import Derived.Test.YtbbcddbdinmaaaaIntA
import Derived.Test.YtbbcddbdinmaaaaFltFn
import Derived.Test.YtbbcddbdinmaaaaSolPlain
namespace Go.Proofs.Ytbbcddbdinmaaaa
open Go.RowKit

/-- what hands back a table and whether there is one -/
def RetTb (v : Int) (nums : List Nat) (bas : List Int) (b : Bool) (w : World) (e : Ending) (w' : World) : Prop :=
  ∃ (N : Option Addr) (nn cn : Nat) (Q : Option Addr) (qn cq : Nat), e = .returned (.tuple #[.agg #[.int .i64 v, .slice N nn cn, .slice Q qn cq], .bool b]) ∧ OwnF 34 w.heap.size w' N nn cn nums ∧ OwnI 2 w.heap.size w' Q qn cq bas ∧ Below w.heap.size w w'
def oV (v : Int) (o : Option (List Nat × List Int)) : Int := match o with | some _ => v | none => 0
def oN (o : Option (List Nat × List Int)) : List Nat := match o with | some x => x.1 | none => []
def oQ (o : Option (List Nat × List Int)) : List Int := match o with | some x => x.2 | none => []
def pvB (v : Int) (ns : List Nat) (bs : List Int) (row col : Int) : Bool := tblB v ns bs && (inB row 0 ((bs.length : Int) - 1) && inB col 0 (v + bs.length - 1))
def pvR (v : Int) (ns : List Nat) (bs : List Int) (row col : Int) : Option (List Nat × List Int) := if pvB v ns bs row col = true then pivT v.toNat ns bs row.toNat col.toNat else none
theorem pvR_no {v : Int} {ns : List Nat} {bs : List Int} {row col : Int} (h : pvB v ns bs row col = false) : pvR v ns bs row col = none := by unfold pvR; rw [if_neg (by rw [h]; decide)]
theorem pvR_yes {V r c : Nat} {ns : List Nat} {bs : List Int} (h : pvB (V : Int) ns bs (r : Int) (c : Int) = true) : pvR V ns bs r c = pivT V ns bs r c := by unfold pvR; rw [if_pos h]; rfl
theorem nilTb (w w' : World) (b : Bool) (hb : Below w.heap.size w w') : RetTb 0 [] [] b w (.returned (.tuple #[.agg #[.int .i64 0, .slice none 0 0, .slice none 0 0], .bool b])) w' :=
  ⟨none, 0, 0, none, 0, 0, rfl, OwnF.nil_ _ _ _, OwnI.nil_ _ _ _, hb⟩
theorem pv_len (v : Int) (ns : List Nat) (bs : List Int) (row col : Int) : (oN (pvR v ns bs row col)).length ≤ 200 ∧ (oQ (pvR v ns bs row col)).length ≤ 200 := by
  unfold pvR
  split
  · rename_i h
    unfold pvB at h
    rw [Bool.and_eq_true] at h
    obtain ⟨V, rfl, hV, hm, -, -, -⟩ := tbl_bd h.1
    cases hp : pivT (V : Int).toNat ns bs row.toNat col.toNat with
    | none => simp [oN, oQ]
    | some o =>
      obtain ⟨ns', bs'⟩ := o
      obtain ⟨h1, h2, -⟩ := pivT_len hp
      have h3 : (bs.length + 1) * (V + bs.length + 1) ≤ 9 * 17 := Nat.mul_le_mul (by omega) (by omega)
      simp only [Int.toNat_natCast] at h1
      exact ⟨by show ns'.length ≤ 200; omega, by show bs'.length ≤ 200; omega⟩
  · simp [oN, oQ]
end Go.Proofs.Ytbbcddbdinmaaaa
