/- Least covers, in plain lists. -/
import Derived.Test.YtbdcnbnaammagaaAppend
import Derived.Test.YtbdcnbnaammagaaSets
namespace Go.Proofs.Ytbdcnbnaammagaa
open Go.RowKit

/-- what the sets of a mask hold, the first j of them -/
def orTo (ss : List Nat) (m j : Nat) : Nat := (List.range j).foldl (fun h i => if m.testBit i then h ||| ss.getD i 0 else h) 0
def orM (ss : List Nat) (m : Nat) : Nat := orTo ss m ss.length
def orD (ss : List Nat) (D : List Int) : Nat := D.foldl (fun h i => h ||| ss.getD i.toNat 0) 0
theorem orTo_succ (ss : List Nat) (m j : Nat) : orTo ss m (j + 1) = if m.testBit j then orTo ss m j ||| ss.getD j 0 else orTo ss m j := by
  unfold orTo
  rw [List.range_succ, List.foldl_append]; rfl
theorem orD_eq (ss : List Nat) (m : Nat) (hm : m < 2 ^ ss.length) (hl : ss.length ≤ 64) : orD ss (digitsOf m) = orM ss m := by
  rw [digitsOf_eq m ss.length hm hl, orD, digitsTo, List.foldl_map, List.foldl_filter, orM, orTo]
  rfl
theorem orD_snoc (ss : List Nat) (D : List Int) (j : Nat) (hj : j < D.length) : orD ss (D.take (j + 1)) = orD ss (D.take j) ||| ss.getD (D.getD j 0).toNat 0 := by
  rw [List.take_succ_eq_append_getElem hj, orD, List.foldl_append, orD]
  simp [List.getD, List.getElem?_eq_getElem hj]

/-- how many digits are 1 -/
def ones (m : Nat) : Nat := (digitsOf m).length
theorem digitsTo_half (m : Nat) : ∀ i, (digitsTo m (i + 1)).length = m % 2 + (digitsTo (m / 2) i).length := by
  intro i
  unfold digitsTo
  rw [List.length_map, List.length_map, List.range_succ_eq_map, List.filter_cons, List.filter_map]
  have e : ((fun j => m.testBit j) ∘ Nat.succ) = fun j => (m / 2).testBit j := by
    funext j
    simp [Function.comp, Nat.testBit_succ]
  rw [e]
  by_cases h : m % 2 = 1
  · simp [Nat.testBit_zero, h, Nat.add_comm]
  · have h0 : m % 2 = 0 := by omega
    simp [Nat.testBit_zero, h0]
theorem ones_half (m : Nat) (hm : m < 2 ^ 63) : ones m = m % 2 + ones (m / 2) := by
  unfold ones
  rw [show digitsOf m = digitsTo m (63 + 1) from rfl, digitsTo_half, digitsOf_eq (m / 2) 63 (by omega) (by omega)]
theorem ones_zero : ones 0 = 0 := by decide
theorem ones_le (m : Nat) : ones m ≤ 64 := digitsTo_len m 64

/-- the first smallest cover among the first k masks -/
def bestC (ss : List Nat) (full : Nat) : Nat → Option Nat
  | 0 => none
  | k + 1 => if (orM ss k == full && (match bestC ss full k with | none => true | some b => decide (ones k < ones b))) = true then some k else bestC ss full k
theorem bestC_lt (ss : List Nat) (full : Nat) : ∀ k b, bestC ss full k = some b → b < k
  | 0, b, h => by simp [bestC] at h
  | k + 1, b, h => by
    have key : ∀ (t : Bool), (if t = true then some k else bestC ss full k) = some b → b < k + 1 := by
      intro t ht
      cases t
      · have := bestC_lt ss full k b (by simpa using ht); omega
      · simp at ht; omega
    exact key _ h

/-- the numbers that the program keeps: the mask and how many sets it has; none: 0 and -1 -/
def bN : Option Nat → Nat | none => 0 | some b => b
def bL : Option Nat → Int | none => -1 | some b => (ones b : Int)
def bM : Option Nat → Int | none => -1 | some b => (b : Int)

theorem bestC_yes1 {ss : List Nat} {full k : Nat} (h1 : orM ss k = full) (h2 : bestC ss full k = none) : bestC ss full (k + 1) = some k := by
  unfold bestC; rw [h2]; simp [h1]
theorem bestC_yes2 {ss : List Nat} {full k b : Nat} (h1 : orM ss k = full) (h2 : bestC ss full k = some b) (h3 : ones k < ones b) : bestC ss full (k + 1) = some k := by
  unfold bestC; rw [h2]; simp [h1, h3]
theorem bestC_no1 {ss : List Nat} {full k : Nat} (h1 : orM ss k ≠ full) : bestC ss full (k + 1) = bestC ss full k := by
  have : (orM ss k == full) = false := by simpa using h1
  conv => lhs; unfold bestC
  simp [this]
theorem bestC_no2 {ss : List Nat} {full k b : Nat} (h2 : bestC ss full k = some b) (h3 : ¬ ones k < ones b) : bestC ss full (k + 1) = some b := by
  unfold bestC; rw [h2]; simp [h3]

def coverOf (a : Int) (zs : List Int) : Option Nat := bestC (natL zs) (2 ^ a.toNat - 1) (2 ^ zs.length)
def coverV (a : Int) (zs : List Int) : List Int := if setsB a zs = true then (match coverOf a zs with | none => [] | some b => digitsOf b) else []
def coverB (a : Int) (zs : List Int) : Bool := setsB a zs && (coverOf a zs).isSome
theorem coverV_no {a : Int} {zs : List Int} (h : setsB a zs = false) : coverV a zs = [] := by unfold coverV; rw [if_neg (by rw [h]; decide)]
theorem coverV_none {a : Int} {zs : List Int} (h2 : coverOf a zs = none) : coverV a zs = [] := by unfold coverV; rw [h2]; simp
theorem coverV_some {a : Int} {zs : List Int} {b : Nat} (h : setsB a zs = true) (h2 : coverOf a zs = some b) : coverV a zs = digitsOf b := by unfold coverV; rw [if_pos h, h2]
theorem coverV_len (a : Int) (zs : List Int) : (coverV a zs).length ≤ 1048576 := by
  unfold coverV
  split
  · split
    · simp
    · exact Nat.le_trans (digitsTo_len _ 64) (by omega)
  · simp
end Go.Proofs.Ytbdcnbnaammagaa
