/- Rows solved, in plain numbers: plans, prices, rays. -/
import Derived.Test.YtbbcddbdinmaaaaSolR
import Derived.Test.YtbbcddbdinmaaaaTabI
namespace Go.Proofs.Ytbbcddbdinmaaaa
open Go.RowKit

/-- numbers put at the places of the basis that are below V -/
def plUp (V : Nat) (bs : List Int) (f : Nat → Nat) : Nat → List Nat
  | 0 => List.replicate V 0
  | i + 1 => if bs.getD i 0 < (V : Int) then (plUp V bs f i).set (bs.getD i 0).toNat (f i) else plUp V bs f i
theorem plUp_len (V : Nat) (bs : List Int) (f : Nat → Nat) : ∀ i, (plUp V bs f i).length = V
  | 0 => by simp [plUp]
  | i + 1 => by
    rw [plUp]
    split
    · rw [List.length_set, plUp_len V bs f i]
    · exact plUp_len V bs f i
theorem plUp_put {V : Nat} {bs : List Int} {f : Nat → Nat} {i j : Nat} (h : bs.getD i 0 = (j : Int)) (hj : j < V) : plUp V bs f (i + 1) = (plUp V bs f i).set j (f i) := by
  rw [plUp, h, if_pos (by omega), Int.toNat_natCast]
theorem plUp_skip {V : Nat} {bs : List Int} {f : Nat → Nat} {i j : Nat} (h : bs.getD i 0 = (j : Int)) (hj : ¬ j < V) : plUp V bs f (i + 1) = plUp V bs f i := by
  rw [plUp, h, if_neg (by omega)]
def planT (V : Nat) (ns : List Nat) (bs : List Int) : List Nat := plUp V bs (fun i => ns.getD (i * (V + bs.length + 1) + (V + bs.length)) 0) bs.length
def pricesUp (V m : Nat) (ns : List Nat) (k : Nat) : List Nat := (List.range k).map fun j => ns.getD (m * (V + m + 1) + (V + j)) 0
theorem pricesUp_succ (V m : Nat) (ns : List Nat) (k : Nat) : pricesUp V m ns (k + 1) = pricesUp V m ns k ++ [ns.getD (m * (V + m + 1) + (V + k)) 0] := by
  unfold pricesUp; rw [List.range_succ, List.map_append]; rfl
theorem pricesUp_len (V m : Nat) (ns : List Nat) (k : Nat) : (pricesUp V m ns k).length = k := by simp [pricesUp]
def rayUp (V c : Nat) (ns : List Nat) (bs : List Int) (i : Nat) : List Nat := plUp V bs (fun i => Op.negFloat .f32 (ns.getD (i * (V + bs.length + 1) + c) 0)) i
def rayT (V c : Nat) (ns : List Nat) (bs : List Int) : List Nat := if c < V then (rayUp V c ns bs bs.length).set c 1065353216 else rayUp V c ns bs bs.length
theorem rayT_len (V c : Nat) (ns : List Nat) (bs : List Int) : (rayT V c ns bs).length = V := by
  unfold rayT rayUp
  split
  · rw [List.length_set, plUp_len]
  · rw [plUp_len]
/-- a table's basis lies below its last column -/
theorem basOk_in {U : Int} {bs : List Int} (h : basOk U bs = true) {j : Nat} (hj : j < bs.length) : ∃ x : Nat, bs.getD j 0 = (x : Int) ∧ (x : Int) ≤ U := by
  unfold basOk basUp at h
  rw [List.all_eq_true] at h
  have := h j (List.mem_range.2 hj)
  rw [Bool.and_eq_true] at this
  obtain ⟨a, b⟩ := inB_iff.1 this.1
  obtain ⟨x, hx⟩ := Int.eq_ofNat_of_zero_le a
  exact ⟨x, hx, by omega⟩
theorem seqI_getD (u : Int) (m j : Nat) (h : j < m) : (seqI u m).getD j 0 = u + j := by simp [seqI, List.getD, h]
theorem basOk_seq (V m : Nat) : basOk ((V : Int) + m - 1) (seqI V m) = true := by
  unfold basOk basUp
  have hl : (seqI (V : Int) m).length = m := by simp [seqI]
  rw [hl, List.all_eq_true]
  intro i hi
  have hi := List.mem_range.1 hi
  rw [seqI_getD _ _ _ hi, Bool.and_eq_true]
  refine ⟨inB_iff.2 (by omega), ?_⟩
  cases hh : hasB ((seqI (V : Int) m).take i) ((V : Int) + i)
  · rfl
  · rw [hasB_iff, List.mem_take_iff_getElem] at hh
    obtain ⟨j, hj, he⟩ := hh
    rw [hl] at hj
    have : (seqI (V : Int) m).getD j 0 = V + i := by
      rw [← he]; simp [List.getD, List.getElem?_eq_getElem (show j < (seqI (V : Int) m).length by rw [hl]; omega)]
    rw [seqI_getD _ _ _ (by omega)] at this
    omega
/-- rows are solved: are they valid, and what comes -/
def rowOk (v : Int) (ns bs gs : List Nat) (most : Int) (near : Nat) : Bool := rowsB v ns bs gs && (inB most 0 64 && leastO (absK .f32 near))
def rowS (v : Int) (ns bs gs : List Nat) (most : Int) (near : Nat) : Option (List Nat × List Int × Nat × Int) :=
  if rowOk v ns bs gs most near = true then solveT v.toNat near most.toNat 0 (tabN v ns bs gs) (tabQ v ns bs gs) else none
def bestS (v : Int) (ns bs gs : List Nat) (most : Int) (near : Nat) : Option (List Nat × List Int) :=
  match rowS v ns bs gs most near with
  | some (a, b, _, col) => if col < 0 then some (a, b) else none
  | none => none
theorem rowS_no {v : Int} {ns bs gs : List Nat} {most : Int} {near : Nat} (h : rowOk v ns bs gs most near = false) : rowS v ns bs gs most near = none := by unfold rowS; rw [if_neg (by rw [h]; decide)]
theorem rowS_yes {V M near : Nat} {ns bs gs : List Nat} (h : rowOk V ns bs gs M near = true) : rowS V ns bs gs M near = solveT V near M 0 (tabT V bs.length ns bs gs (bs.length + 1)) (seqI V bs.length) := by
  unfold rowS
  rw [if_pos h]
  unfold rowOk at h
  rw [Bool.and_eq_true] at h
  unfold tabN tabQ
  rw [if_pos h.1, if_pos h.1]
  simp only [Int.toNat_natCast]
theorem bestS_no {v : Int} {ns bs gs : List Nat} {most : Int} {near : Nat} (h : rowS v ns bs gs most near = none) : bestS v ns bs gs most near = none := by unfold bestS; rw [h]
theorem bestS_of {v : Int} {ns bs gs a : List Nat} {most : Int} {near cnt : Nat} {b : List Int} {col : Int} (h : rowS v ns bs gs most near = some (a, b, cnt, col)) : bestS v ns bs gs most near = if col < 0 then some (a, b) else none := by unfold bestS; rw [h]
theorem tab_start (V : Nat) (ns bs gs : List Nat) : TabOk V (tabT V bs.length ns bs gs (bs.length + 1)) (seqI V bs.length) := by
  have hl : (seqI (V : Int) bs.length).length = bs.length := by simp [seqI]
  refine ⟨?_, ?_⟩
  · rw [tabT_len, hl]
  · rw [hl]; exact basOk_seq V bs.length
theorem rowS_inv {V M near cnt : Nat} {ns bs gs a : List Nat} {b : List Int} {col : Int} (h : rowS V ns bs gs M near = some (a, b, cnt, col)) :
    rowOk V ns bs gs M near = true ∧ TabOk V a b ∧ b.length = bs.length ∧ (col = -1 ∨ ∃ c : Nat, col = c ∧ c < V + bs.length) := by
  cases hk : rowOk V ns bs gs M near
  · rw [rowS_no hk] at h; cases h
  · rw [rowS_yes hk] at h
    have hl : (seqI (V : Int) bs.length).length = bs.length := by simp [seqI]
    have := solveT_inv (tab_start V ns bs gs) h
    rw [hl] at this
    exact ⟨rfl, this⟩
end Go.Proofs.Ytbbcddbdinmaaaa
