/- Pivots until nothing gains, in plain numbers. -/
import Derived.Test.YtbbcddbdinmaaaaPivPlain
import Derived.Test.YtbbcddbdinmaaaaTabPlain
namespace Go.Proofs.Ytbbcddbdinmaaaa
open Go.RowKit

/-- the first number below n that has a property, or -1 -/
def firstI (p : Nat → Bool) (n : Nat) : Int := match (List.range n).find? p with | some k => (k : Int) | none => -1
theorem firstI_hit {p : Nat → Bool} {k n : Nat} (hk : k < n) (h : p k = true) (h0 : (List.range k).all (fun j => !p j) = true) : firstI p n = k := by
  unfold firstI
  have : (List.range n).find? p = some k := by
    rw [List.find?_range_eq_some]
    refine ⟨h, List.mem_range.2 hk, fun j hj => ?_⟩
    rw [List.all_eq_true] at h0
    have := h0 j (List.mem_range.2 hj)
    simpa using this
  rw [this]
theorem firstI_none {p : Nat → Bool} {n : Nat} (h0 : (List.range n).all (fun j => !p j) = true) : firstI p n = -1 := by
  unfold firstI
  have : (List.range n).find? p = none := by
    rw [List.find?_range_eq_none]
    intro j hj
    rw [List.all_eq_true] at h0
    have := h0 j (List.mem_range.2 hj)
    simpa using this
  rw [this]
theorem firstI_bd (p : Nat → Bool) (n : Nat) : firstI p n = -1 ∨ ∃ k : Nat, firstI p n = k ∧ k < n := by
  unfold firstI
  cases h : (List.range n).find? p with
  | none => exact .inl rfl
  | some k => exact .inr ⟨k, rfl, List.mem_range.1 (List.mem_of_find?_eq_some h)⟩
/-- does a column gain -/
def gainB (ns : List Nat) (M W near k : Nat) : Bool := FloatKind.f32.format.order (ns.getD (M * W + k) 0) (negF near) == some .lt
def enterT (ns : List Nat) (m W near : Nat) : Int := firstI (gainB ns m W near) (W - 1)
/-- the row that leaves, step for step: the best row and its quotient -/
def leaveS (ns : List Nat) (bs : List Int) (W near c : Nat) (s : Int × Option Nat) (i : Nat) : Int × Option Nat :=
  if (FloatKind.f32.format.order (ns.getD (i * W + c) 0) near == some .gt) = false then s
  else if decide (s.1 < 0) || (ford .f32 (fop .quo .f32 (fC ns W i (W - 1)) (fC ns W i c)) s.2 == some .lt || (ford .f32 (fop .quo .f32 (fC ns W i (W - 1)) (fC ns W i c)) s.2 == some .eq && decide (bs.getD i 0 < bs.getD s.1.toNat 0))) then ((i : Int), fop .quo .f32 (fC ns W i (W - 1)) (fC ns W i c))
  else s
def leaveUp (ns : List Nat) (bs : List Int) (W near c : Nat) : Nat → Int × Option Nat
  | 0 => (-1, some 0)
  | i + 1 => leaveS ns bs W near c (leaveUp ns bs W near c i) i
def leaveT (ns : List Nat) (bs : List Int) (W near c : Nat) : Int := (leaveUp ns bs W near c bs.length).1
theorem leaveUp_bd (ns : List Nat) (bs : List Int) (W near c : Nat) : ∀ i, (leaveUp ns bs W near c i).1 = -1 ∨ ∃ k : Nat, (leaveUp ns bs W near c i).1 = k ∧ k < i
  | 0 => .inl rfl
  | i + 1 => by
    rw [leaveUp, leaveS]
    have ih : (leaveUp ns bs W near c i).1 = -1 ∨ ∃ k : Nat, (leaveUp ns bs W near c i).1 = k ∧ k < i + 1 := (leaveUp_bd ns bs W near c i).imp id fun ⟨k, h1, h2⟩ => ⟨k, h1, by omega⟩
    split
    · exact ih
    · split
      · exact .inr ⟨i, rfl, by omega⟩
      · exact ih
/-- what pivots lead to: the table, how many, the column without an end or -1; none: no end in time, or no table -/
def solveT (V near : Nat) : Nat → Nat → List Nat → List Int → Option (List Nat × List Int × Nat × Int)
  | fuel, count, ns, bs =>
    if enterT ns bs.length (V + bs.length + 1) near < 0 then some (ns, bs, count, -1)
    else match fuel with
      | 0 => none
      | fuel + 1 =>
        if leaveT ns bs (V + bs.length + 1) near (enterT ns bs.length (V + bs.length + 1) near).toNat < 0 then some (ns, bs, count, enterT ns bs.length (V + bs.length + 1) near)
        else match pivT V ns bs (leaveT ns bs (V + bs.length + 1) near (enterT ns bs.length (V + bs.length + 1) near).toNat).toNat (enterT ns bs.length (V + bs.length + 1) near).toNat with
          | none => none
          | some (ns', bs') => solveT V near fuel (count + 1) ns' bs'
theorem solveT_end {V near fuel count : Nat} {ns : List Nat} {bs : List Int} (h : enterT ns bs.length (V + bs.length + 1) near < 0) : solveT V near fuel count ns bs = some (ns, bs, count, -1) := by
  unfold solveT; rw [if_pos h]
theorem solveT_zero {V near count : Nat} {ns : List Nat} {bs : List Int} (h : ¬ enterT ns bs.length (V + bs.length + 1) near < 0) : solveT V near 0 count ns bs = none := by
  unfold solveT; rw [if_neg h]
theorem solveT_free {V near fuel count c : Nat} {ns : List Nat} {bs : List Int} (h : enterT ns bs.length (V + bs.length + 1) near = c) (h2 : leaveT ns bs (V + bs.length + 1) near c < 0) : solveT V near (fuel + 1) count ns bs = some (ns, bs, count, (c : Int)) := by
  unfold solveT; rw [h, if_neg (by omega)]; simp only [Int.toNat_natCast]; rw [if_pos h2]
theorem solveT_stop {V near fuel count c r : Nat} {ns : List Nat} {bs : List Int} (h : enterT ns bs.length (V + bs.length + 1) near = c) (h2 : leaveT ns bs (V + bs.length + 1) near c = r) (h3 : pivT V ns bs r c = none) : solveT V near (fuel + 1) count ns bs = none := by
  unfold solveT; rw [h, if_neg (by omega)]; simp only [Int.toNat_natCast]; rw [h2, if_neg (by omega)]; simp only [Int.toNat_natCast]; rw [h3]
theorem solveT_go {V near fuel count c r : Nat} {ns ns' : List Nat} {bs bs' : List Int} (h : enterT ns bs.length (V + bs.length + 1) near = c) (h2 : leaveT ns bs (V + bs.length + 1) near c = r) (h3 : pivT V ns bs r c = some (ns', bs')) : solveT V near (fuel + 1) count ns bs = solveT V near fuel (count + 1) ns' bs' := by
  conv => lhs; unfold solveT
  rw [h, if_neg (by omega)]; simp only [Int.toNat_natCast]; rw [h2, if_neg (by omega)]; simp only [Int.toNat_natCast]; rw [h3]
theorem pivT_len {V r c : Nat} {ns ns' : List Nat} {bs bs' : List Int} (h : pivT V ns bs r c = some (ns', bs')) : ns'.length = (bs.length + 1) * (V + bs.length + 1) ∧ bs'.length = bs.length ∧ bs' = bs.set r c := by
  unfold pivT at h
  split at h
  · cases h
  · split at h
    · injection h with h
      injection h with h1 h2
      subst h1 h2
      simp [pivL]
    · cases h
theorem leaveS_skip {ns : List Nat} {bs : List Int} {W near c i x : Nat} {s : Int × Option Nat} (hx : ns.getD (i * W + c) 0 = x) (h : (FloatKind.f32.format.order x near == some .gt) = false) : leaveS ns bs W near c s i = s := by
  unfold leaveS; rw [hx, if_pos h]
theorem leaveS_of {ns : List Nat} {bs : List Int} {W near c i x y q lb : Nat} {bst : Int} (hx : ns.getD (i * W + c) 0 = x) (hy : ns.getD (i * W + (W - 1)) 0 = y) (h : (FloatKind.f32.format.order x near == some .gt) = true) (hq : absK .f32 q = fop .quo .f32 (absK .f32 y) (absK .f32 x)) :
    leaveS ns bs W near c (bst, absK .f32 lb) i = if (decide (bst < 0) || (FloatKind.f32.format.order q lb == some .lt || (FloatKind.f32.format.order q lb == some .eq && decide (bs.getD i 0 < bs.getD bst.toNat 0)))) = true then ((i : Int), absK .f32 q) else (bst, absK .f32 lb) := by
  unfold leaveS fC; rw [hx, hy, if_neg (by rw [h]; decide), ← hq, ← ford_abs]
end Go.Proofs.Ytbbcddbdinmaaaa
