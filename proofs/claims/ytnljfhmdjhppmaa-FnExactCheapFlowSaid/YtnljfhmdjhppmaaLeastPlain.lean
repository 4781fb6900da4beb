/- 'least' of the program, in plain lists. -/
import Derived.Test.YtnljfhmdjhppmaaReachS
namespace Go.Proofs.Ytnljfhmdjhppmaa
open Go.RowKit

/-- longs, which are known, by which link each was made less last, and the last node made less -/
structure LeastS where
  d : List Int
  k : List Bool
  b : List Int
  e : Int
def leastGo (s : LeastS) (l : LinkR) : Bool := s.k.getD l.fr.toNat false && (!s.k.getD l.to_.toNat false || decide (s.d.getD l.fr.toNat 0 + l.cost < s.d.getD l.to_.toNat 0))
def leastStep (s : LeastS) (l : LinkR) (j : Nat) : LeastS := if leastGo s l = true then ⟨s.d.set l.to_.toNat (s.d.getD l.fr.toNat 0 + l.cost), s.k.set l.to_.toNat true, s.b.set l.to_.toNat j, l.to_⟩ else s
/-- the first j links of a round -/
def leastTo (ls : List LinkR) (s : LeastS) : Nat → LeastS
  | 0 => { s with e := -1 }
  | j + 1 => leastStep (leastTo ls s j) (ls.getD j default) j
def leastR (ls : List LinkR) (s : LeastS) : Nat → LeastS
  | 0 => s
  | r + 1 => leastTo ls (leastR ls s r) ls.length
structure LeastOk (N : Nat) (s : LeastS) (m : Int) : Prop where
  dl : s.d.length = N
  kl : s.k.length = N
  bl : s.b.length = N
  bd : ∀ v, v < N → -m ≤ s.d.getD v 0 ∧ s.d.getD v 0 ≤ m
theorem getD_setB (zs : List Bool) (i j : Nat) (x : Bool) (h : i < zs.length) : (zs.set i x).getD j false = if i = j then x else zs.getD j false := by
  simp only [List.getD, List.getElem?_set]
  by_cases e : i = j
  · subst e; simp [h]
  · simp [e]
theorem least_step_ok {N : Nat} {s : LeastS} {m : Int} {l : LinkR} {j : Nat} (h : LeastOk N s m) (hf : 0 ≤ l.fr ∧ l.fr < N) (ht : 0 ≤ l.to_ ∧ l.to_ < N) (hc : -1000 ≤ l.cost ∧ l.cost ≤ 1000) (hm : 0 ≤ m) : LeastOk N (leastStep s l j) (m + 1000) := by
  unfold leastStep
  split
  · refine ⟨by simp [h.dl], by simp [h.kl], by simp [h.bl], fun v hv => ?_⟩
    show -(m + 1000) ≤ (s.d.set l.to_.toNat (s.d.getD l.fr.toNat 0 + l.cost)).getD v 0 ∧ (s.d.set l.to_.toNat (s.d.getD l.fr.toNat 0 + l.cost)).getD v 0 ≤ m + 1000
    rw [getD_set' _ _ v _ (by rw [h.dl]; omega)]
    have := h.bd l.fr.toNat (by omega)
    have := h.bd v hv
    split <;> omega
  · refine ⟨h.dl, h.kl, h.bl, fun v hv => ?_⟩
    have := h.bd v hv
    omega
def LinksC (ls : List LinkR) : Prop := ∀ k, k < ls.length → -1000 ≤ (ls.getD k default).cost ∧ (ls.getD k default).cost ≤ 1000
theorem least_to_ok {ls : List LinkR} {N : Nat} {s : LeastS} {m : Int} (hls : LinksOk ls N) (hlc : LinksC ls) (h : LeastOk N s m) (hm : 0 ≤ m) : ∀ j, j ≤ ls.length → LeastOk N (leastTo ls s j) (m + 1000 * j)
  | 0, _ => ⟨h.dl, h.kl, h.bl, fun v hv => by have := h.bd v hv; show -(m + 1000 * (0 : Nat)) ≤ s.d.getD v 0 ∧ s.d.getD v 0 ≤ m + 1000 * (0 : Nat); omega⟩
  | j + 1, hj => by
    have ih := least_to_ok hls hlc h hm j (by omega)
    have := least_step_ok (j := j) ih (hls j (by omega)).1 (hls j (by omega)).2 (hlc j (by omega)) (by omega)
    refine ⟨this.dl, this.kl, this.bl, fun v hv => ?_⟩
    have h2 := this.bd v hv
    rw [leastTo]
    omega
theorem least_r_ok {ls : List LinkR} {N : Nat} {s : LeastS} (hls : LinksOk ls N) (hlc : LinksC ls) (hl : ls.length ≤ 96) (h : LeastOk N s 0) : ∀ r : Nat, LeastOk N (leastR ls s r) (96000 * r)
  | 0 => by have h2 := h; simpa [leastR] using h2
  | r + 1 => by
    have ih := least_r_ok hls hlc hl h r
    have := least_to_ok hls hlc ih (by omega) ls.length (Nat.le_refl _)
    refine ⟨this.dl, this.kl, this.bl, fun v hv => ?_⟩
    have h2 := this.bd v hv
    rw [leastR]
    omega
end Go.Proofs.Ytnljfhmdjhppmaa
