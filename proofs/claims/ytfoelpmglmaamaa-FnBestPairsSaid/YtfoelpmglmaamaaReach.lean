/- Which nodes are reached: the walk of the program. -/
import Derived.Test.YtfoelpmglmaamaaReachPlain
import Derived.Test.YtfoelpmglmaamaaLefts
import Derived.RegionTactic
namespace Go.Proofs.Ytfoelpmglmaamaa
open Go.RowKit

def zero6 : List Value := [.int .i64 0, .int .i64 0, .int .i64 0, .int .i64 0, .int .i64 0, .int .i64 0]
/-- the last link of a node -/
def lastC (ls : List LinkR) (b : Int) : List Value := if b < 0 then zero6 else LinkR.cells (ls.getD b.toNat default)
theorem lastC_len (ls : List LinkR) (b : Int) : (lastC ls b).length = 6 := by unfold lastC; split <;> rfl
def reachV (b : Int) : Value := .bool (b != -2)
theorem flatV_set6 {α : Type} (f : α → List Value) : ∀ (xs : List α) (k : Nat) (a : α) (c0 c1 c2 c3 c4 c5 : Value), (∀ a, (f a).length = 6) → f a = [c0, c1, c2, c3, c4, c5] → k < xs.length →
    ((((((flatV f xs).set (k * 6) c0).set (k * 6 + 1) c1).set (k * 6 + 2) c2).set (k * 6 + 3) c3).set (k * 6 + 4) c4).set (k * 6 + 5) c5 = flatV f (xs.set k a)
  | [], k, a, _, _, _, _, _, _, _, _, h => by simp at h
  | x :: xs, 0, a, c0, c1, c2, c3, c4, c5, hf, ha, _ => by
    have hx := hf x
    match hm : f x, hx with
    | [y0, y1, y2, y3, y4, y5], _ => simp [flatV, hm, ha]
  | x :: xs, k + 1, a, c0, c1, c2, c3, c4, c5, hf, ha, h => by
    have ih := flatV_set6 f xs k a c0 c1 c2 c3 c4 c5 hf ha (by simpa using h)
    have hx := hf x
    match hm : f x, hx with
    | [y0, y1, y2, y3, y4, y5], _ =>
      simp only [flatV, List.flatMap_cons, hm, List.cons_append, List.nil_append, List.set_cons_succ] at ih ⊢
      rw [← ih]
      rw [show (k + 1) * 6 = k * 6 + 1 + 1 + 1 + 1 + 1 + 1 from by omega]
      simp only [List.set_cons_succ]
theorem ints_getD {T base : Nat} {w : World} {ad : Addr} {n c : Nat} {zs : List Int} {x : Int} (h : OwnI T base w (some ad) n c zs) (i : Nat) (hi : i < n) (hx : w.cell? (ad.add i) = some (.int .i64 x)) : zs.getD i 0 = x := by
  have := (ints_cell h.ints hi).symm.trans hx
  injection this with this
  injection this
/-- the cells of the j-th link of a slice of links -/
theorem link_cells {T base g m q : Nat} {w : World} {ls : List LinkR} (h : OwnC T base 6 w (some ⟨g, 0, none⟩) m q (flatV LinkR.cells ls)) {j : Nat} (hj : j < m) :
    w.cell? ⟨g, j * 6, none⟩ = some (.int .i64 (ls.getD j default).arc) ∧ w.cell? ⟨g, j * 6 + 1, none⟩ = some (.int .i64 (ls.getD j default).by_) ∧ w.cell? ⟨g, j * 6 + 2, none⟩ = some (.int .i64 (ls.getD j default).fr) ∧
    w.cell? ⟨g, j * 6 + 3, none⟩ = some (.int .i64 (ls.getD j default).to_) ∧ w.cell? ⟨g, j * 6 + 4, none⟩ = some (.int .i64 (ls.getD j default).room) ∧ w.cell? ⟨g, j * 6 + 5, none⟩ = some (.int .i64 (ls.getD j default).cost) := by
  have hl : ls.length = m := by
    have := OwnC.len h
    rw [flatV_len LinkR.cells 6 (fun _ => rfl)] at this
    omega
  have key : ∀ i, i < 6 → w.cell? ⟨g, j * 6 + i, none⟩ = (ls.getD j default).cells[i]? := fun i hi => by
    rw [OwnC.cell h (by omega), flatV_get LinkR.cells 6 (fun _ => rfl) default ls j i (by omega) hi]
  exact ⟨key 0 (by omega), key 1 (by omega), key 2 (by omega), key 3 (by omega), key 4 (by omega), key 5 (by omega)⟩

theorem bools_rep (N : Nat) : (madeCells (Value.bool false).cells (N * 1)).toList = List.replicate N (.bool false) := by
  show (madeCells #[Value.bool false] (N * 1)).toList = _
  rw [toList_madeCells_one]; simp
theorem reachV_get {by_ : List Int} {v N : Nat} (hl : by_.length = N) (h : v < N) : (by_.map reachV)[v]? = some (.bool (by_.getD v 0 != -2)) := by
  rw [List.getElem?_map, List.getElem?_eq_getElem (by omega)]
  simp [reachV, List.getD, List.getElem?_eq_getElem (show v < by_.length by omega)]
theorem reachV_set {by_ : List Int} {v k : Nat} : (by_.map reachV).set v (.bool true) = (by_.set v (k : Int)).map reachV := by
  rw [List.map_set]
  congr 1
theorem zero6_rep (N : Nat) : (madeCells (Value.agg #[.int .i64 0, .int .i64 0, .int .i64 0, .int .i64 0, .int .i64 0, .int .i64 0]).cells (N * 6)).toList = flatV (fun _ => zero6) (List.replicate N (0 : Int)) := by
  apply List.ext_getElem?
  intro j
  by_cases hj : j < N * 6
  · have hk : j / 6 < N := by omega
    have := flatV_get (fun _ => zero6) 6 (fun _ => rfl) (0 : Int) (List.replicate N 0) (j / 6) (j % 6) (by simpa using hk) (by omega)
    rw [show j / 6 * 6 + j % 6 = j from by omega] at this
    rw [this]
    rw [Array.getElem?_toList]
    simp only [madeCells, Value.cells, Array.getElem?_map, Array.getElem?_range]
    rw [if_pos hj]
    have : j % 6 = 0 ∨ j % 6 = 1 ∨ j % 6 = 2 ∨ j % 6 = 3 ∨ j % 6 = 4 ∨ j % 6 = 5 := by omega
    rcases this with h | h | h | h | h | h <;> simp [h, zero6]
  · rw [List.getElem?_eq_none (by simp [size_madeCells]; omega), List.getElem?_eq_none (by rw [flatV_len _ 6 (fun _ => rfl)]; simp; omega)]
theorem flatV_congr {α β : Type} {f : α → List Value} {g : β → List Value} {xs : List α} {ys : List β} (h : xs.map f = ys.map g) : flatV f xs = flatV g ys := by
  unfold flatV; rw [List.flatMap_def, List.flatMap_def, h]
theorem last_start (ls : List LinkR) (N f : Nat) (hf : f < N) : flatV (fun _ => zero6) (List.replicate N (0 : Int)) = flatV (lastC ls) (bfsTo ls N f 0).1 := by
  apply flatV_congr
  apply List.ext_getElem (by simp [bfsTo])
  intro j h1 h2
  simp only [bfsTo, List.getElem_map, List.getElem_replicate, List.getElem_set]
  split <;> simp [lastC]
theorem reach_start (ls : List LinkR) (N f : Nat) (hf : f < N) : (List.replicate N (Value.bool false)).set f (.bool true) = (bfsTo ls N f 0).1.map reachV := by
  apply List.ext_getElem (by simp [bfsTo])
  intro j h1 h2
  simp only [bfsTo, List.getElem_map, List.getElem_replicate, List.getElem_set]
  split <;> simp [reachV]

theorem last_cell {T base g N v : Nat} {w : World} {ls : List LinkR} {by_ : List Int} (h : OwnC T base 6 w (some ⟨g, 0, none⟩) N N (flatV (lastC ls) by_)) (hl : by_.length = N) (hv : v < N) (i : Nat) (hi : i < 6) :
    w.cell? ⟨g, v * 6 + i, none⟩ = some ((lastC ls (by_.getD v 0))[i]'(by rw [lastC_len]; exact hi)) := by
  rw [OwnC.cell h (by omega), flatV_get (lastC ls) 6 (lastC_len ls) 0 by_ v i (by omega) hi, List.getElem?_eq_getElem (by rw [lastC_len]; exact hi)]
end Go.Proofs.Ytfoelpmglmaamaa
