/- The least tree of all cities, in plain lists. -/
import Derived.Test.YthhkgeeomhhegaaNearPlain
namespace Go.Proofs.Ythhkgeeomhhegaa
open Go.RowKit

/-- the pair of the number p = i * N + k: i in, k not -/
def edgeB (N : Nat) (ins : List Int) (p : Nat) : Bool := hasB ins ((p / N : Nat) : Int) && !hasB ins ((p % N : Nat) : Int)
/-- the number of the shortest such pair below p, -1 if there is none -/
def edgeTo (ws : List Int) (N : Nat) (ins : List Int) : Nat → Int
  | 0 => -1
  | p + 1 => if edgeB N ins p = true ∧ (edgeTo ws N ins p < 0 ∨ ws.getD p 0 < ws.getD (edgeTo ws N ins p).toNat 0) then (p : Int) else edgeTo ws N ins p
theorem edgeTo_yes {ws : List Int} {N : Nat} {ins : List Int} {p : Nat} (h1 : edgeB N ins p = true) (h2 : edgeTo ws N ins p < 0 ∨ ws.getD p 0 < ws.getD (edgeTo ws N ins p).toNat 0) : edgeTo ws N ins (p + 1) = p := by
  show (if _ then _ else _) = _; rw [if_pos ⟨h1, h2⟩]
theorem edgeTo_no {ws : List Int} {N : Nat} {ins : List Int} {p : Nat} (h1 : edgeB N ins p = false) : edgeTo ws N ins (p + 1) = edgeTo ws N ins p := by
  show (if _ then _ else _) = _; rw [if_neg (by rw [h1]; simp)]
theorem edgeTo_far {ws : List Int} {N : Nat} {ins : List Int} {p : Nat} (h1 : 0 ≤ edgeTo ws N ins p) (h2 : ws.getD (edgeTo ws N ins p).toNat 0 ≤ ws.getD p 0) : edgeTo ws N ins (p + 1) = edgeTo ws N ins p := by
  show (if _ then _ else _) = _; rw [if_neg (by omega)]
theorem edgeTo_bd (ws : List Int) (N : Nat) (ins : List Int) : ∀ p : Nat, -1 ≤ edgeTo ws N ins p ∧ edgeTo ws N ins p < p
  | 0 => ⟨Int.le_refl _, show (-1 : Int) < ((0 : Nat) : Int) by omega⟩
  | p + 1 => by
    have ih := edgeTo_bd ws N ins p
    unfold edgeTo
    split <;> omega
theorem edgeTo_pos (ws : List Int) (N : Nat) (ins : List Int) : ∀ p : Nat, (∃ c : Nat, c < p ∧ edgeB N ins c = true) → 0 ≤ edgeTo ws N ins p
  | 0, ⟨c, hc, _⟩ => by omega
  | p + 1, ⟨c, hc, hb⟩ => by
    unfold edgeTo
    split
    · omega
    · rename_i hn
      by_cases e : c = p
      · subst e
        by_cases h0 : 0 ≤ edgeTo ws N ins c
        · exact h0
        · exact absurd ⟨hb, Or.inl (by omega)⟩ hn
      · exact edgeTo_pos ws N ins p ⟨c, by omega, hb⟩

/-- the cities that are in, the edges, and their sum, after m rounds -/
def treeTo (ws : List Int) (N : Nat) : Nat → List Int × List Int × Int
  | 0 => ([0], [], 0)
  | m + 1 =>
    let s := treeTo ws N m
    let b := (edgeTo ws N s.1 (N * N)).toNat
    (s.1 ++ [((b % N : Nat) : Int)], s.2.1 ++ [((b / N : Nat) : Int), ((b % N : Nat) : Int)], s.2.2 + ws.getD b 0)
theorem treeTo_ins (ws : List Int) (N m : Nat) : (treeTo ws N (m + 1)).1 = (treeTo ws N m).1 ++ [(((edgeTo ws N (treeTo ws N m).1 (N * N)).toNat % N : Nat) : Int)] := rfl
theorem treeTo_edges (ws : List Int) (N m : Nat) : (treeTo ws N (m + 1)).2.1 = (treeTo ws N m).2.1 ++ [(((edgeTo ws N (treeTo ws N m).1 (N * N)).toNat / N : Nat) : Int), (((edgeTo ws N (treeTo ws N m).1 (N * N)).toNat % N : Nat) : Int)] := rfl
theorem treeTo_sum (ws : List Int) (N m : Nat) : (treeTo ws N (m + 1)).2.2 = (treeTo ws N m).2.2 + ws.getD (edgeTo ws N (treeTo ws N m).1 (N * N)).toNat 0 := rfl
theorem treeTo_len (ws : List Int) (N : Nat) : ∀ m, (treeTo ws N m).1.length = m + 1 ∧ (treeTo ws N m).2.1.length = 2 * m ∧ hasB (treeTo ws N m).1 0 = true
  | 0 => ⟨rfl, rfl, rfl⟩
  | m + 1 => by
    have ih := treeTo_len ws N m
    refine ⟨by rw [treeTo_ins, List.length_append, ih.1]; rfl, by rw [treeTo_edges, List.length_append, ih.2.1]; simp; omega, ?_⟩
    rw [treeTo_ins]
    exact hasB_iff.2 (List.mem_append.2 (Or.inl (hasB_iff.1 ih.2.2)))
/-- a round finds an edge while some city is out -/
theorem treeTo_edge {ws : List Int} {N m : Nat} (h : m + 1 < N) : 0 ≤ edgeTo ws N (treeTo ws N m).1 (N * N) ∧ edgeTo ws N (treeTo ws N m).1 (N * N) < ((N * N : Nat) : Int) := by
  refine ⟨edgeTo_pos ws N _ _ ?_, (edgeTo_bd ws N _ _).2⟩
  have h1 := treeTo_len ws N m
  obtain ⟨c, hc, hb⟩ := some_free (N := N) (out := (treeTo ws N m).1) (by omega)
  refine ⟨c, Nat.lt_of_lt_of_le hc (Nat.le_mul_of_pos_left N (by omega)), ?_⟩
  unfold edgeB
  rw [Nat.div_eq_of_lt hc, Nat.mod_eq_of_lt hc, hb]
  show (hasB _ 0 && !false) = true
  rw [h1.2.2]; rfl
theorem treeTo_bd {ws : List Int} {N : Nat} (hl : ws.length = N * N) (hw : ∀ j, j < N * N → 0 ≤ ws.getD j 0 ∧ ws.getD j 0 ≤ 1000) : ∀ m, m + 1 ≤ N → 0 ≤ (treeTo ws N m).2.2 ∧ (treeTo ws N m).2.2 ≤ 1000 * m
  | 0, _ => ⟨Int.le_refl _, Int.le_refl _⟩
  | m + 1, h => by
    have ih := treeTo_bd hl hw m (by omega)
    have h1 := treeTo_edge (ws := ws) (show m + 1 < N by omega)
    have h2 := hw (edgeTo ws N (treeTo ws N m).1 (N * N)).toNat (by omega)
    rw [treeTo_sum]
    omega
end Go.Proofs.Ythhkgeeomhhegaa
