/- The nearest city next, in plain lists. -/
import Derived.Test.YthhkgeeomhhegaaTour
namespace Go.Proofs.Ythhkgeeomhhegaa
open Go.RowKit

/-- the nearest of the first k cities that is not in the list, -1 if there is none -/
def nextTo (ws : List Int) (N : Nat) (out : List Int) (a : Nat) : Nat → Int
  | 0 => -1
  | k + 1 => if hasB out (k : Int) = false ∧ (nextTo ws N out a k < 0 ∨ ws.getD (a * N + k) 0 < ws.getD (a * N + (nextTo ws N out a k).toNat) 0) then (k : Int) else nextTo ws N out a k
theorem nextTo_yes {ws : List Int} {N : Nat} {out : List Int} {a k : Nat} (h1 : hasB out (k : Int) = false) (h2 : nextTo ws N out a k < 0 ∨ ws.getD (a * N + k) 0 < ws.getD (a * N + (nextTo ws N out a k).toNat) 0) : nextTo ws N out a (k + 1) = k := by
  rw [nextTo, if_pos ⟨h1, h2⟩]
theorem nextTo_has {ws : List Int} {N : Nat} {out : List Int} {a k : Nat} (h1 : hasB out (k : Int) = true) : nextTo ws N out a (k + 1) = nextTo ws N out a k := by
  rw [nextTo, if_neg (by rw [h1]; intro h; exact absurd h.1 (by decide))]
theorem nextTo_far {ws : List Int} {N : Nat} {out : List Int} {a k : Nat} (h1 : 0 ≤ nextTo ws N out a k) (h2 : ws.getD (a * N + (nextTo ws N out a k).toNat) 0 ≤ ws.getD (a * N + k) 0) : nextTo ws N out a (k + 1) = nextTo ws N out a k := by
  rw [nextTo, if_neg (by intro h; rcases h.2 with h | h <;> omega)]
theorem nextTo_bd (ws : List Int) (N : Nat) (out : List Int) (a : Nat) : ∀ k : Nat, -1 ≤ nextTo ws N out a k ∧ nextTo ws N out a k < k
  | 0 => by simp [nextTo]
  | k + 1 => by
    have := nextTo_bd ws N out a k
    rw [nextTo]
    split <;> omega
theorem nextTo_pos (ws : List Int) (N : Nat) (out : List Int) (a : Nat) : ∀ k : Nat, (∃ c : Nat, c < k ∧ hasB out (c : Int) = false) → 0 ≤ nextTo ws N out a k
  | 0, ⟨c, h, _⟩ => by omega
  | k + 1, ⟨c, h, hc⟩ => by
    rw [nextTo]
    split
    · omega
    · rename_i hn
      by_cases e : c = k
      · subst e
        by_cases h0 : nextTo ws N out a c < 0
        · exact absurd ⟨hc, .inl h0⟩ hn
        · omega
      · exact nextTo_pos ws N out a k ⟨c, by omega, hc⟩
theorem fill_len : ∀ (N : Nat) (out : List Int), (∀ c : Nat, c < N → (c : Int) ∈ out) → N ≤ out.length
  | 0, _, _ => Nat.zero_le _
  | N + 1, out, h => by
    have hm := h N (by omega)
    have h2 := fill_len N (out.erase (N : Int)) fun c hc => (List.mem_erase_of_ne (by omega)).2 (h c (by omega))
    rw [List.length_erase_of_mem hm] at h2
    have := List.length_pos_of_mem hm
    omega
theorem some_free {N : Nat} {out : List Int} (h : out.length < N) : ∃ c : Nat, c < N ∧ hasB out (c : Int) = false := by
  by_cases h2 : ∃ c : Nat, c < N ∧ hasB out (c : Int) = false
  · exact h2
  · exfalso
    have := fill_len N out fun c hc => by
      cases hh : hasB out (c : Int)
      · exact absurd ⟨c, hc, hh⟩ h2
      · exact hasB_iff.1 hh
    omega
/-- the tour of j + 1 cities -/
def nearTo (ws : List Int) (N : Nat) (f : Int) : Nat → List Int
  | 0 => [f]
  | j + 1 => nearTo ws N f j ++ [nextTo ws N (nearTo ws N f j) ((nearTo ws N f j).getD j 0).toNat N]
theorem nearTo_len (ws : List Int) (N : Nat) (f : Int) : ∀ j, (nearTo ws N f j).length = j + 1
  | 0 => rfl
  | j + 1 => by simp [nearTo, nearTo_len ws N f j]
theorem nearTo_snoc (ws : List Int) (N : Nat) (f : Int) (j : Nat) : nearTo ws N f (j + 1) = nearTo ws N f j ++ [nextTo ws N (nearTo ws N f j) ((nearTo ws N f j).getD j 0).toNat N] := rfl
theorem nearTo_last (ws : List Int) (N : Nat) (f : Int) (j : Nat) : (nearTo ws N f (j + 1)).getD (j + 1) 0 = nextTo ws N (nearTo ws N f j) ((nearTo ws N f j).getD j 0).toNat N := by
  have h := nearTo_len ws N f j
  rw [nearTo]
  simp [List.getD, List.getElem?_append_right, h]
theorem nearTo_bd (ws : List Int) (N : Nat) (f : Int) (hf : 0 ≤ f ∧ f < N) : ∀ j, j + 1 ≤ N → 0 ≤ (nearTo ws N f j).getD j 0 ∧ (nearTo ws N f j).getD j 0 < N
  | 0, _ => by simpa [nearTo] using hf
  | j + 1, h => by
    rw [nearTo_last]
    exact ⟨nextTo_pos _ _ _ _ _ (some_free (by rw [nearTo_len]; omega)), (nextTo_bd _ _ _ _ _).2⟩

/-- which numbers are in a list -/
def seenL (out : List Int) (N : Nat) : List Value := (List.range N).map fun (c : Nat) => .bool (hasB out (c : Int))
theorem seenL_nil (N : Nat) : seenL [] N = List.replicate N (.bool false) := by
  apply List.ext_getElem (by simp [seenL])
  intro j h1 h2
  simp [seenL, hasB]
theorem seenL_get {out : List Int} {N x : Nat} (h : x < N) : (seenL out N)[x]? = some (.bool (hasB out (x : Int))) := by
  simp [seenL, h]
theorem seenL_step (out : List Int) (N x : Nat) : (seenL out N).set x (.bool true) = seenL (out ++ [(x : Int)]) N := by
  apply List.ext_getElem (by simp [seenL])
  intro j h1 h2
  rw [List.getElem_set]
  simp only [seenL, List.getElem_map, List.getElem_range, hasB, List.contains_eq_mem, List.mem_append, List.mem_singleton]
  by_cases e : x = j
  · rw [if_pos e, e]; simp
  · rw [if_neg e]
    congr 1
    exact decide_eq_decide.2 ⟨.inl, fun h => by rcases h with h | h; exact h; omega⟩

def nearB (ws : List Int) (f : Int) : Bool := citiesB ws && inB f 0 (cityN ws.length - 1)
def nearV (ws : List Int) (f : Int) : List Int := if nearB ws f = true then nearTo ws (cityN ws.length).toNat f ((cityN ws.length).toNat - 1) else []
theorem nearV_no {ws : List Int} {f : Int} (h : nearB ws f = false) : nearV ws f = [] := by unfold nearV; rw [if_neg (by rw [h]; decide)]
theorem nearV_yes {ws : List Int} {f : Int} (h : nearB ws f = true) : nearV ws f = nearTo ws (cityN ws.length).toNat f ((cityN ws.length).toNat - 1) := by unfold nearV; rw [if_pos h]
theorem nearV_len (ws : List Int) (f : Int) : (nearV ws f).length ≤ 1048576 := by
  cases h : nearB ws f
  · rw [nearV_no h]; simp
  · rw [nearV_yes h, nearTo_len]
    rcases cityN_or ws.length with hn | ⟨N, _, h2, _, hN⟩
    · rw [hn]; decide
    · rw [hN, Int.toNat_natCast]; omega
theorem sep_append2 {T b size : Nat} {w : World} {A S : Option Addr} {n c g : Nat} {vs : List Value} (h : Sep S A) (o : OwnC T b size w A n c vs) (hg : blk S g ∨ w.heap.size ≤ g) : Sep (some ⟨g, 0, none⟩) A := by
  intro x y hx hy
  injection hx with hx
  subst hx
  rcases hg with ⟨ad, e1, e2⟩ | hg
  · have := h ad y e1 hy
    show g ≠ y.block
    omega
  · subst hy
    have := (OwnC.lt o rfl).2
    show g ≠ y.block
    omega
theorem has_q (A : Option Addr) (n c : Nat) (zs : List Int) (x : Int) (w : World) (m : Nat) (h : IntsAt w A n zs) (hl : n ≤ 1048576) :
    Calls Try.prog 55 #[.slice A n c, .int .i64 x] (w.drewN m) fun e w'' => e = .returned (.bool (hasB zs x)) ∧ ∃ q, w'' = w.drewN q := quiet_here (has_any A n c zs x _ (h.drewN m) hl)
end Go.Proofs.Ythhkgeeomhhegaa
