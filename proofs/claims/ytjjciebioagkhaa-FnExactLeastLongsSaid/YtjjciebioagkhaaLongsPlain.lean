/- Least ways, in plain lists: rounds over all arcs, and that one round less than there are nodes settles all. -/
import Derived.Test.YtjjciebioagkhaaFlow
namespace Go.Proofs.Ytjjciebioagkhaa
open Go.RowKit

/-- walks: the arcs' indices -/
def IsWalk (xs : List ArcR) : Int → List Nat → Int → Prop
  | u, [], v => u = v
  | u, i :: p, v => i < xs.length ∧ (xs.getD i default).fr = u ∧ IsWalk xs (xs.getD i default).to_ p v
def walkCost (xs : List ArcR) : List Nat → Int
  | [] => 0
  | i :: p => (xs.getD i default).cost + walkCost xs p
/-- a walk never comes to a node (its start included) -/
def Avoid (xs : List ArcR) (u : Int) : Int → List Nat → Prop
  | x, [] => x ≠ u
  | x, i :: p => x ≠ u ∧ Avoid xs u (xs.getD i default).to_ p
def Inside (xs : List ArcR) (S : List Int) : Int → List Nat → Prop
  | x, [] => x ∈ S
  | x, i :: p => x ∈ S ∧ Inside xs S (xs.getD i default).to_ p
theorem walkCost_pos {xs : List ArcR} (hc : ∀ i, i < xs.length → 0 ≤ (xs.getD i default).cost) : ∀ (p : List Nat) (u v : Int), IsWalk xs u p v → 0 ≤ walkCost xs p
  | [], _, _, _ => Int.le_refl _
  | i :: p, u, v, h => by
    rw [IsWalk] at h
    have := walkCost_pos hc p _ v h.2.2
    have := hc i h.1
    rw [walkCost]; omega
theorem inside_avoid {xs : List ArcR} {S : List Int} {u : Int} : ∀ (p : List Nat) (x : Int), Inside xs S x p → Avoid xs u x p → Inside xs (S.erase u) x p
  | [], x, h, h2 => by rw [Inside] at *; rw [Avoid] at h2; exact (List.mem_erase_of_ne h2).2 h
  | i :: p, x, h, h2 => by
    rw [Inside] at *; rw [Avoid] at h2
    exact ⟨(List.mem_erase_of_ne h2.1).2 h.1, inside_avoid p _ h.2 h2.2⟩
/-- behind the last time that a walk comes to u -/
theorem last_visit {xs : List ArcR} (hc : ∀ i, i < xs.length → 0 ≤ (xs.getD i default).cost) (S : List Int) (u v : Int) : ∀ (p : List Nat) (x : Int), IsWalk xs x p v → Inside xs S x p →
    Avoid xs u x p ∨ ∃ c, IsWalk xs u c v ∧ walkCost xs c ≤ walkCost xs p ∧ Inside xs S u c ∧ (c = [] ∨ ∃ i c', c = i :: c' ∧ Avoid xs u (xs.getD i default).to_ c')
  | [], x, h, h2 => by
    rw [IsWalk] at h
    by_cases e : x = u
    · subst e
      exact .inr ⟨[], h, Int.le_refl _, h2, .inl rfl⟩
    · exact .inl e
  | i :: p, x, h, h2 => by
    have h' := h
    have h2' := h2
    rw [IsWalk] at h'
    rw [Inside] at h2'
    have hci := hc i h'.1
    rcases last_visit hc S u v p _ h'.2.2 h2'.2 with h3 | ⟨c, c1, c2, c3, c4⟩
    · by_cases e : x = u
      · subst e
        exact .inr ⟨i :: p, h, Int.le_refl _, h2, .inr ⟨i, p, rfl, h3⟩⟩
      · exact .inl ⟨e, h3⟩
    · exact .inr ⟨c, c1, by rw [walkCost]; omega, c3, c4⟩
/-- a walk can be cut short -/
theorem short_walk {xs : List ArcR} (hc : ∀ i, i < xs.length → 0 ≤ (xs.getD i default).cost) (v : Int) : ∀ (b : Nat) (S : List Int) (u : Int) (p : List Nat), S.length ≤ b → IsWalk xs u p v → Inside xs S u p →
    ∃ c, IsWalk xs u c v ∧ walkCost xs c ≤ walkCost xs p ∧ c.length + 1 ≤ S.length
  | 0, S, u, p, hb, h, h2 => by
    have hS : S = [] := List.eq_nil_of_length_eq_zero (by omega)
    subst hS
    cases p with
    | nil => rw [Inside] at h2; cases h2
    | cons i p => rw [Inside] at h2; cases h2.1
  | b + 1, S, u, p, hb, h, h2 => by
    have hu : u ∈ S := by
      cases p with
      | nil => exact h2
      | cons i p => exact h2.1
    have hpos := List.length_pos_of_mem hu
    rcases last_visit hc S u v p u h h2 with h3 | ⟨c, c1, c2, c3, c4⟩
    · exfalso
      cases p with
      | nil => exact h3 rfl
      | cons i p => exact h3.1 rfl
    · rcases c4 with rfl | ⟨i, c', rfl, c5⟩
      · exact ⟨[], c1, c2, by simp; omega⟩
      · rw [IsWalk] at c1
        rw [Inside] at c3
        have hl := List.length_erase_of_mem hu
        obtain ⟨c'', e1, e2, e3⟩ := short_walk hc v b (S.erase u) _ c' (by omega) c1.2.2 (inside_avoid c' _ c3.2 c5)
        rw [walkCost] at c2
        exact ⟨i :: c'', ⟨c1.1, c1.2.1, e1⟩, by rw [walkCost]; omega, by simp; omega⟩
theorem inside_all {xs : List ArcR} {N : Nat} (hx : ∀ i, i < xs.length → 0 ≤ (xs.getD i default).to_ ∧ (xs.getD i default).to_ < N) (v : Int) : ∀ (p : List Nat) (u : Int), 0 ≤ u → u < N → IsWalk xs u p v → Inside xs ((List.range N).map fun (j : Nat) => (j : Int)) u p
  | [], u, h0, h1, _ => by
    rw [Inside, List.mem_map]
    exact ⟨u.toNat, List.mem_range.2 (by omega), by omega⟩
  | i :: p, u, h0, h1, h => by
    rw [IsWalk] at h
    rw [Inside, List.mem_map]
    obtain ⟨a, b⟩ := hx i h.1
    exact ⟨⟨u.toNat, List.mem_range.2 (by omega), by omega⟩, inside_all hx v p _ a b h.2.2⟩
theorem walk_short {xs : List ArcR} {N : Nat} (hc : ∀ i, i < xs.length → 0 ≤ (xs.getD i default).cost) (hx : ∀ i, i < xs.length → 0 ≤ (xs.getD i default).to_ ∧ (xs.getD i default).to_ < N) {u v : Int} (h0 : 0 ≤ u) (h1 : u < N) {p : List Nat} (h : IsWalk xs u p v) :
    ∃ c, IsWalk xs u c v ∧ walkCost xs c ≤ walkCost xs p ∧ c.length + 1 ≤ N := by
  have := short_walk hc v N ((List.range N).map fun (j : Nat) => (j : Int)) u p (by simp) h (inside_all hx v p u h0 h1 h)
  simpa using this

/-- the first k arcs of a round; -1 is unknown -/
def relaxTo (xs : List ArcR) (D : List Int) : Nat → List Int
  | 0 => D
  | k + 1 => if 0 ≤ (relaxTo xs D k).getD (xs.getD k default).fr.toNat 0 ∧ ((relaxTo xs D k).getD (xs.getD k default).to_.toNat 0 < 0 ∨ (relaxTo xs D k).getD (xs.getD k default).fr.toNat 0 + (xs.getD k default).cost < (relaxTo xs D k).getD (xs.getD k default).to_.toNat 0)
      then (relaxTo xs D k).set (xs.getD k default).to_.toNat ((relaxTo xs D k).getD (xs.getD k default).fr.toNat 0 + (xs.getD k default).cost) else relaxTo xs D k
def roundsL (xs : List ArcR) (N f : Nat) : Nat → List Int
  | 0 => (List.replicate N (-1)).set f 0
  | r + 1 => relaxTo xs (roundsL xs N f r) xs.length

/-- a list's numbers are costs of walks -/
def Sound (xs : List ArcR) (N f : Nat) (D : List Int) : Prop := D.length = N ∧ ∀ v, v < N → D.getD v 0 = -1 ∨ (0 ≤ D.getD v 0 ∧ ∃ p, IsWalk xs f p v ∧ walkCost xs p = D.getD v 0)
/-- no walk of at most r arcs costs less -/
def Tight (xs : List ArcR) (N f : Nat) (D : List Int) (r : Nat) : Prop := ∀ v, v < N → ∀ p, IsWalk xs f p v → p.length ≤ r → 0 ≤ D.getD v 0 ∧ D.getD v 0 ≤ walkCost xs p
theorem walk_snoc {xs : List ArcR} : ∀ (p : List Nat) (u : Int) (k : Nat), IsWalk xs u p (xs.getD k default).fr → k < xs.length → IsWalk xs u (p ++ [k]) (xs.getD k default).to_ ∧ walkCost xs (p ++ [k]) = walkCost xs p + (xs.getD k default).cost
  | [], u, k, h, hk => by
    rw [IsWalk] at h
    exact ⟨⟨hk, h.symm, rfl⟩, by simp [walkCost]⟩
  | i :: p, u, k, h, hk => by
    rw [IsWalk] at h
    obtain ⟨a, b⟩ := walk_snoc p _ k h.2.2 hk
    exact ⟨⟨h.1, h.2.1, a⟩, by rw [List.cons_append, walkCost, walkCost, b]; omega⟩
theorem walk_split {xs : List ArcR} : ∀ (p : List Nat) (u v : Int), IsWalk xs u p v → p ≠ [] → ∃ q k, p = q ++ [k] ∧ k < xs.length ∧ IsWalk xs u q (xs.getD k default).fr ∧ (xs.getD k default).to_ = v
  | [], _, _, _, h => absurd rfl h
  | [i], u, v, h, _ => by
    rw [IsWalk, IsWalk] at h
    exact ⟨[], i, rfl, h.1, h.2.1.symm, h.2.2⟩
  | i :: j :: p, u, v, h, _ => by
    have h' := h
    rw [IsWalk] at h'
    obtain ⟨q, k, e1, e2, e3, e4⟩ := walk_split (j :: p) _ v h'.2.2 (List.cons_ne_nil _ _)
    exact ⟨i :: q, k, by rw [e1]; rfl, e2, ⟨h'.1, h'.2.1, e3⟩, e4⟩
theorem getD_setL (zs : List Int) (i j : Nat) (x : Int) (h : i < zs.length) : (zs.set i x).getD j 0 = if i = j then x else zs.getD j 0 := by
  simp only [List.getD, List.getElem?_set]
  by_cases e : i = j
  · subst e; simp [h]
  · simp [e]
section
variable {xs : List ArcR} {N f : Nat}
theorem relax_sound (hc : ∀ i, i < xs.length → 0 ≤ (xs.getD i default).cost) (hx : ∀ i, i < xs.length → (0 ≤ (xs.getD i default).fr ∧ (xs.getD i default).fr < N) ∧ (0 ≤ (xs.getD i default).to_ ∧ (xs.getD i default).to_ < N)) {D : List Int} (h : Sound xs N f D) : ∀ k, k ≤ xs.length → Sound xs N f (relaxTo xs D k) ∧ ∀ v, v < N → 0 ≤ D.getD v 0 → 0 ≤ (relaxTo xs D k).getD v 0 ∧ (relaxTo xs D k).getD v 0 ≤ D.getD v 0
  | 0, _ => ⟨h, fun v _ h0 => ⟨h0, Int.le_refl _⟩⟩
  | k + 1, hk => by
    obtain ⟨⟨hl, hs⟩, hm⟩ := relax_sound hc hx h k (by omega)
    obtain ⟨⟨a0, a1⟩, ⟨b0, b1⟩⟩ := hx k (by omega)
    have hck := hc k (by omega)
    rw [relaxTo]
    split
    · rename_i hcond
      obtain ⟨c1, c2⟩ := hcond
      have hset : ∀ v, ((relaxTo xs D k).set (xs.getD k default).to_.toNat ((relaxTo xs D k).getD (xs.getD k default).fr.toNat 0 + (xs.getD k default).cost)).getD v 0 = if (xs.getD k default).to_.toNat = v then (relaxTo xs D k).getD (xs.getD k default).fr.toNat 0 + (xs.getD k default).cost else (relaxTo xs D k).getD v 0 := fun v => getD_setL _ _ v _ (by rw [hl]; omega)
      refine ⟨⟨by rw [List.length_set]; exact hl, fun v hv => ?_⟩, fun v hv h0 => ?_⟩
      · rw [hset v]
        by_cases e : (xs.getD k default).to_.toNat = v
        · rw [if_pos e]
          refine .inr ⟨by omega, ?_⟩
          rcases hs (xs.getD k default).fr.toNat (by omega) with h1 | ⟨_, p, p1, p2⟩
          · omega
          · rw [show (((xs.getD k default).fr.toNat : Nat) : Int) = (xs.getD k default).fr by omega] at p1
            obtain ⟨q1, q2⟩ := walk_snoc p _ k p1 (by omega)
            refine ⟨p ++ [k], ?_, by rw [q2, p2]⟩
            rw [show (v : Int) = (xs.getD k default).to_ by omega]
            exact q1
        · rw [if_neg e]; exact hs v hv
      · obtain ⟨m1, m2⟩ := hm v hv h0
        rw [hset v]
        by_cases e : (xs.getD k default).to_.toNat = v
        · rw [if_pos e]
          subst e
          rcases c2 with c2 | c2 <;> omega
        · rw [if_neg e]; exact ⟨m1, m2⟩
    · exact ⟨⟨hl, hs⟩, hm⟩
theorem relax_step (hx : ∀ i, i < xs.length → (0 ≤ (xs.getD i default).fr ∧ (xs.getD i default).fr < N) ∧ (0 ≤ (xs.getD i default).to_ ∧ (xs.getD i default).to_ < N)) {D : List Int} {k : Nat} (hk : k < xs.length) (hl : (relaxTo xs D k).length = N) (hc0 : 0 ≤ (xs.getD k default).cost) {v : Nat} (h0 : 0 ≤ (relaxTo xs D k).getD v 0) :
    0 ≤ (relaxTo xs D (k + 1)).getD v 0 ∧ (relaxTo xs D (k + 1)).getD v 0 ≤ (relaxTo xs D k).getD v 0 := by
  obtain ⟨⟨a0, a1⟩, ⟨b0, b1⟩⟩ := hx k hk
  rw [relaxTo]
  split
  · rename_i hcond
    obtain ⟨c1, c2⟩ := hcond
    rw [getD_setL _ _ v _ (by rw [hl]; omega)]
    by_cases e : (xs.getD k default).to_.toNat = v
    · rw [if_pos e]
      subst e
      rcases c2 with c2 | c2 <;> omega
    · rw [if_neg e]; exact ⟨h0, Int.le_refl _⟩
  · exact ⟨h0, Int.le_refl _⟩
theorem relax_done (hc : ∀ i, i < xs.length → 0 ≤ (xs.getD i default).cost) (hx : ∀ i, i < xs.length → (0 ≤ (xs.getD i default).fr ∧ (xs.getD i default).fr < N) ∧ (0 ≤ (xs.getD i default).to_ ∧ (xs.getD i default).to_ < N)) {D : List Int} (h : Sound xs N f D) : ∀ k, k ≤ xs.length → ∀ j, j < k → 0 ≤ D.getD (xs.getD j default).fr.toNat 0 →
    0 ≤ (relaxTo xs D k).getD (xs.getD j default).to_.toNat 0 ∧ (relaxTo xs D k).getD (xs.getD j default).to_.toNat 0 ≤ D.getD (xs.getD j default).fr.toNat 0 + (xs.getD j default).cost
  | 0, _, j, hj, _ => by omega
  | k + 1, hk, j, hj, h0 => by
    obtain ⟨⟨hl, _⟩, hm⟩ := relax_sound hc hx h k (by omega)
    by_cases e : j = k
    · subst e
      obtain ⟨⟨a0, a1⟩, ⟨b0, b1⟩⟩ := hx j (by omega)
      obtain ⟨m1, m2⟩ := hm (xs.getD j default).fr.toNat (by omega) h0
      have hcj := hc j (by omega)
      rw [relaxTo]
      split
      · rename_i hcond
        rw [getD_setL _ _ _ _ (by rw [hl]; omega), if_pos rfl]
        omega
      · rename_i hcond
        by_cases c2 : (relaxTo xs D j).getD (xs.getD j default).to_.toNat 0 < 0
        · exact absurd ⟨m1, .inl c2⟩ hcond
        · by_cases c3 : (relaxTo xs D j).getD (xs.getD j default).fr.toNat 0 + (xs.getD j default).cost < (relaxTo xs D j).getD (xs.getD j default).to_.toNat 0
          · exact absurd ⟨m1, .inr c3⟩ hcond
          · omega
    · obtain ⟨i1, i2⟩ := relax_done hc hx h k (by omega) j (by omega) h0
      obtain ⟨j1, j2⟩ := relax_step hx (by omega) hl (hc k (by omega)) i1
      exact ⟨j1, by omega⟩
theorem relax_tight (hc : ∀ i, i < xs.length → 0 ≤ (xs.getD i default).cost) (hx : ∀ i, i < xs.length → (0 ≤ (xs.getD i default).fr ∧ (xs.getD i default).fr < N) ∧ (0 ≤ (xs.getD i default).to_ ∧ (xs.getD i default).to_ < N)) {D : List Int} {r : Nat} (h : Sound xs N f D) (ht : Tight xs N f D r) : Tight xs N f (relaxTo xs D xs.length) (r + 1) := by
  intro v hv p hp hlen
  have hm := (relax_sound hc hx h xs.length (Nat.le_refl _)).2
  by_cases e : p = []
  · subst e
    obtain ⟨t1, t2⟩ := ht v hv [] hp (Nat.zero_le _)
    obtain ⟨m1, m2⟩ := hm v hv t1
    exact ⟨m1, by omega⟩
  · obtain ⟨q, k, e1, e2, e3, e4⟩ := walk_split p _ _ hp e
    subst e1
    obtain ⟨⟨a0, a1⟩, ⟨b0, b1⟩⟩ := hx k e2
    have hq : IsWalk xs f q (((xs.getD k default).fr.toNat : Nat) : Int) := by rw [show (((xs.getD k default).fr.toNat : Nat) : Int) = (xs.getD k default).fr by omega]; exact e3
    obtain ⟨t1, t2⟩ := ht (xs.getD k default).fr.toNat (by omega) q hq (by simp at hlen; omega)
    obtain ⟨d1, d2⟩ := relax_done hc hx h xs.length (Nat.le_refl _) k e2 t1
    have hcost := (walk_snoc q f k e3 e2).2
    rw [show (xs.getD k default).to_.toNat = v by omega] at d1 d2
    rw [hcost]
    exact ⟨d1, by omega⟩
theorem relax_idle (hc : ∀ i, i < xs.length → 0 ≤ (xs.getD i default).cost) (hx : ∀ i, i < xs.length → (0 ≤ (xs.getD i default).fr ∧ (xs.getD i default).fr < N) ∧ (0 ≤ (xs.getD i default).to_ ∧ (xs.getD i default).to_ < N)) (hf : f < N) {D : List Int} (h : Sound xs N f D) (ht : Tight xs N f D (N - 1)) : ∀ k, k ≤ xs.length → relaxTo xs D k = D
  | 0, _ => rfl
  | k + 1, hk => by
    have ih := relax_idle hc hx hf h ht k (by omega)
    obtain ⟨⟨a0, a1⟩, ⟨b0, b1⟩⟩ := hx k (by omega)
    rw [relaxTo, ih, if_neg]
    rintro ⟨c1, c2⟩
    rcases h.2 (xs.getD k default).fr.toNat (by omega) with h1 | ⟨_, p, p1, p2⟩
    · omega
    · rw [show (((xs.getD k default).fr.toNat : Nat) : Int) = (xs.getD k default).fr by omega] at p1
      obtain ⟨q1, q2⟩ := walk_snoc p _ k p1 (by omega)
      obtain ⟨c, w1, w2, w3⟩ := walk_short hc (fun i hi => (hx i hi).2) (show 0 ≤ (f : Int) by omega) (by omega) q1
      obtain ⟨t1, t2⟩ := ht (xs.getD k default).to_.toNat (by omega) c (by rw [show (((xs.getD k default).to_.toNat : Nat) : Int) = (xs.getD k default).to_ by omega]; exact w1) (by omega)
      rcases c2 with c2 | c2 <;> omega
theorem rounds_ok (hc : ∀ i, i < xs.length → 0 ≤ (xs.getD i default).cost) (hx : ∀ i, i < xs.length → (0 ≤ (xs.getD i default).fr ∧ (xs.getD i default).fr < N) ∧ (0 ≤ (xs.getD i default).to_ ∧ (xs.getD i default).to_ < N)) (hf : f < N) : ∀ r, Sound xs N f (roundsL xs N f r) ∧ Tight xs N f (roundsL xs N f r) r
  | 0 => by
    have hg : ∀ v, v < N → ((List.replicate N (-1 : Int)).set f 0).getD v 0 = if f = v then 0 else -1 := fun v hv => by
      rw [getD_setL _ f v _ (by simpa using hf)]
      split
      · rfl
      · simp [List.getD, hv]
    refine ⟨⟨by simp [roundsL], fun v hv => ?_⟩, fun v hv p hp hl => ?_⟩
    · rw [roundsL, hg v hv]
      by_cases e : f = v
      · rw [if_pos e]
        exact .inr ⟨Int.le_refl _, [], by rw [IsWalk]; omega, rfl⟩
      · rw [if_neg e]; exact .inl rfl
    · have hp0 : p = [] := List.eq_nil_of_length_eq_zero (by omega)
      subst hp0
      rw [IsWalk] at hp
      rw [roundsL, hg v hv, if_pos (by omega)]
      exact ⟨Int.le_refl _, Int.le_refl _⟩
  | r + 1 => by
    obtain ⟨h1, h2⟩ := rounds_ok hc hx hf r
    exact ⟨(relax_sound hc hx h1 xs.length (Nat.le_refl _)).1, relax_tight hc hx h1 h2⟩
/-- one round more changes nothing -/
theorem rounds_settled (hc : ∀ i, i < xs.length → 0 ≤ (xs.getD i default).cost) (hx : ∀ i, i < xs.length → (0 ≤ (xs.getD i default).fr ∧ (xs.getD i default).fr < N) ∧ (0 ≤ (xs.getD i default).to_ ∧ (xs.getD i default).to_ < N)) (hf : f < N) : roundsL xs N f N = roundsL xs N f (N - 1) := by
  obtain ⟨h1, h2⟩ := rounds_ok (f := f) hc hx hf (N - 1)
  have := relax_idle hc hx hf h1 h2 xs.length (Nat.le_refl _)
  conv => lhs; rw [show N = N - 1 + 1 by omega, roundsL]
  rw [show N - 1 + 1 = N by omega]
  exact this
end
end Go.Proofs.Ytjjciebioagkhaa
