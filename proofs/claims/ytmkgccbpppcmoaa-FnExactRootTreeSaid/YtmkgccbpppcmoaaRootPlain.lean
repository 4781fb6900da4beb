/- The cheapest tree away from a root, in plain lists: both go through all choices of arcs in one order. -/
import Derived.Test.YtmkgccbpppcmoaaFlow
namespace Go.Proofs.Ytmkgccbpppcmoaa
open Go.RowKit

theorem nodup_leR : ∀ (k : Nat) (l : List Nat), l.Nodup → (∀ x ∈ l, x < k) → l.length ≤ k
  | 0, l, _, h => by
    cases l with
    | nil => exact Nat.le_refl _
    | cons a t => have := h a (by simp); omega
  | k + 1, l, hd, h => by
    have h1 := nodup_leR k (l.erase k) (hd.erase k) (fun x hx => by
      have h2 := h x (List.mem_of_mem_erase hx)
      have h3 : x ≠ k := fun e => by subst e; exact (List.Nodup.not_mem_erase hd) hx
      omega)
    by_cases hm : k ∈ l
    · rw [List.length_erase_of_mem hm] at h1
      omega
    · rw [List.erase_of_not_mem hm] at h1
      omega
/-- the node before a node -/
def rprev (xs : List ArcR) (zs : List Int) (k : Nat) : Nat := (xs.getD (zs.getD k 0).toNat default).fr.toNat
/-- the root is reached within some steps -/
def reachR (xs : List ArcR) (zs : List Int) (r : Nat) : Nat → Nat → Bool
  | 0, k => decide (k = r)
  | f + 1, k => if k = r then true else reachR xs zs r f (rprev xs zs k)
def itR (g : Nat → Nat) : Nat → Nat → Nat
  | 0, k => k
  | s + 1, k => itR g s (g k)
theorem itR_add (g : Nat → Nat) : ∀ (a b k : Nat), itR g (a + b) k = itR g b (itR g a k)
  | 0, b, k => by rw [Nat.zero_add]; rfl
  | a + 1, b, k => by rw [show a + 1 + b = (a + b) + 1 by omega]; exact itR_add g a b (g k)
theorem reachR_iff {xs : List ArcR} {zs : List Int} {r : Nat} : ∀ (f k : Nat), reachR xs zs r f k = true ↔ ∃ s, s ≤ f ∧ itR (rprev xs zs) s k = r
  | 0, k => by
    unfold reachR
    rw [decide_eq_true_iff]
    constructor
    · intro h; exact ⟨0, Nat.le_refl _, h⟩
    · rintro ⟨s, h1, h2⟩
      obtain rfl : s = 0 := by omega
      exact h2
  | f + 1, k => by
    unfold reachR
    by_cases e : k = r
    · rw [if_pos e]
      exact ⟨fun _ => ⟨0, by omega, e⟩, fun _ => rfl⟩
    · rw [if_neg e, reachR_iff f]
      constructor
      · rintro ⟨s, h1, h2⟩; exact ⟨s + 1, by omega, h2⟩
      · rintro ⟨s, h1, h2⟩
        cases s with
        | zero => exact absurd h2 e
        | succ s => exact ⟨s, by omega, h2⟩
theorem least_at {P : Nat → Prop} : ∀ (s : Nat), P s → ∃ t, t ≤ s ∧ P t ∧ ∀ u, u < t → ¬ P u := by
  intro s
  induction s using Nat.strongRecOn with
  | ind s ih =>
    intro h
    by_cases h2 : ∃ u, u < s ∧ P u
    · obtain ⟨u, h3, h4⟩ := h2
      obtain ⟨t, a, b, c⟩ := ih u h3 h4
      exact ⟨t, by omega, b, c⟩
    · exact ⟨s, Nat.le_refl _, h, fun u hu hp => h2 ⟨u, hu, hp⟩⟩
/-- a way to the root that is none longer than needed goes through fewer nodes than there are -/
theorem reach_short {g : Nat → Nat} {N r k : Nat} (hg : ∀ i, i < N → g i < N) (hk : k < N) {s : Nat} (hs : itR g s k = r) : ∃ t, t < N ∧ itR g t k = r := by
  obtain ⟨t, h1, h2, h3⟩ := least_at (P := fun t => itR g t k = r) s hs
  have hin : ∀ i, itR g i k < N := by
    have : ∀ i j, j < N → itR g i j < N := by
      intro i
      induction i with
      | zero => intro j hj; exact hj
      | succ i ih => intro j hj; exact ih (g j) (hg j hj)
    exact fun i => this i k hk
  refine ⟨t, ?_, h2⟩
  have hnd : ((List.range (t + 1)).map fun i => itR g i k).Nodup := by
    rw [List.Nodup, List.pairwise_map]
    refine (List.pairwise_lt_range (n := t + 1)).imp_of_mem ?_
    intro a b ha hb hab e
    rw [List.mem_range] at ha hb
    refine h3 (a + (t - b)) (by omega) ?_
    show itR g (a + (t - b)) k = r
    rw [itR_add, e, ← itR_add, show b + (t - b) = t by omega]
    exact h2
  have := nodup_leR N _ hnd (fun x hx => by
    rw [List.mem_map] at hx
    obtain ⟨i, _, e⟩ := hx
    rw [← e]
    exact hin i)
  rw [List.length_map, List.length_range] at this
  omega
theorem reachR_more {xs : List ArcR} {zs : List Int} {r N k : Nat} (hg : ∀ i, i < N → rprev xs zs i < N) (hk : k < N) : reachR xs zs r (N + 1) k = reachR xs zs r N k := by
  cases h1 : reachR xs zs r N k
  · cases h2 : reachR xs zs r (N + 1) k
    · rfl
    · obtain ⟨s, _, h3⟩ := (reachR_iff _ _).1 h2
      obtain ⟨t, h4, h5⟩ := reach_short hg hk h3
      rw [(reachR_iff N k).2 ⟨t, by omega, h5⟩] at h1
      cases h1
  · obtain ⟨s, h2, h3⟩ := (reachR_iff _ _).1 h1
    exact (reachR_iff _ _).2 ⟨s, by omega, h3⟩
/-- the first k nodes reach the root -/
def rootedR (xs : List ArcR) (zs : List Int) (r N : Nat) : Nat → Bool
  | 0 => true
  | k + 1 => rootedR xs zs r N k && reachR xs zs r N k
theorem rootedR_no {xs : List ArcR} {zs : List Int} {r N k : Nat} (hk : k < N) (h : reachR xs zs r N k = false) : ∀ m, k < m → rootedR xs zs r N m = false
  | 0, h2 => by omega
  | m + 1, h2 => by
    unfold rootedR
    by_cases e : k = m
    · subst e; rw [h, Bool.and_false]
    · rw [rootedR_no hk h m (by omega), Bool.false_and]
/-- what the first k chosen arcs cost -/
def costR (xs : List ArcR) (zs : List Int) : Nat → Int
  | 0 => 0
  | k + 1 => if zs.getD k 0 < 0 then costR xs zs k else costR xs zs k + (xs.getD (zs.getD k 0).toNat default).cost
theorem costR_app {xs : List ArcR} {zs : List Int} {x : Int} : ∀ k, k ≤ zs.length → costR xs (zs ++ [x]) k = costR xs zs k
  | 0, _ => rfl
  | k + 1, h => by
    have h1 : (zs ++ [x]).getD k 0 = zs.getD k 0 := by simp only [List.getD]; rw [List.getElem?_append_left (by omega)]
    have h2 := costR_app (xs := xs) (x := x) k (show k ≤ zs.length by omega)
    unfold costR
    rw [h1, h2]
theorem costR_snoc {xs : List ArcR} {zs : List Int} {x : Int} : costR xs (zs ++ [x]) (zs.length + 1) = if x < 0 then costR xs zs zs.length else costR xs zs zs.length + (xs.getD x.toNat default).cost := by
  rw [costR, costR_app _ (Nat.le_refl _), show (zs ++ [x]).getD zs.length 0 = x by simp [List.getD]]
theorem costR_bd {xs : List ArcR} {zs : List Int} (h : ∀ k, k < zs.length → zs.getD k 0 < xs.length) (hc : ∀ k, k < xs.length → -1000 ≤ (xs.getD k default).cost ∧ (xs.getD k default).cost ≤ 1000) : ∀ k, k ≤ zs.length → -(1000 * (k : Int)) ≤ costR xs zs k ∧ costR xs zs k ≤ 1000 * (k : Int)
  | 0, _ => by unfold costR; omega
  | k + 1, hk => by
    have ih := costR_bd h hc k (by omega)
    unfold costR
    split
    · omega
    · have h1 := h k (by omega)
      have := hc (zs.getD k 0).toNat (by omega)
      omega
/-- the state of the search: the best list, and what it costs -/
def leafR (xs : List ArcR) (N r : Nat) (zs : List Int) (st : List Int × Int) : List Int × Int :=
  if rootedR xs zs r N N = true ∧ (st.1.length = 0 ∨ costR xs zs N < st.2) then (zs, costR xs zs N) else st
def rtTo (xs : List ArcR) (k : Nat) (G : List Int → List Int × Int → List Int × Int) (zs : List Int) (st : List Int × Int) : Nat → List Int × Int
  | 0 => st
  | i + 1 => if (xs.getD i default).to_ = (k : Int) then G (zs ++ [(i : Int)]) (rtTo xs k G zs st i) else rtTo xs k G zs st i
def rtF (xs : List ArcR) (N r : Nat) : Nat → List Int → List Int × Int → List Int × Int
  | 0, zs, st => leafR xs N r zs st
  | f + 1, zs, st => if zs.length = r then rtF xs N r f (zs ++ [-1]) st else rtTo xs zs.length (rtF xs N r f) zs st xs.length
/-- what lists of chosen arcs are -/
def ChR (xs : List ArcR) (r : Nat) (zs : List Int) : Prop := ∀ k, k < zs.length → (k = r ∧ zs.getD k 0 = -1) ∨ (k ≠ r ∧ 0 ≤ zs.getD k 0 ∧ zs.getD k 0 < xs.length)
theorem ChR.nil {xs : List ArcR} {r : Nat} : ChR xs r [] := fun k h => by simp at h
theorem ChR.root {xs : List ArcR} {zs : List Int} {r : Nat} (h : ChR xs r zs) (hr : zs.length = r) : ChR xs r (zs ++ [-1]) := by
  intro k hk
  rw [List.length_append, List.length_singleton] at hk
  by_cases e : k < zs.length
  · have h1 : (zs ++ [(-1 : Int)]).getD k 0 = zs.getD k 0 := by simp only [List.getD]; rw [List.getElem?_append_left e]
    rw [h1]
    exact h k e
  · have e2 : k = zs.length := by omega
    exact .inl ⟨by omega, by rw [e2]; simp [List.getD]⟩
theorem ChR.arc {xs : List ArcR} {zs : List Int} {r i : Nat} (h : ChR xs r zs) (hr : zs.length ≠ r) (hi : i < xs.length) : ChR xs r (zs ++ [(i : Int)]) := by
  intro k hk
  rw [List.length_append, List.length_singleton] at hk
  by_cases e : k < zs.length
  · rw [show (zs ++ [(i : Int)]).getD k 0 = zs.getD k 0 by simp only [List.getD]; rw [List.getElem?_append_left e]]
    exact h k e
  · have e2 : k = zs.length := by omega
    refine .inr ⟨by omega, ?_⟩
    rw [e2, show (zs ++ [(i : Int)]).getD zs.length 0 = i by simp [List.getD]]
    omega
/-- the best list is none or one of all nodes; what it costs is small -/
def StR (N : Nat) (st : List Int × Int) : Prop := (st.1.length = 0 ∨ st.1.length = N) ∧ -(1000 * (N : Int)) ≤ st.2 ∧ st.2 ≤ 1000 * (N : Int)
theorem leafR_ok {xs : List ArcR} {N r : Nat} {zs : List Int} {st : List Int × Int} (h : ChR xs r zs) (hl : zs.length = N) (hc : ∀ k, k < xs.length → -1000 ≤ (xs.getD k default).cost ∧ (xs.getD k default).cost ≤ 1000) (hs : StR N st) : StR N (leafR xs N r zs st) := by
  unfold leafR
  split
  · refine ⟨.inr hl, ?_⟩
    have := costR_bd (xs := xs) (zs := zs) (fun k hk => by rcases h k hk with ⟨_, h2⟩ | ⟨_, _, h2⟩ <;> omega) hc N (by omega)
    exact this
  · exact hs
theorem rtTo_ok {xs : List ArcR} {N r k : Nat} {G : List Int → List Int × Int → List Int × Int} {zs : List Int} {st : List Int × Int} (hG : ∀ (i : Nat) st, i < xs.length → StR N st → StR N (G (zs ++ [(i : Int)]) st)) (hs : StR N st) : ∀ i, i ≤ xs.length → StR N (rtTo xs k G zs st i)
  | 0, _ => hs
  | i + 1, hi => by
    unfold rtTo
    have ih := rtTo_ok (r := r) (k := k) hG hs i (by omega)
    split
    · exact hG i _ (by omega) ih
    · exact ih
theorem rtF_ok {xs : List ArcR} {N r : Nat} (hc : ∀ k, k < xs.length → -1000 ≤ (xs.getD k default).cost ∧ (xs.getD k default).cost ≤ 1000) : ∀ (f : Nat) (zs : List Int) (st : List Int × Int), zs.length + f = N → ChR xs r zs → StR N st → StR N (rtF xs N r f zs st)
  | 0, zs, st, hl, h, hs => leafR_ok h (by omega) hc hs
  | f + 1, zs, st, hl, h, hs => by
    unfold rtF
    split
    · rename_i e
      exact rtF_ok hc f _ st (by rw [List.length_append, List.length_singleton]; omega) (h.root e) hs
    · rename_i e
      refine rtTo_ok (r := r) (fun i st hi hs => ?_) hs _ (Nat.le_refl _)
      exact rtF_ok hc f _ st (by rw [List.length_append, List.length_singleton]; omega) (h.arc e hi) hs
theorem rprev_lt {xs : List ArcR} {zs : List Int} {r N : Nat} (hx : ∀ k, k < xs.length → 0 ≤ (xs.getD k default).fr ∧ (xs.getD k default).fr < N) (hN : 0 < N) : ∀ i, i < N → rprev xs zs i < N := by
  intro i _
  unfold rprev
  by_cases h : (zs.getD i 0).toNat < xs.length
  · have := hx _ h; omega
  · rw [show xs.getD (zs.getD i 0).toNat default = default from by generalize (zs.getD i 0).toNat = q at *; simp only [List.getD]; rw [List.getElem?_eq_none (by omega)]; rfl]
    exact hN
end Go.Proofs.Ytmkgccbpppcmoaa
