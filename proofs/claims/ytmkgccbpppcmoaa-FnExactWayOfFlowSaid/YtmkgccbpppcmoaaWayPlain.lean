/- WayOfFlow, in plain lists: a flow is cut to ways. -/
import Derived.Test.YtmkgccbpppcmoaaFlow
namespace Go.Proofs.Ytmkgccbpppcmoaa
open Go.RowKit

/-- the first arc from number i on, among k arcs, that leads out of a node and has a rest -/
def findW (xs : List ArcR) (rs : List Int) (at_ : Int) : Nat → Nat → Nat
  | 0, i => i
  | k + 1, i => if (xs.getD i default).fr = at_ ∧ 0 < rs.getD i 0 then i else findW xs rs at_ k (i + 1)
theorem findW_le {xs : List ArcR} {rs : List Int} {at_ : Int} : ∀ (k i : Nat), i ≤ findW xs rs at_ k i ∧ findW xs rs at_ k i ≤ i + k
  | 0, i => ⟨Nat.le_refl _, Nat.le_refl _⟩
  | k + 1, i => by
    unfold findW
    split
    · omega
    · have := findW_le (xs := xs) (rs := rs) (at_ := at_) k (i + 1); omega
theorem findW_hit {xs : List ArcR} {rs : List Int} {at_ : Int} : ∀ (k i : Nat), findW xs rs at_ k i < i + k → (xs.getD (findW xs rs at_ k i) default).fr = at_ ∧ 0 < rs.getD (findW xs rs at_ k i) 0
  | 0, i, h => by unfold findW at h; omega
  | k + 1, i, h => by
    unfold findW at h ⊢
    split
    · assumption
    · rename_i hn
      rw [if_neg hn] at h
      exact findW_hit k (i + 1) (by omega)
/-- a way: f more arcs are allowed -/
def wayF (xs : List ArcR) (to_ : Int) : Nat → Int → List Int → List Int → Option (List Int × List Int)
  | 0, at_, rs, wy => if at_ = to_ then some (rs, wy) else none
  | f + 1, at_, rs, wy => if at_ = to_ then some (rs, wy) else
      if findW xs rs at_ xs.length 0 = xs.length then none
      else wayF xs to_ f (xs.getD (findW xs rs at_ xs.length 0) default).to_ (rs.set (findW xs rs at_ xs.length 0) (rs.getD (findW xs rs at_ xs.length 0) 0 - 1)) (wy ++ [(findW xs rs at_ xs.length 0 : Int)])
/-- all ways: a more are to be found -/
def waysF (xs : List ArcR) (fr to_ : Int) : Nat → List Int → List (List Int) → Option (List (List Int))
  | 0, _, out => some out
  | a + 1, rs, out => match wayF xs to_ 48 fr rs [] with
    | none => none
    | some (rs', wy) => waysF xs fr to_ a rs' (out ++ [wy])
theorem wayF_len {xs : List ArcR} {to_ : Int} : ∀ (f : Nat) (at_ : Int) (rs wy : List Int) (rs' wy' : List Int), wayF xs to_ f at_ rs wy = some (rs', wy') → wy.length ≤ wy'.length ∧ wy'.length ≤ wy.length + f ∧ rs'.length = rs.length
  | 0, at_, rs, wy, rs', wy', h => by
    unfold wayF at h
    split at h
    · injection h with h; injection h with h1 h2; subst h1; subst h2; exact ⟨Nat.le_refl _, Nat.le_refl _, rfl⟩
    · cases h
  | f + 1, at_, rs, wy, rs', wy', h => by
    unfold wayF at h
    split at h
    · injection h with h; injection h with h1 h2; subst h1; subst h2; exact ⟨Nat.le_refl _, by omega, rfl⟩
    · split at h
      · cases h
      · have := wayF_len f _ _ _ _ _ h
        rw [List.length_append, List.length_singleton, List.length_set] at this
        omega
/-- what is left of a flow stays within bounds -/
def RestOk (rs : List Int) (n : Nat) : Prop := rs.length = n ∧ ∀ k, k < n → 0 ≤ rs.getD k 0 ∧ rs.getD k 0 ≤ 1000000
theorem RestOk.step {rs : List Int} {n j : Nat} (h : RestOk rs n) (hj : j < n) (hp : 0 < rs.getD j 0) : RestOk (rs.set j (rs.getD j 0 - 1)) n := by
  refine ⟨by rw [List.length_set]; exact h.1, fun k hk => ?_⟩
  by_cases e : j = k
  · subst e
    have := h.2 j hk
    rw [show (rs.set j (rs.getD j 0 - 1)).getD j 0 = rs.getD j 0 - 1 by simp [List.getD, List.getElem?_set, show j < rs.length by rw [h.1]; exact hj]]
    omega
  · rw [show (rs.set j (rs.getD j 0 - 1)).getD k 0 = rs.getD k 0 by simp [List.getD, List.getElem?_set, e]]
    exact h.2 k hk
theorem wayF_rest {xs : List ArcR} {to_ : Int} : ∀ (f : Nat) (at_ : Int) (rs wy : List Int) (rs' wy' : List Int), RestOk rs xs.length → wayF xs to_ f at_ rs wy = some (rs', wy') → RestOk rs' xs.length
  | 0, at_, rs, wy, rs', wy', hr, h => by
    unfold wayF at h
    split at h
    · injection h with h; injection h with h1 h2; subst h1; exact hr
    · cases h
  | f + 1, at_, rs, wy, rs', wy', hr, h => by
    unfold wayF at h
    split at h
    · injection h with h; injection h with h1 h2; subst h1; exact hr
    · split at h
      · cases h
      · rename_i hne
        have hle := (findW_le (xs := xs) (rs := rs) (at_ := at_) xs.length 0).2
        have hh := findW_hit (xs := xs) (rs := rs) (at_ := at_) xs.length 0 (by omega)
        exact wayF_rest f _ _ _ _ _ (hr.step (by omega) hh.2) h
theorem waysF_len {xs : List ArcR} {fr to_ : Int} : ∀ (a : Nat) (rs : List Int) (out out' : List (List Int)), waysF xs fr to_ a rs out = some out' → out'.length = out.length + a
  | 0, rs, out, out', h => by
    unfold waysF at h
    injection h with h; subst h; rfl
  | a + 1, rs, out, out', h => by
    unfold waysF at h
    split at h
    · cases h
    · have := waysF_len a _ _ _ h
      rw [List.length_append, List.length_singleton] at this
      omega
end Go.Proofs.Ytmkgccbpppcmoaa
