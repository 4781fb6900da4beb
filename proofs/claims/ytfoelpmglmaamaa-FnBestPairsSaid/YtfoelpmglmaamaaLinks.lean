/- Left over arcs: links. -/
import Derived.Test.YtfoelpmglmaamaaFlow
import Derived.Test.YtfoelpmglmaamaaAppC
import Derived.Test.YtfoelpmglmaamaaNetMark
import Derived.StillTailTactics
namespace Go.Proofs.Ytfoelpmglmaamaa
open Go.RowKit

/-- a left over arc -/
structure LinkR where
  arc : Nat
  back : Bool
  fr : Int
  to_ : Int
  room : Int
  cost : Int
deriving DecidableEq
instance : Inhabited LinkR := ⟨⟨0, false, 0, 0, 0, 0⟩⟩
def LinkR.by_ (l : LinkR) : Int := if l.back then -1 else 1
/-- the cells of a link of the program -/
def LinkR.cells (l : LinkR) : List Value := [.int .i64 l.arc, .int .i64 l.by_, .int .i64 l.fr, .int .i64 l.to_, .int .i64 l.room, .int .i64 l.cost]
/-- the cells of a left over arc of the reference -/
def LinkR.cellsS (l : LinkR) : List Value := [.int .i64 l.fr, .int .i64 l.to_, .int .i64 l.room, .int .i64 l.cost, .int .i64 l.arc, .bool l.back]

/-- elements of s cells each -/
def flatV {α : Type} (f : α → List Value) (xs : List α) : List Value := xs.flatMap f
theorem flatV_len {α : Type} (f : α → List Value) (s : Nat) (hf : ∀ a, (f a).length = s) (xs : List α) : (flatV f xs).length = xs.length * s := by
  induction xs with
  | nil => simp [flatV]
  | cons x xs ih => simp only [flatV, List.flatMap_cons, List.length_append, List.length_cons] at *; rw [ih, hf, Nat.succ_mul]; omega
theorem flatV_get {α : Type} (f : α → List Value) (s : Nat) (hf : ∀ a, (f a).length = s) (d : α) : ∀ (xs : List α) (k i : Nat), k < xs.length → i < s → (flatV f xs)[k * s + i]? = (f (xs.getD k d))[i]?
  | [], k, i, h, _ => by simp at h
  | x :: xs, 0, i, _, hi => by
    simp only [flatV, List.flatMap_cons]
    rw [List.getElem?_append_left (by rw [hf]; omega)]
    simp
  | x :: xs, k + 1, i, h, hi => by
    have := flatV_get f s hf d xs k i (by simpa using h) hi
    simp only [flatV, List.flatMap_cons]
    rw [List.getElem?_append_right (by rw [hf, Nat.succ_mul]; omega), hf]
    rw [show (k + 1) * s + i - s = k * s + i by rw [Nat.succ_mul]; omega]
    simpa [flatV] using this
theorem flatV_append {α : Type} (f : α → List Value) (xs ys : List α) : flatV f xs ++ flatV f ys = flatV f (xs ++ ys) := by simp [flatV]
theorem flatV_one {α : Type} (f : α → List Value) (x : α) : flatV f [x] = f x := by simp [flatV]

def linksOf (i : Nat) (a : ArcR) (y : Int) : List LinkR := (if y < a.room then [⟨i, false, a.fr, a.to_, a.room - y, a.cost⟩] else []) ++ (if 0 < y then [⟨i, true, a.to_, a.fr, y, -a.cost⟩] else [])
/-- the links of the first k arcs -/
def linksTo (xs : List ArcR) (fl : List Int) (k : Nat) : List LinkR := (List.range k).flatMap fun i => linksOf i (xs.getD i default) (fl.getD i 0)
theorem linksTo_succ (xs : List ArcR) (fl : List Int) (k : Nat) : linksTo xs fl (k + 1) = linksTo xs fl k ++ linksOf k (xs.getD k default) (fl.getD k 0) := by
  unfold linksTo
  rw [List.range_succ, List.flatMap_append]; simp
theorem linksOf_len (i : Nat) (a : ArcR) (y : Int) : (linksOf i a y).length ≤ 2 := by
  unfold linksOf
  split <;> split <;> simp
theorem linksTo_len (xs : List ArcR) (fl : List Int) : ∀ k, (linksTo xs fl k).length ≤ 2 * k
  | 0 => by simp [linksTo]
  | k + 1 => by
    have := linksTo_len xs fl k
    have := linksOf_len k (xs.getD k default) (fl.getD k 0)
    rw [linksTo_succ, List.length_append]; omega
theorem linksOf_yy {i : Nat} {a : ArcR} {y : Int} (h1 : y < a.room) (h2 : 0 < y) : linksOf i a y = [⟨i, false, a.fr, a.to_, a.room - y, a.cost⟩] ++ [⟨i, true, a.to_, a.fr, y, -a.cost⟩] := by unfold linksOf; rw [if_pos h1, if_pos h2]
theorem linksOf_yn {i : Nat} {a : ArcR} {y : Int} (h1 : y < a.room) (h2 : ¬ 0 < y) : linksOf i a y = [⟨i, false, a.fr, a.to_, a.room - y, a.cost⟩] := by unfold linksOf; rw [if_pos h1, if_neg h2]; rfl
theorem linksOf_ny {i : Nat} {a : ArcR} {y : Int} (h1 : ¬ y < a.room) (h2 : 0 < y) : linksOf i a y = [⟨i, true, a.to_, a.fr, y, -a.cost⟩] := by unfold linksOf; rw [if_neg h1, if_pos h2]; rfl
theorem linksOf_nn {i : Nat} {a : ArcR} {y : Int} (h1 : ¬ y < a.room) (h2 : ¬ 0 < y) : linksOf i a y = [] := by unfold linksOf; rw [if_neg h1, if_neg h2]; rfl

/-- cells of one new block, as the source of an append -/
theorem src_one {w : World} {T : Nat} {cs : Array Value} (m : Nat) (hm : 0 < m) : 0 < m → ∃ bd, some (⟨w.heap.size, 0, none⟩ : Addr) = some bd ∧ ∀ j u, cs.toList[j]? = some u → (w.alloc (.cells cs T)).cell? (bd.add j) = some u := by
  intro _
  refine ⟨_, rfl, fun j u hj => ?_⟩
  have := (Blk.new w T cs).cell j
  have e : (⟨w.heap.size, 0, none⟩ : Addr).add j = ⟨w.heap.size, j, none⟩ := by
    unfold Addr.add
    split
    · rename_i h; rw [h]
    · simp
  rw [e, this, ← Array.getElem?_toList, hj]

theorem keepFar {w w' : World} {row : Option Nat} {a : Addr} {v : Value} (hg : w.grownBy w' row) (h : w.cell? a = some v) (hne : some a.block ≠ row) : w'.cell? a = some v :=
  (hg.cell_far a (World.block_lt_of_cell? w _ h) hne).trans h
theorem ne_own {A : Option Addr} {n c b : Nat} (h : ∀ ad, A = some ad → ad.block ≠ b) : some b ≠ (Value.slice A n c).ownBlock := by
  cases A with
  | none => intro h2; cases h2
  | some ad => intro h2; injection h2 with h2; exact h ad rfl h2.symm
theorem below_grown {B base T size n c : Nat} {a w w' : World} {A : Option Addr} {vs : List Value} (hb : Below B a w) (hB : B ≤ w.heap.size) (hg : w.grownBy w' (Value.slice A n c).ownBlock) (ho : OwnC T base size w A n c vs) (hbase : B ≤ base) : Below B a w' := by
  refine below_blkC hb hB ((Upd.refl _ _).grown hg ?_) ho hbase
  intro k hk
  cases A with
  | none => cases hk
  | some ad => injection hk with hk; exact .inl ⟨ad, rfl, hk⟩

end Go.Proofs.Ytfoelpmglmaamaa
