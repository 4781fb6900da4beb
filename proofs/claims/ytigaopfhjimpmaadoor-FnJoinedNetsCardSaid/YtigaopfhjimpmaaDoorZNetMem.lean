/- Nets in memory: arcs of four cells. -/
import Derived.Test.YtigaopfhjimpmaaDoorZLaw
import Derived.Test.YtigaopfhjimpmaaDoorZMark
import Derived.Deep.RegionHeld3
namespace Go.Proofs.YtigaopfhjimpmaaDoor
open Go.RowKit

structure ArcR where
  fr : Int
  to_ : Int
  room : Int
  cost : Int
deriving DecidableEq
instance : Inhabited ArcR := ⟨⟨0, 0, 0, 0⟩⟩
def ArcR.cells (a : ArcR) : List Value := [.int .i64 a.fr, .int .i64 a.to_, .int .i64 a.room, .int .i64 a.cost]
def ArcR.val (a : ArcR) : Value := .agg #[.int .i64 a.fr, .int .i64 a.to_, .int .i64 a.room, .int .i64 a.cost]

/-- the four cells of an arc lie at this address -/
def ArcCells (w : World) (p : Addr) (a : ArcR) : Prop :=
  w.cell? p = some (.int .i64 a.fr) ∧ w.cell? ⟨p.block, p.off + 1, none⟩ = some (.int .i64 a.to_) ∧ w.cell? ⟨p.block, p.off + 2, none⟩ = some (.int .i64 a.room) ∧ w.cell? ⟨p.block, p.off + 3, none⟩ = some (.int .i64 a.cost)

def ArcsAt (w : World) (A : Option Addr) (n : Nat) (xs : List ArcR) : Prop :=
  xs.length = n ∧ (0 < n → ∃ ad : Addr, A = some ad ∧ ad.block < w.heap.size ∧ ∀ j, j < n → ArcCells w (ad.add (j * 4)) (xs.getD j default))

theorem ArcCells.keep {w w' : World} {p : Addr} {a : ArcR} (h : ArcCells w p a) (hb : w'.heap[p.block]? = w.heap[p.block]?) : ArcCells w' p a := by
  obtain ⟨h0, h1, h2, h3⟩ := h
  exact ⟨(World.cell?_of_block (w := w) (a := p) hb).trans h0, (World.cell?_of_block (w := w) (a := ⟨p.block, p.off + 1, none⟩) hb).trans h1, (World.cell?_of_block (w := w) (a := ⟨p.block, p.off + 2, none⟩) hb).trans h2, (World.cell?_of_block (w := w) (a := ⟨p.block, p.off + 3, none⟩) hb).trans h3⟩
section arcs
variable {w w' : World} {A : Option Addr} {n c : Nat} {xs : List ArcR} {S : Nat → Prop} {T base : Nat}
theorem ArcsAt.len (h : ArcsAt w A n xs) : xs.length = n := h.1
theorem ArcsAt.nil_ : ArcsAt w none 0 [] := ⟨rfl, fun h => absurd h (by omega)⟩
theorem ArcsAt.at_ (h : ArcsAt w A n xs) {k : Nat} (hk : k < n) : ∃ ad, A = some ad ∧ ad.block < w.heap.size ∧ ArcCells w (ad.add (k * 4)) (xs.getD k default) := by
  obtain ⟨ad, h1, h2, h3⟩ := h.2 (by omega)
  exact ⟨ad, h1, h2, h3 k hk⟩
theorem ArcsAt.keep (h : ArcsAt w A n xs) (hs : w.heap.size ≤ w'.heap.size) (hk : ∀ ad, A = some ad → ad.block < w.heap.size → w'.heap[ad.block]? = w.heap[ad.block]?) : ArcsAt w' A n xs := by
  refine ⟨h.1, fun hn => ?_⟩
  obtain ⟨ad, h1, h2, h3⟩ := h.2 hn
  exact ⟨ad, h1, by omega, fun j hj => (h3 j hj).keep (by rw [block_add]; exact hk ad h1 h2)⟩
theorem ArcsAt.below (h : ArcsAt w A n xs) (hb : Below w.heap.size w w') : ArcsAt w' A n xs := h.keep hb.size fun ad _ h2 => hb.block _ h2
theorem ArcsAt.alloc (h : ArcsAt w A n xs) (o : Obj) : ArcsAt (w.alloc o) A n xs := h.keep (by simp) fun ad _ h2 => Below.heap_alloc w o _ h2
theorem ArcsAt.upd (h : ArcsAt w A n xs) (hb : Upd S w w') (hS : ∀ ad, A = some ad → ¬ S ad.block) : ArcsAt w' A n xs := h.keep hb.size fun ad h1 h2 => hb.block _ h2 (hS ad h1)
theorem ArcsAt.drew (h : ArcsAt w A n xs) : ArcsAt w.drew A n xs := h
theorem ArcsAt.drewN (h : ArcsAt w A n xs) (m : Nat) : ArcsAt (w.drewN m) A n xs := h
theorem ArcsAt.drewTo (h : ArcsAt w A n xs) (hd : Drew w w') : ArcsAt w' A n xs := by
  obtain ⟨q, rfl⟩ := hd
  exact h
end arcs
/-- the cells of arcs, one behind the other -/
def arcsV (xs : List ArcR) : List Value := xs.flatMap ArcR.cells
theorem arcsV_len (xs : List ArcR) : (arcsV xs).length = xs.length * 4 := by
  induction xs with
  | nil => rfl
  | cons x xs ih => simp only [arcsV, List.flatMap_cons, List.length_append, List.length_cons] at *; simp only [ArcR.cells, List.length_cons, List.length_nil]; omega
theorem arcsV_get : ∀ (xs : List ArcR) (k i : Nat), k < xs.length → i < 4 → (arcsV xs)[k * 4 + i]? = (xs.getD k default).cells[i]?
  | [], k, i, h, _ => by simp at h
  | x :: xs, 0, i, _, hi => by
    simp only [arcsV, List.flatMap_cons]
    rw [List.getElem?_append_left (by simp [ArcR.cells]; omega)]
    simp
  | x :: xs, k + 1, i, h, hi => by
    have := arcsV_get xs k i (by simpa using h) hi
    simp only [arcsV, List.flatMap_cons]
    rw [List.getElem?_append_right (by simp [ArcR.cells]; omega)]
    rw [show (k + 1) * 4 + i - x.cells.length = k * 4 + i by simp [ArcR.cells]; omega]
    simpa [arcsV] using this

def OwnA (T base : Nat) (w : World) (A : Option Addr) (n c : Nat) (xs : List ArcR) : Prop := OwnC T base 4 w A n c (arcsV xs)
theorem OwnA.arcs {T base : Nat} {w : World} {A : Option Addr} {n c : Nat} {xs : List ArcR} (h : OwnA T base w A n c xs) : ArcsAt w A n xs := by
  have hl : xs.length = n := by have := OwnC.len h; rw [arcsV_len] at this; omega
  refine ⟨hl, fun hn => ?_⟩
  obtain ⟨g, hA, _, hlt, _⟩ := OwnC.pos h hn
  subst hA
  refine ⟨_, rfl, hlt, fun j hj => ?_⟩
  have key : ∀ i, i < 4 → w.cell? ⟨g, j * 4 + i, none⟩ = (xs.getD j default).cells[i]? := fun i hi => by
    rw [OwnC.cell h (by omega), arcsV_get xs j i (by omega) hi]
  have e : (⟨g, 0, none⟩ : Addr).add (j * 4) = ⟨g, j * 4, none⟩ := by
    unfold Addr.add
    split
    · rename_i h0; rw [h0]
    · simp
  rw [e]
  exact ⟨key 0 (by omega), key 1 (by omega), key 2 (by omega), key 3 (by omega)⟩
theorem OwnA.len {T base : Nat} {w : World} {A : Option Addr} {n c : Nat} {xs : List ArcR} (h : OwnA T base w A n c xs) : xs.length = n := h.arcs.len
theorem OwnA.cells {T base g : Nat} {w : World} {n c : Nat} {xs : List ArcR} (h : OwnA T base w (some ⟨g, 0, none⟩) n c xs) {j : Nat} (hj : j < n) :
    w.cell? ⟨g, j * 4, none⟩ = some (.int .i64 (xs.getD j default).fr) ∧ w.cell? ⟨g, j * 4 + 1, none⟩ = some (.int .i64 (xs.getD j default).to_) ∧ w.cell? ⟨g, j * 4 + 2, none⟩ = some (.int .i64 (xs.getD j default).room) ∧ w.cell? ⟨g, j * 4 + 3, none⟩ = some (.int .i64 (xs.getD j default).cost) := by
  have hl := h.len
  have key : ∀ i, i < 4 → w.cell? ⟨g, j * 4 + i, none⟩ = (xs.getD j default).cells[i]? := fun i hi => by
    rw [OwnC.cell h (by omega), arcsV_get xs j i (by omega) hi]
  exact ⟨key 0 (by omega), key 1 (by omega), key 2 (by omega), key 3 (by omega)⟩
theorem arcsV_set : ∀ (xs : List ArcR) (k : Nat) (a : ArcR), k < xs.length →
    ((((arcsV xs).set (k * 4) (.int .i64 a.fr)).set (k * 4 + 1) (.int .i64 a.to_)).set (k * 4 + 2) (.int .i64 a.room)).set (k * 4 + 3) (.int .i64 a.cost) = arcsV (xs.set k a)
  | [], k, a, h => by simp at h
  | x :: xs, 0, a, _ => by simp [arcsV, ArcR.cells]
  | x :: xs, k + 1, a, h => by
    have ih := arcsV_set xs k a (by simpa using h)
    simp only [arcsV, List.flatMap_cons, ArcR.cells, List.cons_append, List.nil_append, List.set_cons_succ] at ih ⊢
    rw [← ih]
    rw [show (k + 1) * 4 = k * 4 + 1 + 1 + 1 + 1 from by omega]
    simp only [List.set_cons_succ]
theorem OwnA.set4 {T base g : Nat} {w : World} {n c : Nat} {xs : List ArcR} (h : OwnA T base w (some ⟨g, 0, none⟩) n c xs) {k : Nat} (hk : k < n) (a : ArcR) :
    OwnA T base ((((w.setCell ⟨g, k * 4, none⟩ (.int .i64 a.fr)).setCell ⟨g, k * 4 + 1, none⟩ (.int .i64 a.to_)).setCell ⟨g, k * 4 + 2, none⟩ (.int .i64 a.room)).setCell ⟨g, k * 4 + 3, none⟩ (.int .i64 a.cost)) (some ⟨g, 0, none⟩) n c (xs.set k a) := by
  have hl := h.len
  unfold OwnA
  rw [← arcsV_set xs k a (by omega)]
  exact (((OwnC.set h _ _).set _ _).set _ _).set _ _
theorem OwnA.below {T base : Nat} {w w' : World} {A : Option Addr} {n c : Nat} {xs : List ArcR} (h : OwnA T base w A n c xs) (hb : Below w.heap.size w w') : OwnA T base w' A n c xs := OwnC.below h hb

theorem info4 : (Tryd.prog.info? 42).map (fun i => (i.zero, i.size, i.bytes)) = some (some (.agg #[.int .i64 0, .int .i64 0, .int .i64 0, .int .i64 0]), 4, 32) := by kernel_rfl

theorem toArc_any (f t r c : Int) (w : World) :
    Calls Tryd.prog 45 #[.agg #[.int .i64 f, .int .i64 t, .int .i64 r, .int .i64 c]] w (RetV (.agg #[.int .i64 f, .int .i64 t, .int .i64 r, .int .i64 c]) w) := by
  go_enter Tryd.func45, Tryd.ntmps45
  go_wp2
  refine bodyPost_ret (v := .agg #[.int .i64 f, .int .i64 t, .int .i64 r, .int .i64 c]) (by simp [results, Tryd.results45, go_sem]) rfl ⟨rfl, ?_⟩
  repeat (first | exact Below.refl _ _ | refine Below.alloc ?_ (by first | (simp; done) | (simp; omega)) _ | refine Below.setCell ?_ (by simp) _)

theorem arcs_zero (n : Nat) : (madeCells (Value.agg #[.int .i64 0, .int .i64 0, .int .i64 0, .int .i64 0]).cells (n * 4)).toList = arcsV (List.replicate n default) := by
  apply List.ext_getElem?
  intro j
  by_cases hj : j < n * 4
  · have hk : j / 4 < n := by omega
    have := arcsV_get (List.replicate n default) (j / 4) (j % 4) (by simpa using hk) (by omega)
    rw [show j / 4 * 4 + j % 4 = j from by omega] at this
    rw [this]
    have e : (List.replicate n (default : ArcR)).getD (j / 4) default = default := by simp [List.getD, List.getElem?_replicate, hk]
    rw [e, Array.getElem?_toList]
    simp only [madeCells, Value.cells, Array.getElem?_map, Array.getElem?_range]
    rw [if_pos hj]
    have : j % 4 = 0 ∨ j % 4 = 1 ∨ j % 4 = 2 ∨ j % 4 = 3 := by omega
    rcases this with h | h | h | h <;> simp [h, ArcR.cells] <;> rfl
  · rw [List.getElem?_eq_none (by simp [size_madeCells]; omega), List.getElem?_eq_none (by rw [arcsV_len]; simp; omega)]

theorem take_rep_setG {α} (zs : List α) (k n : Nat) (x d : α) (hn : zs.length = n) (hk : k < n) :
    (zs.take k ++ List.replicate (n - k) x).set k (zs.getD k d) = zs.take (k + 1) ++ List.replicate (n - (k + 1)) x := by
  apply List.ext_getElem?
  intro j
  have hl : (zs.take k).length = k := by simp; omega
  rw [List.getElem?_set]
  simp only [List.length_append, List.length_replicate, hl]
  by_cases h1 : k = j
  · subst h1
    rw [if_pos rfl, if_pos (by omega), List.getElem?_append_left (by simp; omega), List.getElem?_take, if_pos (by omega)]
    simp [List.getD, List.getElem?_eq_getElem (show k < zs.length by omega)]
  · rw [if_neg h1]
    by_cases h2 : j < k
    · rw [List.getElem?_append_left (by omega), List.getElem?_append_left (by simp; omega)]
      simp [List.getElem?_take, h2, Nat.lt_succ_of_lt h2]
    · rw [List.getElem?_append_right (by omega), List.getElem?_append_right (by simp; omega)]
      have hl' : (zs.take (k+1)).length = k + 1 := by simp; omega
      rw [hl, hl', List.getElem?_replicate, List.getElem?_replicate]
      by_cases h3 : j < n
      · rw [if_pos (by omega), if_pos (by omega)]
      · rw [if_neg (by omega), if_neg (by omega)]

set_option maxHeartbeats 800000 in
theorem toArcS_any (A : Option Addr) (n c : Nat) (xs : List ArcR) (w : World) (h : ArcsAt w A n xs) (hl : n ≤ 1048576) :
    Calls Tryd.prog 26 #[.slice A n c] w fun e w' => ∃ (A' : Option Addr) (c' : Nat), e = .returned (.slice A' n c') ∧ OwnA 42 w.heap.size w' A' n c' xs ∧ Below w.heap.size w w' := by
  have HL := Lib.hid h.1
  obtain ⟨i0, hi, hz0, hz1, hz2⟩ := info_parts info4
  go_enter Tryd.func26, Tryd.ntmps26
  go_wp2_with (at_make; refine wpList_make_full _ rfl _ _ 29 rfl w.heap.size 42 i0 _ 4 Tryd.underlying29 hi hz0 hz1 .i64 .i64 _ _ n rfl rfl rfl rfl (by rw [hz2]; omega) (by simp [maxLen]; omega) (Nat.le_refl _) ?_; intro w1 o1 g1)
  clear hi hz0 hz1 hz2
  have b1 : Below w.heap.size w w1 := Upd.ext ((Upd.refl _ _).grown g1 (by intro k hk; cases hk))
  rw [arcs_zero] at o1
  have o2 : OwnA 42 w.heap.size w1 (some ⟨w.heap.size, 0, none⟩) n n (List.replicate n default) := o1
  clear o1
  go_loopg [4] n (fun r i wr => ∃ k : Nat, r = n - k ∧ k ≤ n ∧ i = .int .i64 k ∧ OwnA 42 w.heap.size wr (some ⟨w.heap.size, 0, none⟩) n n (xs.take k ++ List.replicate (n - k) default) ∧ Below w.heap.size w wr)
  case atStart => exact ⟨0, by omega, by omega, rfl, by simpa using o2, b1⟩
  case round =>
    obtain ⟨k, hr, hk, rfl, hown, hb⟩ := hrel
    have HR := Lib.hid hr
    clear hr o2 b1
    by_cases hlt : k < n
    · obtain ⟨ad, rfl, had, c0, c1, c2, c3⟩ := (h.below hb).at_ hlt
      have HS := Lib.hid (take_rep_setG xs k n default default HL.out hlt)
      generalize xs.getD k default = x at *
      obtain ⟨f, t, r, q⟩ := x
      go_wp2_with fail
      refine (toArc_any _ _ _ _ _).mono ?_
      rintro e w1 ⟨rfl, hb1⟩
      have o1 := hown.below hb1
      have hb2 := below_ext hb hb.size hb1
      clear c0 c1 c2 c3 hown hb hb1 had
      obtain ⟨e0, e1, e2, e3⟩ := o1.cells hlt
      have g0 := OwnC.free o1 (k * 4)
      have g1 := OwnC.free o1 (k * 4 + 1)
      have g2 := OwnC.free o1 (k * 4 + 2)
      have g3 := OwnC.free o1 (k * 4 + 3)
      have o2 := o1.set4 hlt ⟨f, t, r, q⟩
      rw [HS.out] at o2
      generalize (List.take k xs ++ List.replicate (n - k) default).getD k default = y at *
      clear o1
      go_wp2_with fail
      go_roundg (n - (k + 1))
      case measure => rw [HR.out]; omega
      case rel => exact ⟨k + 1, rfl, by omega, by go_num, o2, (((hb2.setCell (p := ⟨w.heap.size, k * 4, none⟩) (Nat.le_refl _) _).setCell (p := ⟨w.heap.size, k * 4 + 1, none⟩) (Nat.le_refl _) _).setCell (p := ⟨w.heap.size, k * 4 + 2, none⟩) (Nat.le_refl _) _).setCell (p := ⟨w.heap.size, k * 4 + 3, none⟩) (Nat.le_refl _) _⟩
    · go_wp2_with fail
      go_ret
      have e : k = n := by omega
      subst e
      rw [List.take_of_length_le (by rw [HL.out]; exact Nat.le_refl _)] at hown
      exact ⟨_, _, rfl, by simpa using hown, hb⟩
end Go.Proofs.YtigaopfhjimpmaaDoor
