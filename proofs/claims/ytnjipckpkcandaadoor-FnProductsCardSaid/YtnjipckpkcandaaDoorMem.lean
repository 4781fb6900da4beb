/- Words for memory: slices of ints that are read, that the call owns, and worlds in which some blocks have turned. -/
import Derived.Test.YtnjipckpkcandaaDoorRows
import Derived.WalkKit
import Derived.WalkSpells
import Derived.WalkLawsBesides
import Derived.Outline
import Derived.Deep.QuietTactic
import Derived.BigQuiet
import Derived.Deep.Draws
import Derived.Deep.LoopGhost
import Derived.Deep.OwnRows
import Derived.Deep.DeepCutAuto
import Derived.Deep.DeepMust
import Derived.Below
import Derived.Laws.OwnMore
import Derived.Deep.AppendLies
import Derived.Lib.Hide
import Derived.PlainAid
namespace Go.Proofs.YtnjipckpkcandaaDoor
open Go.RowKit

/-- a number lies in bounds -/
def inB (n lo hi : Int) : Bool := decide (lo ≤ n) && decide (n ≤ hi)
theorem inB_iff {n lo hi : Int} : inB n lo hi = true ↔ lo ≤ n ∧ n ≤ hi := by simp [inB]
theorem inB_not {n lo hi : Int} : inB n lo hi = false ↔ n < lo ∨ hi < n := by
  unfold inB
  by_cases h1 : lo ≤ n <;> by_cases h2 : n ≤ hi <;> simp [h1, h2] <;> omega

theorem ret_int {k : IntKind} {a b : Int} (h : a = b) : Ending.returned (.int k a) = .returned (.int k b) := by rw [h]
theorem ret_bool {a b : Bool} (h : a = b) : Ending.returned (.bool a) = .returned (.bool b) := by rw [h]

/-- A list of ints is read through a slice with this address and length. -/
def IntsAt (w : World) (A : Option Addr) (n : Nat) (zs : List Int) : Prop :=
  zs.length = n ∧ (0 < n → ∃ ad : Addr, A = some ad ∧ ad.block < w.heap.size ∧ ∀ j, j < n → w.cell? (ad.add j) = some (.int .i64 (zs.getD j 0)))

/-- The call owns the slice: its cells lie in one of its own blocks from 'base' on, of element type T. -/
def OwnI (T base : Nat) (w : World) (A : Option Addr) (n c : Nat) (zs : List Int) : Prop :=
  w.ownsRow base T 1 (.slice A n c) n (zs.map (Value.int .i64))

/-- w' is w with new blocks, and with writes to blocks of S alone. -/
structure Upd (S : Nat → Prop) (w w' : World) : Prop where
  os : w'.os = w.os
  tape : w'.tape = w.tape
  output : w'.output = w.output
  size : w.heap.size ≤ w'.heap.size
  block : ∀ k, k < w.heap.size → ¬ S k → w'.heap[k]? = w.heap[k]?

section upd
variable {S S' : Nat → Prop} {a w w' w'' : World}
theorem Upd.refl (S : Nat → Prop) (w : World) : Upd S w w := ⟨rfl, rfl, rfl, Nat.le_refl _, fun _ _ _ => rfl⟩
theorem Upd.trans (h : Upd S w w') (k : Upd S w' w'') : Upd S w w'' :=
  ⟨k.os.trans h.os, k.tape.trans h.tape, k.output.trans h.output, Nat.le_trans h.size k.size, fun i hi hn => (k.block i (Nat.lt_of_lt_of_le hi h.size) hn).trans (h.block i hi hn)⟩
theorem Upd.mono (h : Upd S w w') (hS : ∀ k, k < w.heap.size → S k → S' k) : Upd S' w w' :=
  ⟨h.os, h.tape, h.output, h.size, fun i hi hn => h.block i hi fun hs => hn (hS i hi hs)⟩
theorem Upd.drew (h : Upd S a w) : Upd S a w.drew := ⟨h.os, h.tape, h.output, h.size, h.block⟩
theorem Upd.drewN (h : Upd S a w) (n : Nat) : Upd S a (w.drewN n) := ⟨h.os, h.tape, h.output, h.size, h.block⟩
theorem Upd.alloc (h : Upd S a w) (o : Obj) : Upd S a (w.alloc o) :=
  ⟨h.os, h.tape, h.output, Nat.le_trans h.size (by simp), fun i hi hne => (Below.heap_alloc w o i (Nat.lt_of_lt_of_le hi h.size)).trans (h.block i hi hne)⟩
theorem Upd.setCell (h : Upd S a w) {p : Addr} (hp : S p.block ∨ a.heap.size ≤ p.block) (u : Value) : Upd S a (w.setCell p u) :=
  ⟨h.os, h.tape, h.output, by simpa [World.setCell] using h.size, fun i hi hne => (Below.heap_setCell w p u i (by
    rintro rfl
    rcases hp with hp | hp
    · exact hne hp
    · omega)).trans (h.block i hi hne)⟩
theorem Upd.below (h : Upd S a w) (hb : Below w.heap.size w w') : Upd S a w' :=
  ⟨hb.os.trans h.os, hb.tape.trans h.tape, hb.output.trans h.output, Nat.le_trans h.size hb.size, fun i hi hn => (hb.block i (Nat.lt_of_lt_of_le hi h.size)).trans (h.block i hi hn)⟩
theorem Upd.then (h : Upd S a w) (k : Upd S' w w') (hS : ∀ b, b < a.heap.size → S' b → S b) : Upd S a w' :=
  ⟨k.os.trans h.os, k.tape.trans h.tape, k.output.trans h.output, Nat.le_trans h.size k.size, fun i hi hn => (k.block i (Nat.lt_of_lt_of_le hi h.size) (fun hs => hn (hS i hi hs))).trans (h.block i hi hn)⟩
theorem Upd.grown {row : Option Nat} (h : Upd S a w) (hg : w.grownBy w' row) (hr : ∀ k, row = some k → S k ∨ a.heap.size ≤ k) : Upd S a w' :=
  ⟨hg.os.trans h.os, hg.tape.trans h.tape, hg.output.trans h.output, Nat.le_trans h.size hg.size, fun i hi hn => (hg.block i (Nat.lt_of_lt_of_le hi h.size) (by
    intro e
    rcases hr i e.symm with h1 | h1
    · exact hn h1
    · omega)).trans (h.block i hi hn)⟩
theorem Upd.ofBelow (hb : Below w.heap.size w w') : Upd S w w' := (Upd.refl S w).below hb
theorem Upd.toBelow {B : Nat} (h : Upd S w w') (hB : B ≤ w.heap.size) (hS : ∀ k, k < B → ¬ S k) : Below B w w' :=
  ⟨h.os, h.tape, h.output, h.size, fun k hk => h.block k (Nat.lt_of_lt_of_le hk hB) (hS k hk)⟩
theorem Upd.ext (h : Upd (fun _ => False) w w') : Below w.heap.size w w' := h.toBelow (Nat.le_refl _) fun _ _ h => h
theorem ext_trans (h : Below w.heap.size w w') (k : Below w'.heap.size w' w'') : Below w.heap.size w w'' := h.trans (k.mono h.size)
theorem below_ext {B : Nat} (h : Below B a w) (hB : B ≤ w.heap.size) (k : Below w.heap.size w w') : Below B a w' := h.trans (k.mono hB)
theorem ext_drewN (h : Below a.heap.size a w) (n : Nat) : Below a.heap.size a (w.drewN n) := ⟨h.os, h.tape, h.output, h.size, h.block⟩
theorem below_drewN {B : Nat} (h : Below B a w) (n : Nat) : Below B a (w.drewN n) := ⟨h.os, h.tape, h.output, h.size, h.block⟩
end upd


/-- Block g is just these cells of element type t. -/
def Blk (w : World) (g : Nat) (t : TypeId) (cs : Array Value) : Prop := w.heap[g]? = some (.cells cs t (0, 0))
section blk
variable {w w' : World} {g : Nat} {t : TypeId} {cs : Array Value}
theorem Blk.lt (h : Blk w g t cs) : g < w.heap.size := lt_of_block h
theorem Blk.cell (h : Blk w g t cs) (i : Nat) : w.cell? ⟨g, i, none⟩ = cs[i]? := cell_of_row w g i cs t (0, 0) h
theorem Blk.free (h : Blk w g t cs) (i : Nat) : w.frozen? ⟨g, i, none⟩ = false := by
  unfold Blk at h
  simp [World.frozen?, h]
theorem Blk.new (w : World) (t : TypeId) (cs : Array Value) : Blk (w.alloc (.cells cs t)) w.heap.size t cs := heap_alloc_new w _
theorem Blk.drew (h : Blk w g t cs) : Blk w.drew g t cs := h
theorem Blk.drewN (h : Blk w g t cs) (n : Nat) : Blk (w.drewN n) g t cs := h
theorem Blk.alloc (h : Blk w g t cs) (o : Obj) : Blk (w.alloc o) g t cs := (Below.heap_alloc w o g h.lt).trans h
theorem Blk.set (h : Blk w g t cs) (i : Nat) (u : Value) : Blk (w.setCell ⟨g, i, none⟩ u) g t (cs.setIfInBounds i u) := by
  unfold Blk at h ⊢
  simp [World.setCell, Array.getElem?_modify, h]
theorem Blk.far (h : Blk w g t cs) {p : Addr} (hp : g ≠ p.block) (u : Value) : Blk (w.setCell p u) g t cs := (Below.heap_setCell w p u g hp).trans h
theorem Blk.below {B : Nat} (h : Blk w g t cs) (hb : Below B w w') (hg : g < B) : Blk w' g t cs := (hb.block g hg).trans h
theorem Blk.ext (h : Blk w g t cs) (hb : Below w.heap.size w w') : Blk w' g t cs := h.below hb h.lt
theorem Blk.upd {S : Nat → Prop} (h : Blk w g t cs) (hb : Upd S w w') (hg : ¬ S g) : Blk w' g t cs := (hb.block g h.lt hg).trans h
end blk

/-- The call owns the slice, its elements of 'size' cells each, the cells written out. -/
def OwnC (T base size : Nat) (w : World) (A : Option Addr) (n c : Nat) (vs : List Value) : Prop := w.ownsRow base T size (.slice A n c) n vs
section cells
variable {w w' : World} {A : Option Addr} {n c : Nat} {vs : List Value} {S : Nat → Prop} {T base size : Nat}
theorem OwnC.len (h : OwnC T base size w A n c vs) : vs.length = n * size := h.1
theorem OwnC.nil_ (T base size : Nat) (w : World) : OwnC T base size w none 0 0 [] := World.ownsRow_nil w base T size
theorem OwnC.form (h : OwnC T base size w A n c vs) : (A = none ∧ n = 0 ∧ c = 0) ∨ ∃ g, A = some ⟨g, 0, none⟩ ∧ base ≤ g ∧ g < w.heap.size ∧ n ≤ c ∧ c ≤ maxLen := by
  rcases h.2 with ⟨h1, h2⟩ | ⟨g, cap, cur, h1, h2, h3, h4, h5, _⟩
  · injection h1 with e1 e2 e3
    exact .inl ⟨e1, e2, e3⟩
  · injection h1 with e1 e2 e3
    subst e3
    exact .inr ⟨g, e1, h2, lt_of_block h3, h4, h5⟩
theorem OwnC.le (h : OwnC T base size w A n c vs) : n ≤ maxLen := by
  rcases h.form with ⟨_, h2, _⟩ | ⟨_, _, _, _, h1, h2⟩
  · subst h2; exact Nat.zero_le _
  · exact Nat.le_trans h1 h2
theorem OwnC.pos (h : OwnC T base size w A n c vs) (hn : 0 < n) : ∃ g, A = some ⟨g, 0, none⟩ ∧ base ≤ g ∧ g < w.heap.size ∧ n ≤ c ∧ c ≤ maxLen := by
  rcases h.form with ⟨_, h2, _⟩ | h1
  · omega
  · exact h1
theorem OwnC.lt {ad : Addr} (h : OwnC T base size w A n c vs) (hA : A = some ad) : base ≤ ad.block ∧ ad.block < w.heap.size := by
  rcases h.form with ⟨h1, _⟩ | ⟨g, h1, h2, h3, _⟩
  · rw [h1] at hA; cases hA
  · rw [h1] at hA; injection hA with hA; subst hA; exact ⟨h2, h3⟩
theorem OwnC.cell {g : Nat} (h : OwnC T base size w (some ⟨g, 0, none⟩) n c vs) {j : Nat} (hj : j < n * size) : w.cell? ⟨g, j, none⟩ = vs[j]? := World.ownsRow.cellAt h j hj
theorem OwnC.free {g : Nat} (h : OwnC T base size w (some ⟨g, 0, none⟩) n c vs) (j : Nat) : w.frozen? ⟨g, j, none⟩ = false := World.ownsRow.frozenAt h j
theorem OwnC.keep (h : OwnC T base size w A n c vs) (hk : ∀ ad, A = some ad → ad.block < w.heap.size → w'.heap[ad.block]? = w.heap[ad.block]?) : OwnC T base size w' A n c vs := by
  refine ⟨h.1, ?_⟩
  rcases h.2 with h2 | ⟨g, cap, cur, h1, h2, h3, h4⟩
  · exact .inl h2
  · refine .inr ⟨g, cap, cur, h1, h2, ?_, h4⟩
    injection h1 with e1
    exact (hk _ e1 (lt_of_block h3)).trans h3
theorem OwnC.below (h : OwnC T base size w A n c vs) (hb : Below w.heap.size w w') : OwnC T base size w' A n c vs := h.keep fun ad _ h2 => hb.block _ h2
theorem OwnC.upd (h : OwnC T base size w A n c vs) (hb : Upd S w w') (hS : ∀ ad, A = some ad → ¬ S ad.block) : OwnC T base size w' A n c vs := h.keep fun ad h1 h2 => hb.block _ h2 (hS ad h1)
theorem OwnC.alloc (h : OwnC T base size w A n c vs) (o : Obj) : OwnC T base size (w.alloc o) A n c vs := World.ownsRow.alloc h o
theorem OwnC.drew (h : OwnC T base size w A n c vs) : OwnC T base size w.drew A n c vs := h
theorem OwnC.drewN (h : OwnC T base size w A n c vs) (m : Nat) : OwnC T base size (w.drewN m) A n c vs := h
theorem OwnC.low {base' : Nat} (h : OwnC T base size w A n c vs) (hb : base' ≤ base) : OwnC T base' size w A n c vs := by
  refine ⟨h.1, ?_⟩
  rcases h.2 with h2 | ⟨g, cap, cur, h1, h2, h3⟩
  · exact .inl h2
  · exact .inr ⟨g, cap, cur, h1, by omega, h3⟩
theorem OwnC.set {g : Nat} (h : OwnC T base size w (some ⟨g, 0, none⟩) n c vs) (j : Nat) (u : Value) : OwnC T base size (w.setCell ⟨g, j, none⟩ u) (some ⟨g, 0, none⟩) n c (vs.set j u) := (World.ownsRow.stored h j u).1
theorem OwnC.far (h : OwnC T base size w A n c vs) {p : Addr} (hp : ∀ ad, A = some ad → ad.block ≠ p.block) (u : Value) : OwnC T base size (w.setCell p u) A n c vs :=
  h.keep fun ad h1 _ => Below.heap_setCell w p u _ (hp ad h1)
end cells

section ints
variable {w w' : World} {A : Option Addr} {n c : Nat} {zs : List Int} {S : Nat → Prop} {T base : Nat}
theorem IntsAt.len (h : IntsAt w A n zs) : zs.length = n := h.1
theorem IntsAt.at_ (h : IntsAt w A n zs) {k : Nat} (hk : k < n) :
    ∃ ad, A = some ad ∧ ad.block < w.heap.size ∧ w.cell? (ad.add k) = some (.int .i64 (zs.getD k 0)) := by
  obtain ⟨ad, h1, h2, h3⟩ := h.2 (by omega)
  exact ⟨ad, h1, h2, h3 k hk⟩
theorem IntsAt.nil_ : IntsAt w none 0 [] := ⟨rfl, fun h => absurd h (by omega)⟩
theorem block_add (a : Addr) (n : Nat) : (a.add n).block = a.block := by unfold Addr.add; split <;> rfl
theorem add_add' (a : Addr) (i j : Nat) : (a.add i).add j = a.add (i + j) := by
  unfold Addr.add
  by_cases hi : i = 0 <;> by_cases hj : j = 0 <;> simp [hi, hj, Nat.add_assoc]
theorem IntsAt.keep (h : IntsAt w A n zs) (hs : w.heap.size ≤ w'.heap.size) (hk : ∀ ad, A = some ad → ad.block < w.heap.size → w'.heap[ad.block]? = w.heap[ad.block]?) : IntsAt w' A n zs := by
  refine ⟨h.1, fun hn => ?_⟩
  obtain ⟨ad, h1, h2, h3⟩ := h.2 hn
  refine ⟨ad, h1, by omega, fun j hj => ?_⟩
  rw [← h3 j hj]
  exact World.cell?_of_block (by rw [block_add]; exact hk ad h1 h2)
theorem IntsAt.below (h : IntsAt w A n zs) (hb : Below w.heap.size w w') : IntsAt w' A n zs := h.keep hb.size fun ad _ h2 => hb.block _ h2
theorem IntsAt.upd (h : IntsAt w A n zs) (hb : Upd S w w') (hS : ∀ ad, A = some ad → ¬ S ad.block) : IntsAt w' A n zs := h.keep hb.size fun ad h1 h2 => hb.block _ h2 (hS ad h1)
theorem IntsAt.alloc (h : IntsAt w A n zs) (o : Obj) : IntsAt (w.alloc o) A n zs := h.keep (by simp) fun ad _ h2 => Below.heap_alloc w o _ h2
theorem IntsAt.drew (h : IntsAt w A n zs) : IntsAt w.drew A n zs := h
theorem IntsAt.drewN (h : IntsAt w A n zs) (m : Nat) : IntsAt (w.drewN m) A n zs := h

theorem OwnI.len (h : OwnI T base w A n c zs) : zs.length = n := by simpa using h.1
theorem OwnI.nil_ (T base : Nat) (w : World) : OwnI T base w none 0 0 [] := World.ownsRow_nil w base T 1
theorem OwnI.form (h : OwnI T base w A n c zs) : (A = none ∧ n = 0 ∧ c = 0 ∧ zs = []) ∨ ∃ g, A = some ⟨g, 0, none⟩ ∧ base ≤ g ∧ g < w.heap.size ∧ n ≤ c ∧ c ≤ maxLen := by
  have hl := h.len
  rcases h.2 with ⟨h1, h2⟩ | ⟨g, cap, cur, h1, h2, h3, h4, h5, _⟩
  · injection h1 with e1 e2 e3
    exact .inl ⟨e1, e2, e3, List.eq_nil_of_length_eq_zero (by omega)⟩
  · injection h1 with e1 e2 e3
    subst e3
    exact .inr ⟨g, e1, h2, lt_of_block h3, h4, h5⟩
theorem OwnI.le (h : OwnI T base w A n c zs) : n ≤ maxLen := by
  rcases h.form with ⟨_, h2, _⟩ | ⟨_, _, _, _, h1, h2⟩
  · subst h2; exact Nat.zero_le _
  · exact Nat.le_trans h1 h2
theorem OwnI.pos (h : OwnI T base w A n c zs) (hn : 0 < n) : ∃ g, A = some ⟨g, 0, none⟩ ∧ base ≤ g ∧ g < w.heap.size ∧ n ≤ c ∧ c ≤ maxLen := by
  rcases h.form with ⟨_, h2, _⟩ | h1
  · omega
  · exact h1
theorem OwnI.lt {ad : Addr} (h : OwnI T base w A n c zs) (hA : A = some ad) : base ≤ ad.block ∧ ad.block < w.heap.size := by
  rcases h.form with ⟨h1, _⟩ | ⟨g, h1, h2, h3, _⟩
  · rw [h1] at hA; cases hA
  · rw [h1] at hA; injection hA with hA; subst hA; exact ⟨h2, h3⟩
theorem OwnI.ints (h : OwnI T base w A n c zs) : IntsAt w A n zs := by
  refine ⟨h.len, fun hn => ?_⟩
  obtain ⟨g, hA, _, hlt, _⟩ := h.pos hn
  subst hA
  refine ⟨_, rfl, hlt, fun j hj => ?_⟩
  have hl := h.len
  exact World.ownsRow.cells h (g := g) rfl j _ (by rw [List.getElem?_map, List.getElem?_eq_getElem (by omega)]; simp [List.getD, List.getElem?_eq_getElem (show j < zs.length by omega)])
theorem OwnI.cell {g : Nat} (h : OwnI T base w (some ⟨g, 0, none⟩) n c zs) {j : Nat} (hj : j < n) : w.cell? ⟨g, j, none⟩ = some (.int .i64 (zs.getD j 0)) := by
  have hl := h.len
  rw [World.ownsRow.cellAt h j (by omega), List.getElem?_map, List.getElem?_eq_getElem (by omega)]
  simp [List.getD, List.getElem?_eq_getElem (show j < zs.length by omega)]
theorem OwnI.free {g : Nat} (h : OwnI T base w (some ⟨g, 0, none⟩) n c zs) (j : Nat) : w.frozen? ⟨g, j, none⟩ = false := World.ownsRow.frozenAt h j
theorem OwnI.keep (h : OwnI T base w A n c zs) (hk : ∀ ad, A = some ad → ad.block < w.heap.size → w'.heap[ad.block]? = w.heap[ad.block]?) : OwnI T base w' A n c zs := by
  refine ⟨h.1, ?_⟩
  rcases h.2 with h2 | ⟨g, cap, cur, h1, h2, h3, h4⟩
  · exact .inl h2
  · refine .inr ⟨g, cap, cur, h1, h2, ?_, h4⟩
    injection h1 with e1
    exact (hk _ e1 (lt_of_block h3)).trans h3
theorem OwnI.below (h : OwnI T base w A n c zs) (hb : Below w.heap.size w w') : OwnI T base w' A n c zs := h.keep fun ad _ h2 => hb.block _ h2
theorem OwnI.upd (h : OwnI T base w A n c zs) (hb : Upd S w w') (hS : ∀ ad, A = some ad → ¬ S ad.block) : OwnI T base w' A n c zs := h.keep fun ad h1 h2 => hb.block _ h2 (hS ad h1)
theorem OwnI.alloc (h : OwnI T base w A n c zs) (o : Obj) : OwnI T base (w.alloc o) A n c zs := World.ownsRow.alloc h o
theorem OwnI.drew (h : OwnI T base w A n c zs) : OwnI T base w.drew A n c zs := h
theorem OwnI.drewN (h : OwnI T base w A n c zs) (m : Nat) : OwnI T base (w.drewN m) A n c zs := h
theorem OwnI.low {base' : Nat} (h : OwnI T base w A n c zs) (hb : base' ≤ base) : OwnI T base' w A n c zs := by
  refine ⟨h.1, ?_⟩
  rcases h.2 with h2 | ⟨g, cap, cur, h1, h2, h3⟩
  · exact .inl h2
  · exact .inr ⟨g, cap, cur, h1, by omega, h3⟩
theorem OwnI.rebase {base' : Nat} (h : OwnI T base w A n c zs) (hb : ∀ ad, A = some ad → base' ≤ ad.block) : OwnI T base' w A n c zs := by
  refine ⟨h.1, ?_⟩
  rcases h.2 with h2 | ⟨g, cap, cur, h1, h2, h3⟩
  · exact .inl h2
  · injection h1 with e1 e2 e3
    subst e3
    exact .inr ⟨g, _, cur, by rw [e1], hb _ e1, h3⟩
theorem OwnI.set {g : Nat} (h : OwnI T base w (some ⟨g, 0, none⟩) n c zs) (j : Nat) (u : Int) : OwnI T base (w.setCell ⟨g, j, none⟩ (.int .i64 u)) (some ⟨g, 0, none⟩) n c (zs.set j u) := by
  have := (World.ownsRow.stored h j (.int .i64 u)).1
  unfold OwnI
  rw [List.map_set]
  exact this
theorem OwnI.far (h : OwnI T base w A n c zs) {p : Addr} (hp : ∀ ad, A = some ad → ad.block ≠ p.block) (u : Value) : OwnI T base (w.setCell p u) A n c zs :=
  h.keep fun ad h1 _ => Below.heap_setCell w p u _ (hp ad h1)
theorem IntsAt.far (h : IntsAt w A n zs) {p : Addr} (hp : ∀ ad, A = some ad → ad.block ≠ p.block) (u : Value) : IntsAt (w.setCell p u) A n zs :=
  h.keep (by simp) fun ad h1 _ => Below.heap_setCell w p u _ (hp ad h1)
theorem OwnI.made (T base : Nat) (w : World) (n : Nat) (hb : base ≤ w.heap.size) (hn : n ≤ maxLen) :
    OwnI T base (w.alloc (.cells (madeCells #[.int .i64 0] n) T)) (some ⟨w.heap.size, 0, none⟩) n n (List.replicate n 0) := by
  have := World.ownsRow_lit (e := T) (base := base) (size := 1) w (madeCells #[.int .i64 0] n) n hb hn (by simp [size_madeCells])
  rw [toList_madeCells_one] at this
  unfold OwnI
  simpa using this
/-- two slices share no block -/
def Sep (A B : Option Addr) : Prop := ∀ a b : Addr, A = some a → B = some b → a.block ≠ b.block
theorem Sep.symm {A B : Option Addr} (h : Sep A B) : Sep B A := fun a b ha hb e => h b a hb ha e.symm
theorem sep_new {B : Option Addr} {T' b0 m d : Nat} {ys : List Int} (h1 : OwnI T b0 w A n c zs) (h2 : OwnI T' w.heap.size w' B m d ys) : Sep A B := by
  intro a b ha hb
  have := (h1.lt ha).2
  have := (h2.lt hb).1
  omega
/-- the block of a slice -/
def blk (A : Option Addr) (k : Nat) : Prop := ∃ ad, A = some ad ∧ ad.block = k
theorem OwnC.sep {vs : List Value} {size : Nat} {B : Option Addr} (h : OwnC T base size w A n c vs) (hu : Upd (blk B) w w') (hs : Sep A B) : OwnC T base size w' A n c vs :=
  h.upd hu fun ad ha hb => by
    obtain ⟨bd, hb1, hb2⟩ := hb
    exact hs ad bd ha hb1 hb2.symm
theorem sep_of {B : Option Addr} {b : Nat} (h1 : ∀ ad, A = some ad → ad.block < b) (h2 : ∀ ad, B = some ad → b ≤ ad.block) : Sep A B := by
  intro x y hx hy
  have := h1 x hx
  have := h2 y hy
  omega
theorem below_of_blk {B : Nat} {ad : Option Addr} {a : World} (hb : Below B a w) (hB : B ≤ w.heap.size) (hu : Upd (blk ad) w w') (ho : ∀ x, ad = some x → B ≤ x.block) : Below B a w' :=
  hb.trans (hu.toBelow hB fun k hk ⟨x, h1, h2⟩ => by have := ho x h1; omega)
theorem OwnI.sep {B : Option Addr} (h : OwnI T base w A n c zs) (hu : Upd (blk B) w w') (hs : Sep A B) : OwnI T base w' A n c zs :=
  h.upd hu fun ad ha hb => by
    obtain ⟨bd, hb1, hb2⟩ := hb
    exact hs ad bd ha hb1 hb2.symm
theorem below_blk {B : Nat} {ad : Option Addr} {a : World} (hb : Below B a w) (hB : B ≤ w.heap.size) (hu : Upd (blk ad) w w') (ho : OwnI T base w ad n c zs) (hbase : B ≤ base) : Below B a w' :=
  hb.trans (hu.toBelow hB fun k hk ⟨x, h1, h2⟩ => by have := (ho.lt h1).1; omega)
end ints

/-- the world after some draws -/
def Drew (w w' : World) : Prop := ∃ q, w' = w.drewN q
theorem Drew.refl (w : World) : Drew w w := ⟨0, rfl⟩
theorem Drew.step {w w' : World} (h : Drew w w') (n : Nat) : Drew w (w'.drewN n) := by
  obtain ⟨q, rfl⟩ := h
  exact ⟨_, World.drewN_drewN _ _ _⟩
theorem Drew.trans {w w' w'' : World} (h : Drew w w') (k : Drew w' w'') : Drew w w'' := by
  obtain ⟨q, rfl⟩ := k
  exact h.step q
theorem Drew.below {w w' : World} (h : Drew w w') : Below w.heap.size w w' := by
  obtain ⟨q, rfl⟩ := h
  exact ext_drewN (Below.refl _ _) q
theorem IntsAt.drewTo {w w' : World} {A : Option Addr} {n : Nat} {zs : List Int} (h : IntsAt w A n zs) (hd : Drew w w') : IntsAt w' A n zs := by
  obtain ⟨q, rfl⟩ := hd
  exact h
theorem IntsAt.undrew {w w' : World} {A : Option Addr} {n : Nat} {zs : List Int} (h : IntsAt w' A n zs) (hd : Drew w w') : IntsAt w A n zs := by
  obtain ⟨q, rfl⟩ := hd
  exact h
theorem quiet_here {P : Program} {f : FuncId} {args : Array Value} {w : World} {n : Nat} {v : Value}
    (h : Calls P f args (w.drewN n) fun e w' => e = .returned v ∧ w.drewN n = w') : Calls P f args (w.drewN n) fun e w'' => e = .returned v ∧ ∃ m, w'' = w.drewN m :=
  h.mono fun _ _ ⟨he, hm⟩ => ⟨he, n, hm.symm⟩
theorem quiet_drew {P : Program} {f : FuncId} {args : Array Value} {w : World} {n : Nat} {v : Value}
    (h : Calls P f args (w.drewN n) fun e w' => e = .returned v ∧ Drew (w.drewN n) w') : Calls P f args (w.drewN n) fun e w'' => e = .returned v ∧ ∃ m, w'' = w.drewN m :=
  h.mono fun _ _ ⟨he, m, hm⟩ => ⟨he, n + m, by rw [hm, World.drewN_drewN]⟩

/-- numbers that rise by one -/
def seqI (k : Int) (n : Nat) : List Int := (List.range n).map fun (i : Nat) => k + i
theorem seqI_len (k : Int) (n : Nat) : (seqI k n).length = n := by simp [seqI]
theorem seqI_get (k : Int) (n j : Nat) (h : j < n) : (seqI k n).getD j 0 = k + j := by simp [seqI, List.getD, h]

/-- 'make([]T, n)' where T's zero is the int 0: the new slice is owned. -/
theorem wp_make_ints {P : Program} (w : World) {ops : Array Oper} {rest : List Oper} {o : Oper} {a : Act} {Q : Exit → Act → World → Prop}
    (hg : o.guard = none) (l c : Operand) (t : TypeId) (hop : o.op = Op.makeSlice t l c)
    (T : TypeId) (h1 : P.underlying t = some (.slice T)) (hinfo : (P.info? T).map (fun i => (i.zero, i.size, i.bytes)) = some (some (.int .i64 0), 1, 8))
    (kl kc : IntKind) (L C : Int) (n : Nat) (hl : a.eval l = .int kl L) (hc : a.eval c = .int kc C) (hL : L = (n : Int)) (hC : C = (n : Int)) (hn : n ≤ 17592186044416)
    (hK : ∀ (w' : World) (g : Nat), OwnI T w.heap.size w' (some ⟨g, 0, none⟩) n n (List.replicate n 0) → Below w.heap.size w w' → wpList P ops Q rest (a.put o.dst (.slice (some ⟨g, 0, none⟩) n n)) w') :
    wpList P ops Q (o :: rest) a w := by
  obtain ⟨i0, hi, hz0, hz1, hz2⟩ := info_parts hinfo
  refine wpList_make_full w hg l c t hop w.heap.size T i0 _ 1 h1 hi hz0 hz1 kl kc L C n hl hc hL hC (by rw [hz2]; omega) (by simp [maxLen]; omega) (Nat.le_refl _) ?_
  intro w' h2 h3
  refine hK w' w.heap.size ?_ (Upd.ext ((Upd.refl _ _).grown h3 (by intro k hk; cases hk)))
  unfold OwnI
  have e : (madeCells (Value.int .i64 0).cells (n * 1)).toList = (List.replicate n (0 : Int)).map (Value.int .i64) := by
    show (madeCells #[.int .i64 0] (n * 1)).toList = _
    rw [toList_madeCells_one]; simp
  rw [← e]
  exact h2

/-! plain lists -/
theorem all_take_succ {α} (p : α → Bool) (zs : List α) (k : Nat) (d : α) (hk : k < zs.length) : (zs.take (k+1)).all p = ((zs.take k).all p && p (zs.getD k d)) := by
  rw [List.take_succ_eq_append_getElem hk, List.all_append]; simp [hk]
theorem all_false_of {α} (p : α → Bool) (zs : List α) (k : Nat) (d : α) (hk : k < zs.length) (h : p (zs.getD k d) = false) : zs.all p = false := by
  rw [List.all_eq_false]
  exact ⟨zs[k], List.getElem_mem hk, by simpa [hk] using h⟩
theorem take_rep_set (zs : List Int) (k n : Nat) (x : Int) (hn : zs.length = n) (hk : k < n) :
    (zs.take k ++ List.replicate (n - k) x).set k (zs.getD k 0) = zs.take (k + 1) ++ List.replicate (n - (k + 1)) x := by
  apply List.ext_getElem?
  intro j
  have hl : (zs.take k).length = k := by simp; omega
  rw [List.getElem?_set]
  simp only [List.length_append, List.length_replicate, hl]
  by_cases h1 : k = j
  · subst h1
    rw [if_pos rfl, if_pos (by omega), List.getElem?_append_left (by simp; omega), List.getElem?_take, if_pos (by omega)]
    simp [List.getD, List.getElem?_eq_getElem (show k < zs.length by omega)]
  · rw [if_neg h1]
    by_cases h2 : j < k
    · rw [List.getElem?_append_left (by omega), List.getElem?_append_left (by simp; omega)]
      simp [List.getElem?_take, h2, Nat.lt_succ_of_lt h2]
    · rw [List.getElem?_append_right (by omega), List.getElem?_append_right (by simp; omega)]
      have hl' : (zs.take (k+1)).length = k + 1 := by simp; omega
      rw [hl, hl', List.getElem?_replicate, List.getElem?_replicate]
      by_cases h3 : j < n
      · rw [if_pos (by omega), if_pos (by omega)]
      · rw [if_neg (by omega), if_neg (by omega)]
end Go.Proofs.YtnjipckpkcandaaDoor
