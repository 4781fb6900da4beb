/- Joined texts: Mem, Mix, DetP, Open, MakeV. -/
import Derived.Test.YtigaopfhjimpmaaDoorRows
import Derived.WalkKit
import Derived.WalkSpells
import Derived.WalkLawsBesides
import Derived.Outline
import Derived.Deep.QuietTactic
import Derived.BigQuiet
import Derived.Deep.Draws
import Derived.Deep.LoopGhost
import Derived.Deep.OwnRows
import Derived.Deep.DeepCutAuto
import Derived.Deep.DeepMust
import Derived.Below
import Derived.Laws.OwnMore
import Derived.Deep.AppendLies
import Derived.Lib.Hide
import Derived.PlainAid
import Derived.ProofKit
import Derived.OpenShut
import Derived.ShutString
import Derived.ChangeOld
namespace Go.Proofs.YtigaopfhjimpmaaDoor
open Go.RowKit

/-- a number lies in bounds -/
def inB (n lo hi : Int) : Bool := decide (lo ≤ n) && decide (n ≤ hi)
theorem inB_iff {n lo hi : Int} : inB n lo hi = true ↔ lo ≤ n ∧ n ≤ hi := by simp [inB]
theorem inB_not {n lo hi : Int} : inB n lo hi = false ↔ n < lo ∨ hi < n := by
  unfold inB
  by_cases h1 : lo ≤ n <;> by_cases h2 : n ≤ hi <;> simp [h1, h2] <;> omega

theorem ret_int {k : IntKind} {a b : Int} (h : a = b) : Ending.returned (.int k a) = .returned (.int k b) := by rw [h]
theorem ret_bool {a b : Bool} (h : a = b) : Ending.returned (.bool a) = .returned (.bool b) := by rw [h]

/-- A list of ints is read through a slice with this address and length. -/
def IntsAt (w : World) (A : Option Addr) (n : Nat) (zs : List Int) : Prop :=
  zs.length = n ∧ (0 < n → ∃ ad : Addr, A = some ad ∧ ad.block < w.heap.size ∧ ∀ j, j < n → w.cell? (ad.add j) = some (.int .i64 (zs.getD j 0)))

/-- The call owns the slice: its cells lie in one of its own blocks from 'base' on, of element type T. -/
def OwnI (T base : Nat) (w : World) (A : Option Addr) (n c : Nat) (zs : List Int) : Prop :=
  w.ownsRow base T 1 (.slice A n c) n (zs.map (Value.int .i64))

/-- w' is w with new blocks, and with writes to blocks of S alone. -/
structure Upd (S : Nat → Prop) (w w' : World) : Prop where
  os : w'.os = w.os
  tape : w'.tape = w.tape
  output : w'.output = w.output
  size : w.heap.size ≤ w'.heap.size
  block : ∀ k, k < w.heap.size → ¬ S k → w'.heap[k]? = w.heap[k]?

section upd
variable {S S' : Nat → Prop} {a w w' w'' : World}
theorem Upd.refl (S : Nat → Prop) (w : World) : Upd S w w := ⟨rfl, rfl, rfl, Nat.le_refl _, fun _ _ _ => rfl⟩
theorem Upd.trans (h : Upd S w w') (k : Upd S w' w'') : Upd S w w'' :=
  ⟨k.os.trans h.os, k.tape.trans h.tape, k.output.trans h.output, Nat.le_trans h.size k.size, fun i hi hn => (k.block i (Nat.lt_of_lt_of_le hi h.size) hn).trans (h.block i hi hn)⟩
theorem Upd.mono (h : Upd S w w') (hS : ∀ k, k < w.heap.size → S k → S' k) : Upd S' w w' :=
  ⟨h.os, h.tape, h.output, h.size, fun i hi hn => h.block i hi fun hs => hn (hS i hi hs)⟩
theorem Upd.drew (h : Upd S a w) : Upd S a w.drew := ⟨h.os, h.tape, h.output, h.size, h.block⟩
theorem Upd.drewN (h : Upd S a w) (n : Nat) : Upd S a (w.drewN n) := ⟨h.os, h.tape, h.output, h.size, h.block⟩
theorem Upd.alloc (h : Upd S a w) (o : Obj) : Upd S a (w.alloc o) :=
  ⟨h.os, h.tape, h.output, Nat.le_trans h.size (by simp), fun i hi hne => (Below.heap_alloc w o i (Nat.lt_of_lt_of_le hi h.size)).trans (h.block i hi hne)⟩
theorem Upd.setCell (h : Upd S a w) {p : Addr} (hp : S p.block ∨ a.heap.size ≤ p.block) (u : Value) : Upd S a (w.setCell p u) :=
  ⟨h.os, h.tape, h.output, by simpa [World.setCell] using h.size, fun i hi hne => (Below.heap_setCell w p u i (by
    rintro rfl
    rcases hp with hp | hp
    · exact hne hp
    · omega)).trans (h.block i hi hne)⟩
theorem Upd.below (h : Upd S a w) (hb : Below w.heap.size w w') : Upd S a w' :=
  ⟨hb.os.trans h.os, hb.tape.trans h.tape, hb.output.trans h.output, Nat.le_trans h.size hb.size, fun i hi hn => (hb.block i (Nat.lt_of_lt_of_le hi h.size)).trans (h.block i hi hn)⟩
theorem Upd.then (h : Upd S a w) (k : Upd S' w w') (hS : ∀ b, b < a.heap.size → S' b → S b) : Upd S a w' :=
  ⟨k.os.trans h.os, k.tape.trans h.tape, k.output.trans h.output, Nat.le_trans h.size k.size, fun i hi hn => (k.block i (Nat.lt_of_lt_of_le hi h.size) (fun hs => hn (hS i hi hs))).trans (h.block i hi hn)⟩
theorem Upd.grown {row : Option Nat} (h : Upd S a w) (hg : w.grownBy w' row) (hr : ∀ k, row = some k → S k ∨ a.heap.size ≤ k) : Upd S a w' :=
  ⟨hg.os.trans h.os, hg.tape.trans h.tape, hg.output.trans h.output, Nat.le_trans h.size hg.size, fun i hi hn => (hg.block i (Nat.lt_of_lt_of_le hi h.size) (by
    intro e
    rcases hr i e.symm with h1 | h1
    · exact hn h1
    · omega)).trans (h.block i hi hn)⟩
theorem Upd.ofBelow (hb : Below w.heap.size w w') : Upd S w w' := (Upd.refl S w).below hb
theorem Upd.toBelow {B : Nat} (h : Upd S w w') (hB : B ≤ w.heap.size) (hS : ∀ k, k < B → ¬ S k) : Below B w w' :=
  ⟨h.os, h.tape, h.output, h.size, fun k hk => h.block k (Nat.lt_of_lt_of_le hk hB) (hS k hk)⟩
theorem Upd.ext (h : Upd (fun _ => False) w w') : Below w.heap.size w w' := h.toBelow (Nat.le_refl _) fun _ _ h => h
theorem ext_trans (h : Below w.heap.size w w') (k : Below w'.heap.size w' w'') : Below w.heap.size w w'' := h.trans (k.mono h.size)
theorem below_ext {B : Nat} (h : Below B a w) (hB : B ≤ w.heap.size) (k : Below w.heap.size w w') : Below B a w' := h.trans (k.mono hB)
theorem ext_drewN (h : Below a.heap.size a w) (n : Nat) : Below a.heap.size a (w.drewN n) := ⟨h.os, h.tape, h.output, h.size, h.block⟩
theorem below_drewN {B : Nat} (h : Below B a w) (n : Nat) : Below B a (w.drewN n) := ⟨h.os, h.tape, h.output, h.size, h.block⟩
end upd


/-- Block g is just these cells of element type t. -/
def Blk (w : World) (g : Nat) (t : TypeId) (cs : Array Value) : Prop := w.heap[g]? = some (.cells cs t (0, 0))
section blk
variable {w w' : World} {g : Nat} {t : TypeId} {cs : Array Value}
theorem Blk.lt (h : Blk w g t cs) : g < w.heap.size := lt_of_block h
theorem Blk.cell (h : Blk w g t cs) (i : Nat) : w.cell? ⟨g, i, none⟩ = cs[i]? := cell_of_row w g i cs t (0, 0) h
theorem Blk.free (h : Blk w g t cs) (i : Nat) : w.frozen? ⟨g, i, none⟩ = false := by
  unfold Blk at h
  simp [World.frozen?, h]
theorem Blk.new (w : World) (t : TypeId) (cs : Array Value) : Blk (w.alloc (.cells cs t)) w.heap.size t cs := heap_alloc_new w _
theorem Blk.drew (h : Blk w g t cs) : Blk w.drew g t cs := h
theorem Blk.drewN (h : Blk w g t cs) (n : Nat) : Blk (w.drewN n) g t cs := h
theorem Blk.alloc (h : Blk w g t cs) (o : Obj) : Blk (w.alloc o) g t cs := (Below.heap_alloc w o g h.lt).trans h
theorem Blk.set (h : Blk w g t cs) (i : Nat) (u : Value) : Blk (w.setCell ⟨g, i, none⟩ u) g t (cs.setIfInBounds i u) := by
  unfold Blk at h ⊢
  simp [World.setCell, Array.getElem?_modify, h]
theorem Blk.far (h : Blk w g t cs) {p : Addr} (hp : g ≠ p.block) (u : Value) : Blk (w.setCell p u) g t cs := (Below.heap_setCell w p u g hp).trans h
theorem Blk.below {B : Nat} (h : Blk w g t cs) (hb : Below B w w') (hg : g < B) : Blk w' g t cs := (hb.block g hg).trans h
theorem Blk.ext (h : Blk w g t cs) (hb : Below w.heap.size w w') : Blk w' g t cs := h.below hb h.lt
theorem Blk.upd {S : Nat → Prop} (h : Blk w g t cs) (hb : Upd S w w') (hg : ¬ S g) : Blk w' g t cs := (hb.block g h.lt hg).trans h
end blk

/-- The call owns the slice, its elements of 'size' cells each, the cells written out. -/
def OwnC (T base size : Nat) (w : World) (A : Option Addr) (n c : Nat) (vs : List Value) : Prop := w.ownsRow base T size (.slice A n c) n vs
section cells
variable {w w' : World} {A : Option Addr} {n c : Nat} {vs : List Value} {S : Nat → Prop} {T base size : Nat}
theorem OwnC.len (h : OwnC T base size w A n c vs) : vs.length = n * size := h.1
theorem OwnC.nil_ (T base size : Nat) (w : World) : OwnC T base size w none 0 0 [] := World.ownsRow_nil w base T size
theorem OwnC.form (h : OwnC T base size w A n c vs) : (A = none ∧ n = 0 ∧ c = 0) ∨ ∃ g, A = some ⟨g, 0, none⟩ ∧ base ≤ g ∧ g < w.heap.size ∧ n ≤ c ∧ c ≤ maxLen := by
  rcases h.2 with ⟨h1, h2⟩ | ⟨g, cap, cur, h1, h2, h3, h4, h5, _⟩
  · injection h1 with e1 e2 e3
    exact .inl ⟨e1, e2, e3⟩
  · injection h1 with e1 e2 e3
    subst e3
    exact .inr ⟨g, e1, h2, lt_of_block h3, h4, h5⟩
theorem OwnC.le (h : OwnC T base size w A n c vs) : n ≤ maxLen := by
  rcases h.form with ⟨_, h2, _⟩ | ⟨_, _, _, _, h1, h2⟩
  · subst h2; exact Nat.zero_le _
  · exact Nat.le_trans h1 h2
theorem OwnC.pos (h : OwnC T base size w A n c vs) (hn : 0 < n) : ∃ g, A = some ⟨g, 0, none⟩ ∧ base ≤ g ∧ g < w.heap.size ∧ n ≤ c ∧ c ≤ maxLen := by
  rcases h.form with ⟨_, h2, _⟩ | h1
  · omega
  · exact h1
theorem OwnC.lt {ad : Addr} (h : OwnC T base size w A n c vs) (hA : A = some ad) : base ≤ ad.block ∧ ad.block < w.heap.size := by
  rcases h.form with ⟨h1, _⟩ | ⟨g, h1, h2, h3, _⟩
  · rw [h1] at hA; cases hA
  · rw [h1] at hA; injection hA with hA; subst hA; exact ⟨h2, h3⟩
theorem OwnC.cell {g : Nat} (h : OwnC T base size w (some ⟨g, 0, none⟩) n c vs) {j : Nat} (hj : j < n * size) : w.cell? ⟨g, j, none⟩ = vs[j]? := World.ownsRow.cellAt h j hj
theorem OwnC.free {g : Nat} (h : OwnC T base size w (some ⟨g, 0, none⟩) n c vs) (j : Nat) : w.frozen? ⟨g, j, none⟩ = false := World.ownsRow.frozenAt h j
theorem OwnC.keep (h : OwnC T base size w A n c vs) (hk : ∀ ad, A = some ad → ad.block < w.heap.size → w'.heap[ad.block]? = w.heap[ad.block]?) : OwnC T base size w' A n c vs := by
  refine ⟨h.1, ?_⟩
  rcases h.2 with h2 | ⟨g, cap, cur, h1, h2, h3, h4⟩
  · exact .inl h2
  · refine .inr ⟨g, cap, cur, h1, h2, ?_, h4⟩
    injection h1 with e1
    exact (hk _ e1 (lt_of_block h3)).trans h3
theorem OwnC.below (h : OwnC T base size w A n c vs) (hb : Below w.heap.size w w') : OwnC T base size w' A n c vs := h.keep fun ad _ h2 => hb.block _ h2
theorem OwnC.upd (h : OwnC T base size w A n c vs) (hb : Upd S w w') (hS : ∀ ad, A = some ad → ¬ S ad.block) : OwnC T base size w' A n c vs := h.keep fun ad h1 h2 => hb.block _ h2 (hS ad h1)
theorem OwnC.alloc (h : OwnC T base size w A n c vs) (o : Obj) : OwnC T base size (w.alloc o) A n c vs := World.ownsRow.alloc h o
theorem OwnC.drew (h : OwnC T base size w A n c vs) : OwnC T base size w.drew A n c vs := h
theorem OwnC.drewN (h : OwnC T base size w A n c vs) (m : Nat) : OwnC T base size (w.drewN m) A n c vs := h
theorem OwnC.low {base' : Nat} (h : OwnC T base size w A n c vs) (hb : base' ≤ base) : OwnC T base' size w A n c vs := by
  refine ⟨h.1, ?_⟩
  rcases h.2 with h2 | ⟨g, cap, cur, h1, h2, h3⟩
  · exact .inl h2
  · exact .inr ⟨g, cap, cur, h1, by omega, h3⟩
theorem OwnC.set {g : Nat} (h : OwnC T base size w (some ⟨g, 0, none⟩) n c vs) (j : Nat) (u : Value) : OwnC T base size (w.setCell ⟨g, j, none⟩ u) (some ⟨g, 0, none⟩) n c (vs.set j u) := (World.ownsRow.stored h j u).1
theorem OwnC.far (h : OwnC T base size w A n c vs) {p : Addr} (hp : ∀ ad, A = some ad → ad.block ≠ p.block) (u : Value) : OwnC T base size (w.setCell p u) A n c vs :=
  h.keep fun ad h1 _ => Below.heap_setCell w p u _ (hp ad h1)
end cells

section ints
variable {w w' : World} {A : Option Addr} {n c : Nat} {zs : List Int} {S : Nat → Prop} {T base : Nat}
theorem IntsAt.len (h : IntsAt w A n zs) : zs.length = n := h.1
theorem IntsAt.at_ (h : IntsAt w A n zs) {k : Nat} (hk : k < n) :
    ∃ ad, A = some ad ∧ ad.block < w.heap.size ∧ w.cell? (ad.add k) = some (.int .i64 (zs.getD k 0)) := by
  obtain ⟨ad, h1, h2, h3⟩ := h.2 (by omega)
  exact ⟨ad, h1, h2, h3 k hk⟩
theorem IntsAt.nil_ : IntsAt w none 0 [] := ⟨rfl, fun h => absurd h (by omega)⟩
theorem block_add (a : Addr) (n : Nat) : (a.add n).block = a.block := by unfold Addr.add; split <;> rfl
theorem add_add' (a : Addr) (i j : Nat) : (a.add i).add j = a.add (i + j) := by
  unfold Addr.add
  by_cases hi : i = 0 <;> by_cases hj : j = 0 <;> simp [hi, hj, Nat.add_assoc]
theorem IntsAt.keep (h : IntsAt w A n zs) (hs : w.heap.size ≤ w'.heap.size) (hk : ∀ ad, A = some ad → ad.block < w.heap.size → w'.heap[ad.block]? = w.heap[ad.block]?) : IntsAt w' A n zs := by
  refine ⟨h.1, fun hn => ?_⟩
  obtain ⟨ad, h1, h2, h3⟩ := h.2 hn
  refine ⟨ad, h1, by omega, fun j hj => ?_⟩
  rw [← h3 j hj]
  exact World.cell?_of_block (by rw [block_add]; exact hk ad h1 h2)
theorem IntsAt.below (h : IntsAt w A n zs) (hb : Below w.heap.size w w') : IntsAt w' A n zs := h.keep hb.size fun ad _ h2 => hb.block _ h2
theorem IntsAt.upd (h : IntsAt w A n zs) (hb : Upd S w w') (hS : ∀ ad, A = some ad → ¬ S ad.block) : IntsAt w' A n zs := h.keep hb.size fun ad h1 h2 => hb.block _ h2 (hS ad h1)
theorem IntsAt.alloc (h : IntsAt w A n zs) (o : Obj) : IntsAt (w.alloc o) A n zs := h.keep (by simp) fun ad _ h2 => Below.heap_alloc w o _ h2
theorem IntsAt.drew (h : IntsAt w A n zs) : IntsAt w.drew A n zs := h
theorem IntsAt.drewN (h : IntsAt w A n zs) (m : Nat) : IntsAt (w.drewN m) A n zs := h

theorem OwnI.len (h : OwnI T base w A n c zs) : zs.length = n := by simpa using h.1
theorem OwnI.nil_ (T base : Nat) (w : World) : OwnI T base w none 0 0 [] := World.ownsRow_nil w base T 1
theorem OwnI.form (h : OwnI T base w A n c zs) : (A = none ∧ n = 0 ∧ c = 0 ∧ zs = []) ∨ ∃ g, A = some ⟨g, 0, none⟩ ∧ base ≤ g ∧ g < w.heap.size ∧ n ≤ c ∧ c ≤ maxLen := by
  have hl := h.len
  rcases h.2 with ⟨h1, h2⟩ | ⟨g, cap, cur, h1, h2, h3, h4, h5, _⟩
  · injection h1 with e1 e2 e3
    exact .inl ⟨e1, e2, e3, List.eq_nil_of_length_eq_zero (by omega)⟩
  · injection h1 with e1 e2 e3
    subst e3
    exact .inr ⟨g, e1, h2, lt_of_block h3, h4, h5⟩
theorem OwnI.le (h : OwnI T base w A n c zs) : n ≤ maxLen := by
  rcases h.form with ⟨_, h2, _⟩ | ⟨_, _, _, _, h1, h2⟩
  · subst h2; exact Nat.zero_le _
  · exact Nat.le_trans h1 h2
theorem OwnI.pos (h : OwnI T base w A n c zs) (hn : 0 < n) : ∃ g, A = some ⟨g, 0, none⟩ ∧ base ≤ g ∧ g < w.heap.size ∧ n ≤ c ∧ c ≤ maxLen := by
  rcases h.form with ⟨_, h2, _⟩ | h1
  · omega
  · exact h1
theorem OwnI.lt {ad : Addr} (h : OwnI T base w A n c zs) (hA : A = some ad) : base ≤ ad.block ∧ ad.block < w.heap.size := by
  rcases h.form with ⟨h1, _⟩ | ⟨g, h1, h2, h3, _⟩
  · rw [h1] at hA; cases hA
  · rw [h1] at hA; injection hA with hA; subst hA; exact ⟨h2, h3⟩
theorem OwnI.ints (h : OwnI T base w A n c zs) : IntsAt w A n zs := by
  refine ⟨h.len, fun hn => ?_⟩
  obtain ⟨g, hA, _, hlt, _⟩ := h.pos hn
  subst hA
  refine ⟨_, rfl, hlt, fun j hj => ?_⟩
  have hl := h.len
  exact World.ownsRow.cells h (g := g) rfl j _ (by rw [List.getElem?_map, List.getElem?_eq_getElem (by omega)]; simp [List.getD, List.getElem?_eq_getElem (show j < zs.length by omega)])
theorem OwnI.cell {g : Nat} (h : OwnI T base w (some ⟨g, 0, none⟩) n c zs) {j : Nat} (hj : j < n) : w.cell? ⟨g, j, none⟩ = some (.int .i64 (zs.getD j 0)) := by
  have hl := h.len
  rw [World.ownsRow.cellAt h j (by omega), List.getElem?_map, List.getElem?_eq_getElem (by omega)]
  simp [List.getD, List.getElem?_eq_getElem (show j < zs.length by omega)]
theorem OwnI.free {g : Nat} (h : OwnI T base w (some ⟨g, 0, none⟩) n c zs) (j : Nat) : w.frozen? ⟨g, j, none⟩ = false := World.ownsRow.frozenAt h j
theorem OwnI.keep (h : OwnI T base w A n c zs) (hk : ∀ ad, A = some ad → ad.block < w.heap.size → w'.heap[ad.block]? = w.heap[ad.block]?) : OwnI T base w' A n c zs := by
  refine ⟨h.1, ?_⟩
  rcases h.2 with h2 | ⟨g, cap, cur, h1, h2, h3, h4⟩
  · exact .inl h2
  · refine .inr ⟨g, cap, cur, h1, h2, ?_, h4⟩
    injection h1 with e1
    exact (hk _ e1 (lt_of_block h3)).trans h3
theorem OwnI.below (h : OwnI T base w A n c zs) (hb : Below w.heap.size w w') : OwnI T base w' A n c zs := h.keep fun ad _ h2 => hb.block _ h2
theorem OwnI.upd (h : OwnI T base w A n c zs) (hb : Upd S w w') (hS : ∀ ad, A = some ad → ¬ S ad.block) : OwnI T base w' A n c zs := h.keep fun ad h1 h2 => hb.block _ h2 (hS ad h1)
theorem OwnI.alloc (h : OwnI T base w A n c zs) (o : Obj) : OwnI T base (w.alloc o) A n c zs := World.ownsRow.alloc h o
theorem OwnI.drew (h : OwnI T base w A n c zs) : OwnI T base w.drew A n c zs := h
theorem OwnI.drewN (h : OwnI T base w A n c zs) (m : Nat) : OwnI T base (w.drewN m) A n c zs := h
theorem OwnI.low {base' : Nat} (h : OwnI T base w A n c zs) (hb : base' ≤ base) : OwnI T base' w A n c zs := by
  refine ⟨h.1, ?_⟩
  rcases h.2 with h2 | ⟨g, cap, cur, h1, h2, h3⟩
  · exact .inl h2
  · exact .inr ⟨g, cap, cur, h1, by omega, h3⟩
theorem OwnI.rebase {base' : Nat} (h : OwnI T base w A n c zs) (hb : ∀ ad, A = some ad → base' ≤ ad.block) : OwnI T base' w A n c zs := by
  refine ⟨h.1, ?_⟩
  rcases h.2 with h2 | ⟨g, cap, cur, h1, h2, h3⟩
  · exact .inl h2
  · injection h1 with e1 e2 e3
    subst e3
    exact .inr ⟨g, _, cur, by rw [e1], hb _ e1, h3⟩
theorem OwnI.set {g : Nat} (h : OwnI T base w (some ⟨g, 0, none⟩) n c zs) (j : Nat) (u : Int) : OwnI T base (w.setCell ⟨g, j, none⟩ (.int .i64 u)) (some ⟨g, 0, none⟩) n c (zs.set j u) := by
  have := (World.ownsRow.stored h j (.int .i64 u)).1
  unfold OwnI
  rw [List.map_set]
  exact this
theorem OwnI.far (h : OwnI T base w A n c zs) {p : Addr} (hp : ∀ ad, A = some ad → ad.block ≠ p.block) (u : Value) : OwnI T base (w.setCell p u) A n c zs :=
  h.keep fun ad h1 _ => Below.heap_setCell w p u _ (hp ad h1)
theorem IntsAt.far (h : IntsAt w A n zs) {p : Addr} (hp : ∀ ad, A = some ad → ad.block ≠ p.block) (u : Value) : IntsAt (w.setCell p u) A n zs :=
  h.keep (by simp) fun ad h1 _ => Below.heap_setCell w p u _ (hp ad h1)
theorem OwnI.made (T base : Nat) (w : World) (n : Nat) (hb : base ≤ w.heap.size) (hn : n ≤ maxLen) :
    OwnI T base (w.alloc (.cells (madeCells #[.int .i64 0] n) T)) (some ⟨w.heap.size, 0, none⟩) n n (List.replicate n 0) := by
  have := World.ownsRow_lit (e := T) (base := base) (size := 1) w (madeCells #[.int .i64 0] n) n hb hn (by simp [size_madeCells])
  rw [toList_madeCells_one] at this
  unfold OwnI
  simpa using this
/-- two slices share no block -/
def Sep (A B : Option Addr) : Prop := ∀ a b : Addr, A = some a → B = some b → a.block ≠ b.block
theorem Sep.symm {A B : Option Addr} (h : Sep A B) : Sep B A := fun a b ha hb e => h b a hb ha e.symm
theorem sep_new {B : Option Addr} {T' b0 m d : Nat} {ys : List Int} (h1 : OwnI T b0 w A n c zs) (h2 : OwnI T' w.heap.size w' B m d ys) : Sep A B := by
  intro a b ha hb
  have := (h1.lt ha).2
  have := (h2.lt hb).1
  omega
/-- the block of a slice -/
def blk (A : Option Addr) (k : Nat) : Prop := ∃ ad, A = some ad ∧ ad.block = k
theorem OwnC.sep {vs : List Value} {size : Nat} {B : Option Addr} (h : OwnC T base size w A n c vs) (hu : Upd (blk B) w w') (hs : Sep A B) : OwnC T base size w' A n c vs :=
  h.upd hu fun ad ha hb => by
    obtain ⟨bd, hb1, hb2⟩ := hb
    exact hs ad bd ha hb1 hb2.symm
theorem sep_of {B : Option Addr} {b : Nat} (h1 : ∀ ad, A = some ad → ad.block < b) (h2 : ∀ ad, B = some ad → b ≤ ad.block) : Sep A B := by
  intro x y hx hy
  have := h1 x hx
  have := h2 y hy
  omega
theorem below_of_blk {B : Nat} {ad : Option Addr} {a : World} (hb : Below B a w) (hB : B ≤ w.heap.size) (hu : Upd (blk ad) w w') (ho : ∀ x, ad = some x → B ≤ x.block) : Below B a w' :=
  hb.trans (hu.toBelow hB fun k hk ⟨x, h1, h2⟩ => by have := ho x h1; omega)
theorem OwnI.sep {B : Option Addr} (h : OwnI T base w A n c zs) (hu : Upd (blk B) w w') (hs : Sep A B) : OwnI T base w' A n c zs :=
  h.upd hu fun ad ha hb => by
    obtain ⟨bd, hb1, hb2⟩ := hb
    exact hs ad bd ha hb1 hb2.symm
theorem below_blk {B : Nat} {ad : Option Addr} {a : World} (hb : Below B a w) (hB : B ≤ w.heap.size) (hu : Upd (blk ad) w w') (ho : OwnI T base w ad n c zs) (hbase : B ≤ base) : Below B a w' :=
  hb.trans (hu.toBelow hB fun k hk ⟨x, h1, h2⟩ => by have := (ho.lt h1).1; omega)
end ints

/-- the world after some draws -/
def Drew (w w' : World) : Prop := ∃ q, w' = w.drewN q
theorem Drew.refl (w : World) : Drew w w := ⟨0, rfl⟩
theorem Drew.step {w w' : World} (h : Drew w w') (n : Nat) : Drew w (w'.drewN n) := by
  obtain ⟨q, rfl⟩ := h
  exact ⟨_, World.drewN_drewN _ _ _⟩
theorem Drew.trans {w w' w'' : World} (h : Drew w w') (k : Drew w' w'') : Drew w w'' := by
  obtain ⟨q, rfl⟩ := k
  exact h.step q
theorem Drew.below {w w' : World} (h : Drew w w') : Below w.heap.size w w' := by
  obtain ⟨q, rfl⟩ := h
  exact ext_drewN (Below.refl _ _) q
theorem IntsAt.drewTo {w w' : World} {A : Option Addr} {n : Nat} {zs : List Int} (h : IntsAt w A n zs) (hd : Drew w w') : IntsAt w' A n zs := by
  obtain ⟨q, rfl⟩ := hd
  exact h
theorem IntsAt.undrew {w w' : World} {A : Option Addr} {n : Nat} {zs : List Int} (h : IntsAt w' A n zs) (hd : Drew w w') : IntsAt w A n zs := by
  obtain ⟨q, rfl⟩ := hd
  exact h
theorem quiet_here {P : Program} {f : FuncId} {args : Array Value} {w : World} {n : Nat} {v : Value}
    (h : Calls P f args (w.drewN n) fun e w' => e = .returned v ∧ w.drewN n = w') : Calls P f args (w.drewN n) fun e w'' => e = .returned v ∧ ∃ m, w'' = w.drewN m :=
  h.mono fun _ _ ⟨he, hm⟩ => ⟨he, n, hm.symm⟩
theorem quiet_drew {P : Program} {f : FuncId} {args : Array Value} {w : World} {n : Nat} {v : Value}
    (h : Calls P f args (w.drewN n) fun e w' => e = .returned v ∧ Drew (w.drewN n) w') : Calls P f args (w.drewN n) fun e w'' => e = .returned v ∧ ∃ m, w'' = w.drewN m :=
  h.mono fun _ _ ⟨he, m, hm⟩ => ⟨he, n + m, by rw [hm, World.drewN_drewN]⟩

/-- numbers that rise by one -/
def seqI (k : Int) (n : Nat) : List Int := (List.range n).map fun (i : Nat) => k + i
theorem seqI_len (k : Int) (n : Nat) : (seqI k n).length = n := by simp [seqI]
theorem seqI_get (k : Int) (n j : Nat) (h : j < n) : (seqI k n).getD j 0 = k + j := by simp [seqI, List.getD, h]

/-- 'make([]T, n)' where T's zero is the int 0: the new slice is owned. -/
theorem wp_make_ints {P : Program} (w : World) {ops : Array Oper} {rest : List Oper} {o : Oper} {a : Act} {Q : Exit → Act → World → Prop}
    (hg : o.guard = none) (l c : Operand) (t : TypeId) (hop : o.op = Op.makeSlice t l c)
    (T : TypeId) (h1 : P.underlying t = some (.slice T)) (hinfo : (P.info? T).map (fun i => (i.zero, i.size, i.bytes)) = some (some (.int .i64 0), 1, 8))
    (kl kc : IntKind) (L C : Int) (n : Nat) (hl : a.eval l = .int kl L) (hc : a.eval c = .int kc C) (hL : L = (n : Int)) (hC : C = (n : Int)) (hn : n ≤ 17592186044416)
    (hK : ∀ (w' : World) (g : Nat), OwnI T w.heap.size w' (some ⟨g, 0, none⟩) n n (List.replicate n 0) → Below w.heap.size w w' → wpList P ops Q rest (a.put o.dst (.slice (some ⟨g, 0, none⟩) n n)) w') :
    wpList P ops Q (o :: rest) a w := by
  obtain ⟨i0, hi, hz0, hz1, hz2⟩ := info_parts hinfo
  refine wpList_make_full w hg l c t hop w.heap.size T i0 _ 1 h1 hi hz0 hz1 kl kc L C n hl hc hL hC (by rw [hz2]; omega) (by simp [maxLen]; omega) (Nat.le_refl _) ?_
  intro w' h2 h3
  refine hK w' w.heap.size ?_ (Upd.ext ((Upd.refl _ _).grown h3 (by intro k hk; cases hk)))
  unfold OwnI
  have e : (madeCells (Value.int .i64 0).cells (n * 1)).toList = (List.replicate n (0 : Int)).map (Value.int .i64) := by
    show (madeCells #[.int .i64 0] (n * 1)).toList = _
    rw [toList_madeCells_one]; simp
  rw [← e]
  exact h2

/-! plain lists -/
theorem all_take_succ {α} (p : α → Bool) (zs : List α) (k : Nat) (d : α) (hk : k < zs.length) : (zs.take (k+1)).all p = ((zs.take k).all p && p (zs.getD k d)) := by
  rw [List.take_succ_eq_append_getElem hk, List.all_append]; simp [hk]
theorem all_false_of {α} (p : α → Bool) (zs : List α) (k : Nat) (d : α) (hk : k < zs.length) (h : p (zs.getD k d) = false) : zs.all p = false := by
  rw [List.all_eq_false]
  exact ⟨zs[k], List.getElem_mem hk, by simpa [hk] using h⟩
theorem take_rep_set (zs : List Int) (k n : Nat) (x : Int) (hn : zs.length = n) (hk : k < n) :
    (zs.take k ++ List.replicate (n - k) x).set k (zs.getD k 0) = zs.take (k + 1) ++ List.replicate (n - (k + 1)) x := by
  apply List.ext_getElem?
  intro j
  have hl : (zs.take k).length = k := by simp; omega
  rw [List.getElem?_set]
  simp only [List.length_append, List.length_replicate, hl]
  by_cases h1 : k = j
  · subst h1
    rw [if_pos rfl, if_pos (by omega), List.getElem?_append_left (by simp; omega), List.getElem?_take, if_pos (by omega)]
    simp [List.getD, List.getElem?_eq_getElem (show k < zs.length by omega)]
  · rw [if_neg h1]
    by_cases h2 : j < k
    · rw [List.getElem?_append_left (by omega), List.getElem?_append_left (by simp; omega)]
      simp [List.getElem?_take, h2, Nat.lt_succ_of_lt h2]
    · rw [List.getElem?_append_right (by omega), List.getElem?_append_right (by simp; omega)]
      have hl' : (zs.take (k+1)).length = k + 1 := by simp; omega
      rw [hl, hl', List.getElem?_replicate, List.getElem?_replicate]
      by_cases h3 : j < n
      · rw [if_pos (by omega), if_pos (by omega)]
      · rw [if_neg (by omega), if_neg (by omega)]
end Go.Proofs.YtigaopfhjimpmaaDoor

namespace Go.Proofs.YtigaopfhjimpmaaDoor
open Go.RowKit

/-- the first k of one list, then another one -/
def mix (a b : List Int) (k : Nat) : List Int := a.take k ++ b.drop k
theorem mix_len {a b : List Int} (h : a.length = b.length) (k : Nat) : (mix a b k).length = a.length := by
  simp [mix]; omega
theorem mix_lt {a b : List Int} {k j : Nat} (hj : j < k) (hk : k ≤ a.length) : (mix a b k).getD j 0 = a.getD j 0 := by
  simp only [mix, List.getD]
  rw [List.getElem?_append_left (by simp; omega), List.getElem?_take, if_pos hj]
theorem mix_ge {a b : List Int} {k j : Nat} (hj : k ≤ j) (hk : k ≤ a.length) : (mix a b k).getD j 0 = b.getD j 0 := by
  simp only [mix, List.getD]
  have : (a.take k).length = k := by simp; omega
  rw [List.getElem?_append_right (by omega), this, List.getElem?_drop]
  congr 2
  omega
theorem mix_zero (a b : List Int) : mix a b 0 = b := by simp [mix]
theorem mix_all {a b : List Int} (h : a.length = b.length) : mix a b a.length = a := by
  rw [mix, List.take_length, List.drop_of_length_le (by omega), List.append_nil]
theorem getD_ext {a b : List Int} (h : a.length = b.length) (hj : ∀ j, j < a.length → a.getD j 0 = b.getD j 0) : a = b := by
  apply List.ext_getElem?
  intro i
  by_cases hi : i < a.length
  · have := hj i hi
    rw [List.getElem?_eq_getElem hi, List.getElem?_eq_getElem (by omega)]
    simpa [List.getD, List.getElem?_eq_getElem hi, List.getElem?_eq_getElem (show i < b.length by omega)] using this
  · rw [List.getElem?_eq_none (by omega), List.getElem?_eq_none (by omega)]
theorem getD_set {a : List Int} {k j : Nat} {x : Int} (hk : k < a.length) : (a.set k x).getD j 0 = if j = k then x else a.getD j 0 := by
  simp only [List.getD, List.getElem?_set]
  by_cases h : k = j
  · subst h; simp [hk]
  · rw [if_neg h, if_neg (fun e => h e.symm)]
theorem mix_up {a b : List Int} (h : a.length = b.length) {k : Nat} (hk : k < a.length) : (mix a b k).set k (a.getD k 0) = mix a b (k + 1) := by
  apply getD_ext
  · rw [List.length_set, mix_len h, mix_len h]
  · intro j hj
    rw [List.length_set, mix_len h] at hj
    rw [getD_set (by rw [mix_len h]; exact hk)]
    by_cases hjk : j = k
    · subst hjk; rw [if_pos rfl, mix_lt (by omega) (by omega)]
    · rw [if_neg hjk]
      rcases Nat.lt_or_ge j k with h1 | h1
      · rw [mix_lt h1 (by omega), mix_lt (by omega) (by omega)]
      · rw [mix_ge h1 (by omega), mix_ge (by omega) (by omega)]
theorem mix_down {a b : List Int} (h : a.length = b.length) {k : Nat} (hk : k < a.length) : (mix a b (k + 1)).set k (b.getD k 0) = mix a b k := by
  apply getD_ext
  · rw [List.length_set, mix_len h, mix_len h]
  · intro j hj
    rw [List.length_set, mix_len h] at hj
    rw [getD_set (by rw [mix_len h]; exact hk)]
    by_cases hjk : j = k
    · subst hjk; rw [if_pos rfl, mix_ge (Nat.le_refl _) (by omega)]
    · rw [if_neg hjk]
      rcases Nat.lt_or_ge j k with h1 | h1
      · rw [mix_lt (by omega) (by omega), mix_lt h1 (by omega)]
      · rw [mix_ge (by omega) (by omega), mix_ge h1 (by omega)]
theorem mix_same {a b : List Int} (h : a.length = b.length) {k : Nat} (hk : k ≤ a.length) (hj : ∀ j, j < k → a.getD j 0 = b.getD j 0) : mix a b k = b := by
  apply getD_ext
  · rw [mix_len h]; exact h
  · intro j hjl
    rcases Nat.lt_or_ge j k with h1 | h1
    · rw [mix_lt h1 hk, hj j h1]
    · rw [mix_ge h1 hk]
theorem mix_over {a b : List Int} (h : a.length = b.length) {k : Nat} (hk : a.length ≤ k) : mix a b k = a := by
  rw [mix, List.take_of_length_le hk, List.drop_of_length_le (by omega), List.append_nil]
end Go.Proofs.YtigaopfhjimpmaaDoor

namespace Go.Proofs.YtigaopfhjimpmaaDoor
namespace DetP
abbrev Row := Nat → Int
/-- the contraction with a row -/
def con (r : Row) : (List Nat → Int) → List Nat → Int
  | _, [] => 0
  | h, c :: cs => r c * h cs - con r (fun x => h (c :: x)) cs
def det : List Row → List Nat → Int
  | [], cs => if cs.isEmpty then 1 else 0
  | r :: rs, cs => con r (det rs) cs

theorem con_zero (r : Row) : ∀ cs, con r (fun _ => 0) cs = 0
  | [] => rfl
  | c :: cs => by rw [con, con_zero r cs]; omega
theorem con_add (r : Row) : ∀ (cs : List Nat) (f g : List Nat → Int), con r (fun x => f x + g x) cs = con r f cs + con r g cs
  | [], _, _ => rfl
  | c :: cs, f, g => by
    rw [con, con, con, con_add r cs (fun x => f (c :: x)) (fun x => g (c :: x))]
    grind
theorem con_mul (r : Row) (a : Int) : ∀ (cs : List Nat) (f : List Nat → Int), con r (fun x => a * f x) cs = a * con r f cs
  | [], _ => by rw [con, con]; omega
  | c :: cs, f => by
    rw [con, con, con_mul r a cs (fun x => f (c :: x))]
    grind
theorem con_congr (r : Row) : ∀ (cs : List Nat) (f g : List Nat → Int), (∀ x, f x = g x) → con r f cs = con r g cs := by
  intro cs f g h
  have : f = g := funext h
  rw [this]
theorem con_row (r s : Row) : ∀ (cs : List Nat) (f : List Nat → Int), con (fun c => r c + s c) f cs = con r f cs + con s f cs
  | [], _ => rfl
  | c :: cs, f => by
    rw [con, con, con, con_row r s cs]
    grind
theorem con_row_mul (a : Int) (r : Row) : ∀ (cs : List Nat) (f : List Nat → Int), con (fun c => a * r c) f cs = a * con r f cs
  | [], _ => by rw [con, con]; omega
  | c :: cs, f => by
    rw [con, con, con_row_mul a r cs]
    grind
/-- two contractions change places with the sign -/
theorem con_swap (r s : Row) : ∀ (cs : List Nat) (f : List Nat → Int), con r (con s f) cs + con s (con r f) cs = 0
  | [], _ => rfl
  | c :: cs, f => by
    have h := con_swap r s cs (fun x => f (c :: x))
    have e1 : con r (fun x => con s f (c :: x)) cs = s c * con r f cs - con r (con s (fun x => f (c :: x))) cs := by
      have : (fun x => con s f (c :: x)) = fun x => s c * f x + (-1) * con s (fun y => f (c :: y)) x := by
        funext x; rw [con]; omega
      rw [this, con_add, con_mul, con_mul]; omega
    have e2 : con s (fun x => con r f (c :: x)) cs = r c * con s f cs - con s (con r (fun x => f (c :: x))) cs := by
      have : (fun x => con r f (c :: x)) = fun x => r c * f x + (-1) * con r (fun y => f (c :: y)) x := by
        funext x; rw [con]; omega
      rw [this, con_add, con_mul, con_mul]; omega
    rw [con, con, e1, e2]
    omega
theorem con_self (r : Row) (cs : List Nat) (f : List Nat → Int) : con r (con r f) cs = 0 := by
  have := con_swap r r cs f; omega
theorem det_swap (r s : Row) (rs : List Row) (cs : List Nat) : det (r :: s :: rs) cs + det (s :: r :: rs) cs = 0 := con_swap r s cs (det rs)
theorem det_dup (r : Row) : ∀ (rs : List Row) (cs : List Nat), r ∈ rs → det (r :: rs) cs = 0
  | [], _, h => by cases h
  | s :: rs, cs, h => by
    by_cases e : r = s
    · subst e; exact con_self r cs _
    · have h2 : r ∈ rs := by
        rcases List.mem_cons.1 h with h | h
        · exact absurd h e
        · exact h
      have h3 : (det (r :: rs)) = fun _ => 0 := funext fun x => det_dup r rs x h2
      have h4 := det_swap r s rs cs
      have h5 : det (s :: r :: rs) cs = 0 := by
        show con s (det (r :: rs)) cs = 0
        rw [h3]; exact con_zero s cs
      omega
/-- a row that is nought at these columns -/
theorem con_far (r : Row) : ∀ (cs : List Nat) (f : List Nat → Int), (∀ c, c ∈ cs → r c = 0) → con r f cs = 0
  | [], _, _ => rfl
  | c :: cs, f, h => by
    rw [con, h c (by simp), con_far r cs _ (fun d hd => h d (by simp [hd]))]
    omega
theorem con_one (r : Row) (j : Nat) (cs : List Nat) (f : List Nat → Int) (h : ∀ c, c ∈ cs → r c = 0) : con r f (j :: cs) = r j * f cs := by
  rw [con, con_far r cs _ h]; omega
/-- rows that are nought at nearly all columns -/
theorem con_few (q : Nat → Bool) (r : Row) (hr : ∀ c, q c = false → r c = 0) : ∀ (cs : List Nat) (f : List Nat → Int) (m : Nat), (∀ x, x.countP q < m → f x = 0) → cs.countP q < m + 1 → con r f cs = 0
  | [], _, _, _, _ => rfl
  | c :: cs, f, m, hf, h => by
    rw [con]
    cases hq : q c with
    | false =>
      rw [List.countP_cons_of_neg (by simp [hq])] at h
      rw [hr c hq, con_few q r hr cs _ m (fun x hx => hf _ (by rw [List.countP_cons_of_neg (by simp [hq])]; exact hx)) h]
      omega
    | true =>
      rw [List.countP_cons_of_pos hq] at h
      rw [hf cs (by omega)]
      cases m with
      | zero => omega
      | succ m =>
        rw [con_few q r hr cs _ m (fun x hx => hf _ (by rw [List.countP_cons_of_pos hq]; omega)) (by omega)]
        omega
theorem det_few (q : Nat → Bool) : ∀ (rs R : List Row) (cs : List Nat), (∀ r, r ∈ rs → ∀ c, q c = false → r c = 0) → cs.countP q < rs.length → det (rs ++ R) cs = 0
  | [], _, _, _, h => by simp at h
  | r :: rs, R, cs, hr, h => by
    refine con_few q r (hr r (by simp)) cs _ rs.length (fun x hx => det_few q rs R x (fun s hs => hr s (by simp [hs])) hx) (by simpa using h)
/-- columns: two neighbours change places with the sign -/
def Anti (h : List Nat → Int) : Prop := ∀ pre c d post, h (pre ++ c :: d :: post) + h (pre ++ d :: c :: post) = 0
theorem con_anti (r : Row) : ∀ (pre : List Nat) (h : List Nat → Int) (c d : Nat) (post : List Nat), Anti h → con r h (pre ++ c :: d :: post) + con r h (pre ++ d :: c :: post) = 0
  | [], h, c, d, post, ha => by
    have e1 : con r (fun x => h (c :: d :: x)) post + con r (fun x => h (d :: c :: x)) post = 0 := by
      rw [← con_add]
      have : (fun x => h (c :: d :: x) + h (d :: c :: x)) = fun _ => 0 := funext fun x => ha [] c d x
      rw [this]; exact con_zero r post
    show con r h (c :: d :: post) + con r h (d :: c :: post) = 0
    rw [con, con, con, con]
    grind
  | a :: pre, h, c, d, post, ha => by
    have e1 := con_anti r pre (fun x => h (a :: x)) c d post (fun p c d q => ha (a :: p) c d q)
    have e2 := ha pre c d post
    show con r h (a :: (pre ++ c :: d :: post)) + con r h (a :: (pre ++ d :: c :: post)) = 0
    rw [con, con]
    grind
theorem det_anti : ∀ (rs : List Row), Anti (det rs)
  | [] => fun pre c d post => by simp [det]
  | r :: rs => fun pre c d post => con_anti r pre (det rs) c d post (det_anti rs)
/-- the sum over columns -/
def sumN : Nat → (Nat → Int) → Int
  | 0, _ => 0
  | n + 1, f => sumN n f + f n
theorem sumN_congr : ∀ (n : Nat) (f g : Nat → Int), (∀ i, i < n → f i = g i) → sumN n f = sumN n g
  | 0, _, _, _ => rfl
  | n + 1, f, g, h => by rw [sumN, sumN, sumN_congr n f g (fun i hi => h i (by omega)), h n (by omega)]
theorem sumN_zero (n : Nat) : sumN n (fun _ => 0) = 0 := by induction n with
  | zero => rfl
  | succ n ih => rw [sumN, ih]; rfl
theorem sumN_mul (a : Int) : ∀ (n : Nat) (f : Nat → Int), sumN n (fun i => f i * a) = sumN n f * a
  | 0, _ => by simp [sumN]
  | n + 1, f => by rw [sumN, sumN, sumN_mul a n f]; grind
theorem sumN_sub : ∀ (n : Nat) (f g : Nat → Int), sumN n (fun i => f i - g i) = sumN n f - sumN n g
  | 0, _, _ => rfl
  | n + 1, f, g => by rw [sumN, sumN, sumN, sumN_sub n f g]; omega
theorem sumN_con (r : Row) : ∀ (n : Nat) (h : Nat → List Nat → Int) (cs : List Nat), sumN n (fun i => con r (h i) cs) = con r (fun x => sumN n (fun i => h i x)) cs
  | 0, h, cs => by show 0 = con r (fun _ => 0) cs; rw [con_zero]
  | n + 1, h, cs => by
    show sumN n (fun i => con r (h i) cs) + con r (h n) cs = con r (fun x => sumN n (fun i => h i x) + h n x) cs
    rw [sumN_con r n h cs, con_add r cs (fun x => sumN n (fun i => h i x)) (h n)]
theorem det_cols (N : Nat) : ∀ (rs : List Row) (cs : List Nat), (∀ r, r ∈ rs → sumN N r = 0) → sumN N (fun c => det rs (c :: cs)) = 0
  | [], cs, _ => by simp [det, sumN_zero]
  | r :: rs, cs, h => by
    have e : (fun c => det (r :: rs) (c :: cs)) = fun c => r c * det rs cs - con r (fun x => det rs (c :: x)) cs := funext fun c => by
      show con r (det rs) (c :: cs) = _
      rw [con]
    rw [e, sumN_sub, sumN_mul, h r (by simp), sumN_con r N (fun c x => det rs (c :: x)) cs]
    have e2 : (fun x => sumN N (fun i => det rs (i :: x))) = fun _ => 0 := funext fun x => det_cols N rs x (fun s hs => h s (by simp [hs]))
    rw [e2, con_zero]; omega
/-- a column that is there twice -/
theorem anti_dup {h : List Nat → Int} (ha : Anti h) : ∀ (pre : List Nat) (c : Nat) (cs post : List Nat), c ∈ cs → h (pre ++ c :: (cs ++ post)) = 0
  | pre, c, [], post, hm => by cases hm
  | pre, c, d :: cs, post, hm => by
    have h1 := ha pre c d (cs ++ post)
    by_cases e : c = d
    · subst e
      show h (pre ++ c :: c :: (cs ++ post)) = 0
      omega
    · have h2 : c ∈ cs := by
        rcases List.mem_cons.1 hm with h | h
        · exact absurd h e
        · exact h
      have h3 := anti_dup ha (pre ++ [d]) c cs post h2
      rw [List.append_assoc] at h3
      have h4 : h (pre ++ d :: c :: (cs ++ post)) = 0 := h3
      show h (pre ++ c :: d :: (cs ++ post)) = 0
      omega
/-- the sign of n changes of place -/
def alt : Nat → Int → Int
  | 0, x => x
  | n + 1, x => - alt n x
theorem alt_neg : ∀ n x, alt n (-x) = - alt n x
  | 0, _ => rfl
  | n + 1, x => by rw [alt, alt, alt_neg n x]
theorem alt_alt : ∀ n x, alt n (alt n x) = x
  | 0, _ => rfl
  | n + 1, x => by rw [alt, alt, alt_neg, alt_alt n x]; omega
theorem anti_move {h : List Nat → Int} (ha : Anti h) : ∀ (pre : List Nat) (c : Nat) (cs : List Nat), h (pre ++ c :: cs) = alt cs.length (h (pre ++ (cs ++ [c])))
  | pre, c, [] => rfl
  | pre, c, d :: cs => by
    have h1 := ha pre c d cs
    have h3 := anti_move ha (pre ++ [d]) c cs
    rw [List.append_assoc, List.append_assoc] at h3
    have h4 : h (pre ++ d :: c :: cs) = alt cs.length (h (pre ++ d :: (cs ++ [c]))) := h3
    show h (pre ++ c :: d :: cs) = - alt cs.length (h (pre ++ (d :: (cs ++ [c]))))
    omega
theorem con_neg (r : Row) (cs : List Nat) (f : List Nat → Int) : con r (fun x => - f x) cs = - con r f cs := by
  have : (fun x => - f x) = fun x => (-1) * f x := funext fun x => by omega
  rw [this, con_mul]; omega
theorem con_alt (r : Row) : ∀ (n : Nat) (cs : List Nat) (f : List Nat → Int), con r (fun x => alt n (f x)) cs = alt n (con r f cs)
  | 0, _, _ => rfl
  | n + 1, cs, f => by
    show con r (fun x => - alt n (f x)) cs = - alt n (con r f cs)
    rw [con_neg, con_alt r n cs f]
theorem det_move (r : Row) : ∀ (rs : List Row) (cs : List Nat), det (r :: rs) cs = alt rs.length (det (rs ++ [r]) cs)
  | [], _ => rfl
  | s :: rs, cs => by
    have h1 := det_swap r s rs cs
    have h2 : det (s :: r :: rs) cs = alt rs.length (det (s :: (rs ++ [r])) cs) := by
      show con s (det (r :: rs)) cs = alt rs.length (con s (det (rs ++ [r])) cs)
      have : det (r :: rs) = fun x => alt rs.length (det (rs ++ [r]) x) := funext fun x => det_move r rs x
      rw [this, con_alt]
    show det (r :: s :: rs) cs = - alt rs.length (det (s :: (rs ++ [r])) cs)
    omega
theorem sumN_one {N : Nat} {f : Nat → Int} : ∀ (n : Nat), (∀ i, i < n → i ≠ N → f i = 0) → sumN n f = if N < n then f N else 0
  | 0, _ => rfl
  | n + 1, h => by
    rw [sumN, sumN_one n (fun i hi => h i (by omega))]
    by_cases e : n = N
    · subst e
      rw [if_neg (by omega), if_pos (by omega)]; omega
    · rw [h n (by omega) e]
      by_cases e2 : N < n
      · rw [if_pos e2, if_pos (by omega)]; omega
      · rw [if_neg e2, if_neg (by omega)]; rfl
/-- columns: the last one stands for the first, with the sign -/
theorem det_lastcol {m : Nat} (rs : List Row) (mid : List Nat) (h : ∀ r, r ∈ rs → sumN (m + 2) r = 0) (hmid : ∀ i, 0 < i → i < m + 1 → i ∈ mid) : det rs ((m + 1) :: mid) = - det rs (0 :: mid) := by
  have h1 := det_cols (m + 2) rs mid h
  have h2 : ∀ i, 0 < i → i < m + 1 → det rs (i :: mid) = 0 := fun i a b => by
    have := anti_dup (det_anti rs) [] i mid [] (hmid i a b)
    rw [List.append_nil] at this
    exact this
  have h3 : sumN (m + 1) (fun c => det rs (c :: mid)) = det rs (0 :: mid) := by
    rw [sumN_one (N := 0) (m + 1) (fun i hi hn => h2 i (by omega) hi), if_pos (by omega)]
  rw [sumN, h3] at h1
  omega
/-- rows: the same -/
theorem con_sumrow : ∀ (n : Nat) (f : Nat → Row) (cs : List Nat) (h : List Nat → Int), con (fun c => sumN n (fun i => f i c)) h cs = sumN n (fun i => con (f i) h cs)
  | 0, f, cs, h => by
    show con (fun _ => 0) h cs = 0
    exact con_far _ cs h (fun _ _ => rfl)
  | n + 1, f, cs, h => by
    show con (fun c => sumN n (fun i => f i c) + f n c) h cs = sumN n (fun i => con (f i) h cs) + con (f n) h cs
    rw [con_row (fun c => sumN n (fun i => f i c)) (f n) cs h, con_sumrow n f cs h]
theorem det_lastrow {m : Nat} (l : Nat → Row) (mid : List Row) (cs : List Nat) (h : ∀ c, sumN (m + 2) (fun i => l i c) = 0) (hmid : ∀ i, 0 < i → i < m + 1 → l i ∈ mid) : det (l (m + 1) :: mid) cs = - det (l 0 :: mid) cs := by
  have h1 : sumN (m + 2) (fun i => det (l i :: mid) cs) = 0 := by
    have := con_sumrow (m + 2) l cs (det mid)
    rw [con_far _ cs _ (fun c _ => h c)] at this
    exact this.symm
  have h3 : sumN (m + 1) (fun i => det (l i :: mid) cs) = det (l 0 :: mid) cs := by
    rw [sumN_one (N := 0) (m + 1) (fun i hi hn => det_dup _ _ _ (hmid i (by omega) hi)), if_pos (by omega)]
  rw [sumN, h3] at h1
  omega
/-- lists of numbers and of rows, the last ones first -/
def down {α : Type} (f : Nat → α) : Nat → List α
  | 0 => []
  | n + 1 => f n :: down f n
theorem down_len {α : Type} (f : Nat → α) : ∀ n, (down f n).length = n
  | 0 => rfl
  | n + 1 => by rw [down, List.length_cons, down_len f n]
theorem down_mem {α : Type} {f : Nat → α} {x : α} : ∀ {n : Nat}, x ∈ down f n ↔ ∃ i, i < n ∧ f i = x
  | 0 => by simp [down]
  | n + 1 => by
    rw [down, List.mem_cons, down_mem (n := n)]
    constructor
    · rintro (h | ⟨i, a, b⟩)
      · exact ⟨n, by omega, h.symm⟩
      · exact ⟨i, by omega, b⟩
    · rintro ⟨i, a, b⟩
      by_cases e : i = n
      · subst e; exact .inl b.symm
      · exact .inr ⟨i, by omega, b⟩
theorem down_shift {α : Type} (f : Nat → α) : ∀ n, down (fun i => f (i + 1)) n ++ [f 0] = down f (n + 1)
  | 0 => rfl
  | n + 1 => by
    show f (n + 1) :: (down (fun i => f (i + 1)) n ++ [f 0]) = f (n + 1) :: down f (n + 1)
    rw [down_shift f n]
/-- the two cofactors are the same -/
theorem cofactors {m : Nat} (l : Nat → Row) (hr : ∀ i, i < m + 2 → sumN (m + 2) (l i) = 0) (hc : ∀ c, sumN (m + 2) (fun i => l i c) = 0) :
    det (down (fun i => l (i + 1)) (m + 1)) (down (fun i => i + 1) (m + 1)) = det (down l (m + 1)) (down (fun i => i) (m + 1)) := by
  have a1 : det (down (fun i => l (i + 1)) (m + 1)) (down (fun i => i + 1) (m + 1)) = - det (l 0 :: down (fun i => l (i + 1)) m) (down (fun i => i + 1) (m + 1)) :=
    det_lastrow l (down (fun i => l (i + 1)) m) _ hc (fun i h1 h2 => down_mem.2 ⟨i - 1, by omega, by rw [show i - 1 + 1 = i by omega]⟩)
  have a2 : det (l 0 :: down (fun i => l (i + 1)) m) (down (fun i => i + 1) (m + 1)) = - det (l 0 :: down (fun i => l (i + 1)) m) (0 :: down (fun i => i + 1) m) :=
    det_lastcol (l 0 :: down (fun i => l (i + 1)) m) (down (fun i => i + 1) m) (fun r hm => by
      rcases List.mem_cons.1 hm with h | h
      · rw [h]; exact hr 0 (by omega)
      · obtain ⟨i, h1, h2⟩ := down_mem.1 h
        rw [← h2]; exact hr (i + 1) (by omega)) (fun i h1 h2 => down_mem.2 ⟨i - 1, by omega, show i - 1 + 1 = i by omega⟩)
  have a3 := det_move (l 0) (down (fun i => l (i + 1)) m) (0 :: down (fun i => i + 1) m)
  rw [down_shift l m, down_len] at a3
  have a4 := anti_move (det_anti (down l (m + 1))) [] 0 (down (fun i => i + 1) m)
  rw [List.nil_append, List.nil_append, down_shift (fun i => i) m, down_len] at a4
  rw [a4, alt_alt] at a3
  omega
/-- Bareiss' entries and pivots -/
def bD (l : Nat → Row) (k i j : Nat) : Int := det (l i :: down l k) (j :: down (fun i => i) k)
def bP (l : Nat → Row) (k : Nat) : Int := det (down l k) (down (fun i => i) k)
theorem bP_succ (l : Nat → Row) (k : Nat) : bP l (k + 1) = bD l k k k := rfl
theorem bP_zero (l : Nat → Row) : bP l 0 = 1 := rfl
theorem bD_zero (l : Nat → Row) (i j : Nat) : bD l 0 i j = l i j := by
  show con (l i) (det []) [j] = l i j
  rw [con, con]
  show l i j * 1 - 0 = l i j
  omega
theorem bD_low (l : Nat → Row) {k i j : Nat} (h : j < k) : bD l k i j = 0 := by
  have := anti_dup (det_anti (l i :: down l k)) [] j (down (fun i => i) k) [] (down_mem.2 ⟨j, h, rfl⟩)
  rw [List.append_nil] at this
  exact this
theorem con_comm (r : Row) (f : List Nat → Int) (cs : List Nat) : ∀ (x : List Nat) (g : Nat → List Nat → Int), con (fun j => con r (fun y => g j y) x) f cs = con r (fun y => con (fun j => g j y) f cs) x
  | [], g => con_far _ cs f (fun _ _ => rfl)
  | c :: x, g => by
    have h1 := con_comm r f cs x (fun j y => g j (c :: y))
    have e : (fun j => con r (fun y => g j y) (c :: x)) = fun j => r c * g j x + (-1) * con r (fun y => g j (c :: y)) x := funext fun j => by rw [con]; omega
    rw [e, con_row, con_row_mul, con_row_mul, h1, con]
    omega
theorem det_rowcol (rest : List Row) (cs : List Nat) : ∀ (R : List Row) (x : List Nat), (∀ r, r ∈ R → r ∈ rest) → det ((fun j => det R (j :: x)) :: rest) cs = 0
  | [], x, _ => con_far _ cs _ (fun _ _ => rfl)
  | r :: R, x, h => by
    have e : (fun j => det (r :: R) (j :: x)) = fun j => det R x * r j + (-1) * con r (fun y => det R (j :: y)) x := funext fun j => by
      show con r (det R) (j :: x) = _
      rw [con, Int.mul_comm]; omega
    show con (fun j => det (r :: R) (j :: x)) (det rest) cs = 0
    rw [e, con_row, con_row_mul, con_row_mul, con_comm r (det rest) cs x (fun j y => det R (j :: y))]
    have h1 : con r (det rest) cs = 0 := det_dup r rest cs (h r (by simp))
    have h2 : (fun y => con (fun j => det R (j :: y)) (det rest) cs) = fun _ => 0 := funext fun y => det_rowcol rest cs R y (fun s hs => h s (by simp [hs]))
    rw [h1, h2, con_zero]
    omega
/-- an entry's row is a multiple of the first row, and of others -/
theorem bD_row (l : Nat → Row) (k i : Nat) (rest : List Row) (cs : List Nat) (h : ∀ a, a < k → l a ∈ rest) : det (bD l k i :: rest) cs = bP l k * det (l i :: rest) cs := by
  have e : bD l k i = fun j => bP l k * l i j + (-1) * con (l i) (fun y => det (down l k) (j :: y)) (down (fun i => i) k) := funext fun j => by
    show con (l i) (det (down l k)) (j :: down (fun i => i) k) = _
    rw [con, Int.mul_comm]; show bP l k * l i j - _ = _; omega
  show con (bD l k i) (det rest) cs = _
  rw [e, con_row, con_row_mul, con_row_mul, con_comm (l i) (det rest) cs _ (fun j y => det (down l k) (j :: y))]
  have h2 : (fun y => con (fun j => det (down l k) (j :: y)) (det rest) cs) = fun _ => 0 := funext fun y => det_rowcol rest cs (down l k) y (fun s hs => by
    obtain ⟨a, ha, e⟩ := down_mem.1 hs
    rw [← e]; exact h a ha)
  rw [h2, con_zero]
  show bP l k * det (l i :: rest) cs + (-1) * 0 = _
  omega
/-- the exact quotient -/
theorem bD_step (l : Nat → Row) (k i j : Nat) (hp : bP l (k + 1) ≠ 0) : bD l k i j * bD l k k k - bD l k i k * bD l k k j = bP l k * bD l (k + 1) i j := by
  have hz : ∀ c, c ∈ down (fun i => i) (k + 1) → bP l (k + 1) * bD l k i c + (- bD l k i k) * bD l k k c = 0 := fun c hc => by
    obtain ⟨a, ha, e⟩ := down_mem.1 hc
    subst e
    by_cases e : a = k
    · subst e; rw [bP_succ]; grind
    · rw [bD_low l (show a < k by omega), bD_low l (show a < k by omega)]; omega
  have h1 := con_one (fun c => bP l (k + 1) * bD l k i c + (- bD l k i k) * bD l k k c) j (down (fun i => i) (k + 1)) (det (down l (k + 1))) hz
  rw [con_row, con_row_mul, con_row_mul] at h1
  have hm : ∀ a, a < k → l a ∈ down l (k + 1) := fun a ha => down_mem.2 ⟨a, by omega, rfl⟩
  have h2 : con (bD l k i) (det (down l (k + 1))) (j :: down (fun i => i) (k + 1)) = bP l k * bD l (k + 1) i j := bD_row l k i (down l (k + 1)) _ hm
  have h3 : con (bD l k k) (det (down l (k + 1))) (j :: down (fun i => i) (k + 1)) = bP l k * 0 := by
    have := bD_row l k k (down l (k + 1)) (j :: down (fun i => i) (k + 1)) hm
    rw [det_dup (l k) (down l (k + 1)) _ (down_mem.2 ⟨k, by omega, rfl⟩)] at this
    exact this
  have e1 : con (fun c => bD l k i c) (det (down l (k + 1))) (j :: down (fun i => i) (k + 1)) = bP l k * bD l (k + 1) i j := h2
  have e2 : con (fun c => bD l k k c) (det (down l (k + 1))) (j :: down (fun i => i) (k + 1)) = bP l k * 0 := h3
  rw [e1, e2] at h1
  have h4 : bP l (k + 1) * (bP l k * bD l (k + 1) i j) = (bP l (k + 1) * bD l k i j + (- bD l k i k) * bD l k k j) * bP l (k + 1) := by
    have : det (down l (k + 1)) (down (fun i => i) (k + 1)) = bP l (k + 1) := rfl
    rw [this] at h1
    omega
  rw [Int.mul_comm] at h4
  have h5 := Int.eq_of_mul_eq_mul_right hp h4
  rw [h5, bP_succ]
  grind
/-- without a pivot there is no determinant -/
theorem det_rows (l : Nat → Row) (k : Nat) (cs : List Nat) : ∀ (n : Nat), k ≤ n → ∃ q : Nat, det (down (fun i => bD l k (k + i)) (n - k) ++ down l k) cs = bP l k ^ q * det (down l n) cs := by
  intro n
  induction n generalizing cs with
  | zero => intro h; obtain rfl : k = 0 := by omega
            exact ⟨0, by simp [down]⟩
  | succ n ih =>
    intro h
    by_cases e : k = n + 1
    · subst e; exact ⟨0, by simp [down]⟩
    · have h1 : k ≤ n := by omega
      have hn : n + 1 - k = (n - k) + 1 := by omega
      have hq : ∃ q : Nat, ∀ cs, det (down (fun i => bD l k (k + i)) (n - k) ++ down l k) cs = bP l k ^ q * det (down l n) cs := by
        refine ⟨n - k, ?_⟩
        clear ih hn cs h e
        obtain ⟨d, rfl⟩ : ∃ d, n = k + d := ⟨n - k, by omega⟩
        rw [show k + d - k = d by omega]
        clear h1
        induction d with
        | zero => intro cs; simp [down]
        | succ d ih =>
          intro cs
          show det (bD l k (k + d) :: (down (fun i => bD l k (k + i)) d ++ down l k)) cs = _
          rw [bD_row l k (k + d) _ cs (fun a ha => List.mem_append_right _ (down_mem.2 ⟨a, ha, rfl⟩))]
          show bP l k * con (l (k + d)) (det (down (fun i => bD l k (k + i)) d ++ down l k)) cs = bP l k ^ (d + 1) * con (l (k + d)) (det (down l (k + d))) cs
          have e : det (down (fun i => bD l k (k + i)) d ++ down l k) = fun x => bP l k ^ d * det (down l (k + d)) x := funext ih
          rw [e, con_mul]
          have e2 : bP l k ^ (d + 1) = bP l k ^ d * bP l k := Int.pow_succ _ _
          rw [e2]; grind
      obtain ⟨q, hq⟩ := hq
      refine ⟨q + 1, ?_⟩
      rw [hn]
      show det (bD l k (k + (n - k)) :: (down (fun i => bD l k (k + i)) (n - k) ++ down l k)) cs = _
      rw [show k + (n - k) = n by omega, bD_row l k n _ cs (fun a ha => List.mem_append_right _ (down_mem.2 ⟨a, ha, rfl⟩))]
      show bP l k * con (l n) (det (down (fun i => bD l k (k + i)) (n - k) ++ down l k)) cs = bP l k ^ (q + 1) * con (l n) (det (down l n)) cs
      have e : det (down (fun i => bD l k (k + i)) (n - k) ++ down l k) = fun x => bP l k ^ q * det (down l n) x := funext hq
      rw [e, con_mul]
      have e2 : bP l k ^ (q + 1) = bP l k ^ q * bP l k := Int.pow_succ _ _
      rw [e2]; grind
theorem down_count (k : Nat) : ∀ n, (down (fun i => i) n).countP (fun c => decide (k < c)) = n - (k + 1)
  | 0 => by simp [down]
  | n + 1 => by
    rw [down, List.countP_cons, down_count k n]
    by_cases h : k < n
    · simp [h]; omega
    · simp [h]; omega
theorem bP_gone (l : Nat → Row) {k n : Nat} (hk : k < n) (hp : bP l k ≠ 0) (h : ∀ i, k ≤ i → i < n → bD l k i k = 0) : bP l n = 0 := by
  obtain ⟨q, h1⟩ := det_rows l k (down (fun i => i) n) n (by omega)
  have h2 : det (down (fun i => bD l k (k + i)) (n - k) ++ down l k) (down (fun i => i) n) = 0 := by
    refine det_few (fun c => decide (k < c)) _ _ _ (fun r hr c hc => ?_) (by rw [down_count, down_len]; omega)
    obtain ⟨i, hi, e⟩ := down_mem.1 hr
    subst e
    rw [decide_eq_false_iff_not] at hc
    by_cases e : c = k
    · subst e; exact h _ (by omega) (by omega)
    · exact bD_low l (by omega)
  rw [h2] at h1
  have h3 : bP l k ^ q ≠ 0 := Int.pow_ne_zero hp
  rcases Int.mul_eq_zero.1 h1.symm with h4 | h4
  · exact absurd h4 h3
  · exact h4
theorem sum_le {f : Nat → Int} {i : Nat} : ∀ n, (∀ a, a < n → a ≠ i → f a ≤ 0) → sumN n f ≤ if i < n then f i else 0
  | 0, _ => by simp [sumN]
  | n + 1, h => by
    have h1 := sum_le n (fun a ha hn => h a (by omega) hn)
    rw [sumN]
    by_cases e : n = i
    · subst e
      rw [if_neg (by omega)] at h1
      rw [if_pos (by omega)]; omega
    · have h2 := h n (by omega) e
      by_cases e2 : i < n
      · rw [if_pos e2] at h1; rw [if_pos (by omega)]; omega
      · rw [if_neg e2] at h1; rw [if_neg (by omega)]; omega
theorem sum_le2 {f : Nat → Int} {i j : Nat} (hij : i ≠ j) : ∀ n, (∀ a, a < n → a ≠ i → f a ≤ 0) → i < n → j < n → sumN n f ≤ f i + f j
  | 0, _, h, _ => by omega
  | n + 1, h, hi, hj => by
    rw [sumN]
    by_cases e : n = i
    · subst e
      have h1 := sum_le (f := f) (i := j) n (fun a ha hn => h a (by omega) (by omega))
      rw [if_pos (by omega)] at h1; omega
    · by_cases e2 : n = j
      · subst e2
        have h1 := sum_le (f := f) (i := i) n (fun a ha hn => h a (by omega) hn)
        rw [if_pos (by omega)] at h1; omega
      · have h1 := sum_le2 hij n (fun a ha hn => h a (by omega) hn) (by omega) (by omega)
        have h2 := h n (by omega) e
        omega
/-- a table that is even, has nothing above nought beside the diagonal, and no row below nought -/
def Lap (n : Nat) (l : Nat → Row) : Prop := ∀ i, i < n → 0 ≤ sumN n (l i) ∧ ∀ j, j < n → l i j = l j i ∧ (i ≠ j → l i j ≤ 0)
theorem row_facts {n i : Nat} {f : Nat → Int} (h0 : 0 ≤ sumN n f) (hi : i < n) (h : ∀ a, a < n → a ≠ i → f a ≤ 0) : 0 ≤ f i ∧ ∀ j, j < n → j ≠ i → f j ≤ 0 ∧ - f j ≤ f i := by
  have h1 := sum_le (f := f) (i := i) n h
  rw [if_pos hi] at h1
  refine ⟨by omega, fun j hj hn => ⟨h j hj hn, ?_⟩⟩
  have := sum_le2 (f := f) (i := i) (j := j) (by omega) n h hi hj
  omega
theorem lap_inv {n : Nat} {l : Nat → Row} (hl : Lap n l) : ∀ k, k ≤ n → (∀ a, a < k → bP l (a + 1) ≠ 0) → 0 < bP l k ∧ ∀ i, k ≤ i → i < n → 0 ≤ sumN n (bD l k i) ∧ bD l k i i ≤ bP l k * l i i ∧ ∀ j, k ≤ j → j < n → bD l k i j = bD l k j i ∧ (i ≠ j → bD l k i j ≤ 0)
  | 0, _, _ => by
    refine ⟨by rw [bP_zero]; omega, fun i _ hi => ?_⟩
    obtain ⟨a, b⟩ := hl i hi
    have e : bD l 0 i = l i := funext fun j => bD_zero l i j
    refine ⟨by rw [e]; exact a, by rw [bD_zero, bP_zero]; omega, fun j _ hj => ?_⟩
    rw [bD_zero, bD_zero]
    exact b j hj
  | k + 1, hk, hp => by
    obtain ⟨p0, h⟩ := lap_inv hl k (by omega) (fun a ha => hp a (by omega))
    have hp1 := hp k (by omega)
    obtain ⟨ks, kd, ke⟩ := h k (by omega) (by omega)
    have hoff : ∀ i, k ≤ i → i < n → ∀ a, a < n → a ≠ i → bD l k i a ≤ 0 := fun i h1 h2 a ha hn => by
      by_cases e : a < k
      · rw [bD_low l e]; exact Int.le_refl _
      · exact ((h i h1 h2).2.2 a (by omega) ha).2 (by omega)
    obtain ⟨k0, k1⟩ := row_facts ks (show k < n by omega) (hoff k (by omega) (by omega))
    have hkk : 0 < bD l k k k := by rw [bP_succ] at hp1; omega
    refine ⟨by rw [bP_succ]; exact hkk, fun i h1 h2 => ?_⟩
    obtain ⟨is, id, ie⟩ := h i (by omega) h2
    have hst := fun j => bD_step l k i j hp1
    have hik : bD l k i k ≤ 0 := hoff i (by omega) h2 k (by omega) (by omega)
    refine ⟨?_, ?_, fun j h3 h4 => ⟨?_, fun hne => ?_⟩⟩
    · have e : sumN n (fun j => bD l k i j * bD l k k k - bD l k k j * bD l k i k) = sumN n (bD l k i) * bD l k k k - sumN n (bD l k k) * bD l k i k := by
        rw [sumN_sub, sumN_mul, sumN_mul]
      have e2 : (fun j => bD l k i j * bD l k k k - bD l k k j * bD l k i k) = fun j => bD l (k + 1) i j * bP l k := funext fun j => by
        rw [Int.mul_comm (bD l k k j), hst j, Int.mul_comm]
      rw [e2, sumN_mul] at e
      have a1 : 0 ≤ sumN n (bD l k i) * bD l k k k := Int.mul_nonneg is (by omega)
      have a2 : sumN n (bD l k k) * bD l k i k ≤ 0 := Int.mul_nonpos_of_nonneg_of_nonpos ks hik
      have a3 : 0 ≤ sumN n (bD l (k + 1) i) * bP l k := by rw [e]; omega
      exact Int.nonneg_of_mul_nonneg_left a3 p0
    · have a1 := hst i
      have a2 : bD l k k i = bD l k i k := (ke i (by omega) h2).1
      rw [a2] at a1
      have a3 : 0 ≤ bD l k i k * bD l k i k := by
        have := Int.mul_nonneg (show 0 ≤ - bD l k i k by omega) (show 0 ≤ - bD l k i k by omega)
        rw [Int.neg_mul_neg] at this; exact this
      have a4 : bD l k i i * bD l k k k ≤ (bP l k * l i i) * bD l k k k := Int.mul_le_mul_of_nonneg_right id (by omega)
      have a5 : bP l k * bD l (k + 1) i i ≤ bP l k * (bP l (k + 1) * l i i) := by
        rw [← a1, bP_succ]
        have : bP l k * (bD l k k k * l i i) = (bP l k * l i i) * bD l k k k := by grind
        rw [this]; omega
      exact Int.le_of_mul_le_mul_left a5 p0
    · have a1 := hst j
      have a2 := bD_step l k j i hp1
      have s1 := (ie j (by omega) h4).1
      have s2 := (ke i (by omega) h2).1
      have s3 := (ke j (by omega) h4).1
      rw [← s1, s2, ← s3] at a2
      have : bP l k * bD l (k + 1) i j = bP l k * bD l (k + 1) j i := by rw [← a1, ← a2]; grind
      exact Int.eq_of_mul_eq_mul_left (by omega) this
    · have a1 := hst j
      have a2 : bD l k i j ≤ 0 := (ie j (by omega) h4).2 hne
      have a3 : bD l k k j ≤ 0 := hoff k (by omega) (by omega) j h4 (by omega)
      have a4 : bD l k i j * bD l k k k ≤ 0 := by rw [Int.mul_comm]; exact Int.mul_nonpos_of_nonneg_of_nonpos (by omega) a2
      have a5 : 0 ≤ bD l k i k * bD l k k j := by
        have := Int.mul_nonneg (show 0 ≤ - bD l k i k by omega) (show 0 ≤ - bD l k k j by omega)
        rw [Int.neg_mul_neg] at this; exact this
      have a6 : bP l k * bD l (k + 1) i j ≤ bP l k * 0 := by rw [← a1, Int.mul_zero]; omega
      exact Int.le_of_mul_le_mul_left a6 p0
/-- a pivot that is nought: so is its column, and the determinant -/
theorem lap_gone {n k : Nat} {l : Nat → Row} (hl : Lap n l) (hk : k < n) (hp : ∀ a, a < k → bP l (a + 1) ≠ 0) (h0 : bD l k k k = 0) : (∀ i, k ≤ i → i < n → bD l k i k = 0) ∧ bP l n = 0 := by
  obtain ⟨p0, h⟩ := lap_inv hl k (by omega) hp
  obtain ⟨ks, _, ke⟩ := h k (by omega) hk
  have hoff : ∀ a, a < n → a ≠ k → bD l k k a ≤ 0 := fun a ha hn => by
    by_cases e : a < k
    · rw [bD_low l e]; exact Int.le_refl _
    · exact (ke a (by omega) ha).2 (by omega)
  obtain ⟨_, k1⟩ := row_facts ks hk hoff
  have hc : ∀ i, k ≤ i → i < n → bD l k i k = 0 := fun i h1 h2 => by
    by_cases e : i = k
    · subst e; exact h0
    · obtain ⟨a, b⟩ := k1 i h2 e
      rw [← (ke i h1 h2).1]; omega
  exact ⟨hc, bP_gone l hk (by omega) hc⟩
/-- how great the entries are -/
theorem pow_wt : ∀ x : Nat, x ≤ 48 → x ≤ 2 ^ (4 + x / 16) := by decide +kernel
def wtN : (Nat → Int) → Nat → Nat
  | _, 0 => 0
  | d, n + 1 => wtN d n + (4 + (d n).toNat / 16)
theorem lap_p {n : Nat} {l : Nat → Row} (hl : Lap n l) (hd : ∀ i, i < n → 0 ≤ l i i ∧ l i i ≤ 48) : ∀ k, k ≤ n → (∀ a, a < k → bP l (a + 1) ≠ 0) → bP l k ≤ 2 ^ wtN (fun i => l i i) k
  | 0, _, _ => by rw [bP_zero]; exact Int.le_refl _
  | k + 1, hk, hp => by
    have ih := lap_p hl hd k (by omega) (fun a ha => hp a (by omega))
    obtain ⟨p0, h⟩ := lap_inv hl k (by omega) (fun a ha => hp a (by omega))
    obtain ⟨_, h2, _⟩ := h k (by omega) (by omega)
    obtain ⟨d1, d2⟩ := hd k (by omega)
    have h3 := pow_wt (l k k).toNat (by omega)
    have h4 : l k k ≤ 2 ^ (4 + (l k k).toNat / 16) := by
      have : ((l k k).toNat : Int) ≤ ((2 ^ (4 + (l k k).toNat / 16) : Nat) : Int) := by exact_mod_cast h3
      rw [Int.toNat_of_nonneg d1] at this
      exact_mod_cast this
    rw [bP_succ, wtN]
    show bD l k k k ≤ 2 ^ (wtN (fun i => l i i) k + (4 + (l k k).toNat / 16))
    rw [Int.pow_add]
    refine Int.le_trans h2 ?_
    exact Int.mul_le_mul ih h4 d1 (Int.pow_nonneg (by omega))
theorem wtN_le (d : Nat → Int) : ∀ k, (∀ i, i < k → 0 ≤ d i) → 16 * wtN d k ≤ 64 * k + (sumN k d).toNat
  | 0, _ => by simp [wtN]
  | k + 1, h => by
    have ih := wtN_le d k (fun i hi => h i (by omega))
    have h1 := h k (by omega)
    have h2 : 0 ≤ sumN k d := by
      clear ih h1
      induction k with
      | zero => simp [sumN]
      | succ k ih =>
        have := ih (fun i hi => h i (by omega))
        have := h k (by omega)
        rw [sumN]; omega
    rw [wtN, sumN]
    omega
theorem sumN_part {d : Nat → Int} {k i : Nat} (hk : k ≤ i) : ∀ n, i < n → (∀ a, a < n → 0 ≤ d a) → sumN k d + d i ≤ sumN n d
  | 0, h, _ => by omega
  | n + 1, h, hd => by
    rw [sumN]
    by_cases e : i = n
    · subst e
      have : ∀ m, k ≤ m → m ≤ i → sumN k d ≤ sumN m d := by
        intro m h1 h2
        induction m with
        | zero => obtain rfl : k = 0 := by omega
                  exact Int.le_refl _
        | succ m ih =>
          by_cases e : k = m + 1
          · subst e; exact Int.le_refl _
          · have := ih (by omega) (by omega)
            have := hd m (by omega)
            rw [sumN]; omega
      have := this i hk (Nat.le_refl _)
      omega
    · have := sumN_part hk n (by omega) (fun a ha => hd a (by omega))
      have := hd n (by omega)
      omega
theorem lap_big {n : Nat} {l : Nat → Row} (hl : Lap n l) (hd : ∀ i, i < n → 0 ≤ l i i ∧ l i i ≤ 48) (hs : sumN n (fun i => l i i) ≤ 96) (k : Nat) (hp : ∀ a, a < k → bP l (a + 1) ≠ 0) (i j : Nat) (hi : k ≤ i) (hi2 : i < n) (hj : j < n) : bD l k i j ≤ 2 ^ (4 * k + 10) ∧ - bD l k i j ≤ 2 ^ (4 * k + 10) := by
  obtain ⟨p0, h⟩ := lap_inv hl k (by omega) hp
  obtain ⟨h1, h2, h3⟩ := h i hi hi2
  have hoff : ∀ a, a < n → a ≠ i → bD l k i a ≤ 0 := fun a ha hn => by
    by_cases e : a < k
    · rw [bD_low l e]; exact Int.le_refl _
    · exact (h3 a (by omega) ha).2 (by omega)
  obtain ⟨f1, f2⟩ := row_facts h1 hi2 hoff
  obtain ⟨d1, d2⟩ := hd i hi2
  have hP := lap_p hl hd k (by omega) hp
  have hw := wtN_le (fun i => l i i) k (fun a ha => (hd a (by omega)).1)
  have hsum := sumN_part (d := fun i => l i i) hi n hi2 (fun a ha => (hd a ha).1)
  have hsk : 0 ≤ sumN k (fun i => l i i) := by
    have := sumN_part (d := fun i => l i i) (k := 0) (i := i) (by omega) (i + 1) (by omega) (fun a ha => (hd a (by omega)).1)
    clear hw hsum
    have : ∀ m, m ≤ n → 0 ≤ sumN m (fun i => l i i) := by
      intro m hm
      induction m with
      | zero => exact Int.le_refl _
      | succ m ih =>
        have := ih (by omega)
        have := (hd m (by omega)).1
        rw [sumN]; omega
    exact this k (by omega)
  have h4 : l i i ≤ 2 ^ (4 + (l i i).toNat / 16) := by
    have : ((l i i).toNat : Int) ≤ ((2 ^ (4 + (l i i).toNat / 16) : Nat) : Int) := by exact_mod_cast pow_wt (l i i).toNat (by omega)
    rw [Int.toNat_of_nonneg d1] at this
    exact_mod_cast this
  have h5 : bD l k i i ≤ 2 ^ (wtN (fun i => l i i) k + (4 + (l i i).toNat / 16)) := by
    rw [Int.pow_add]
    refine Int.le_trans h2 ?_
    exact Int.mul_le_mul hP h4 d1 (Int.pow_nonneg (by omega))
  have h6 : bD l k i i ≤ 2 ^ (4 * k + 10) := by
    refine Int.le_trans h5 ?_
    have e : wtN (fun i => l i i) k + (4 + (l i i).toNat / 16) ≤ 4 * k + 10 := by
      have hs2 : sumN k (fun i => l i i) + l i i ≤ 96 := Int.le_trans hsum hs
      omega
    have := Nat.pow_le_pow_right (n := 2) (by omega) e
    exact_mod_cast this
  have hpos : (0 : Int) ≤ 2 ^ (4 * k + 10) := Int.pow_nonneg (by omega)
  by_cases e : j = i
  · subst e; exact ⟨h6, by omega⟩
  · obtain ⟨a, b⟩ := f2 j hj e
    exact ⟨by omega, by omega⟩
end DetP
end Go.Proofs.YtigaopfhjimpmaaDoor

namespace Go.Proofs.YtigaopfhjimpmaaDoor
open Go.ChangeShapes Go.WideShapes Go.ChangeAt Go.RowKit

theorem own_godebug : ownKnob Tryd.prog.godebug = none := by kernel_rfl
theorem laid_out : laidOutB Tryd.prog = true := by kernel_rfl

def FitI (zs : List Int) : Prop := ∀ n ∈ zs, (Lit.int .i64 n).wf = true

theorem block_of_cell {w : World} {ad : Addr} {v : Value} (h : w.cell? ad = some v) : ad.block < w.heap.size := by
  rcases Nat.lt_or_ge ad.block w.heap.size with hlt | hge
  · exact hlt
  · simp [World.cell?, Array.getElem?_eq_none hge] at h

theorem arg_ints {H : Type} {enc : TypeId × Value → H} {P : Program} {W : World} {t e : TypeId} {v : Value} {d : DataW H} {p : List MemPlace} {r : Reach} {b0 : Nat}
    (ht : P.underlying t = some (.slice e)) (he : P.underlying e = some (.int .i64)) (hc : P.cellsOf e = 1)
    (hv : Value.okWide P W r b0 t v) (h : DataW.Trod enc P W 0 (fun _ => true) true t v d p) :
    ∃ (a : Option Addr) (len cap : Nat) (zs : List Int), v = .slice a len cap ∧ IntsAt W a len zs ∧ FitI zs ∧ len ≤ maxLen := by
  obtain ⟨a0, len0, cap0, rfl⟩ := okWide_slice ht hv
  obtain ⟨fuel, hf⟩ := h
  rcases open_ints ht he hc hf with ⟨hcs, _⟩ | ⟨x, l, c, zs, hcs, _, hl, hm, hz, _, hcell, hwz⟩
  · simp [Value.cells] at hcs
    obtain ⟨rfl, rfl, rfl⟩ := hcs
    exact ⟨_, _, _, [], rfl, .nil_, (fun n hn => nomatch hn), Nat.zero_le _⟩
  · simp [Value.cells] at hcs
    obtain ⟨rfl, rfl, rfl⟩ := hcs
    simp at hz
    have hlen : (zs.take len0).length = len0 := by simp; omega
    refine ⟨_, _, _, zs.take len0, rfl, ⟨hlen, fun hn => ?_⟩, fun n hn => hwz n (List.mem_of_mem_take hn), by omega⟩
    refine ⟨x, rfl, ?_, fun j hj => ?_⟩
    · have := block_of_cell (hcell 0 (by omega))
      rwa [block_add] at this
    · rw [hcell j (by omega)]
      simp [List.getD, List.getElem?_take, hj]

theorem fit_bd {n : Int} (h : (Lit.int .i64 n).wf = true) : -9223372036854775808 ≤ n ∧ n ≤ 9223372036854775807 := by
  have := h
  simp [Lit.wf, IntKind.min, IntKind.max, IntKind.signed, IntKind.bits] at this
  omega
end Go.Proofs.YtigaopfhjimpmaaDoor

namespace Go.Proofs.YtigaopfhjimpmaaDoor
open Go.RowKit

/-- 'make' of a slice of values of one cell each -/
theorem wp_make_valsV {P : Program} (w : World) {ops : Array Oper} {rest : List Oper} {o : Oper} {a : Act} {Q : Exit → Act → World → Prop}
    (hg : o.guard = none) (l c : Operand) (t : TypeId) (hop : o.op = Op.makeSlice t l c) (z : Value) (b : Nat) (hzc : z.cells = #[z]) (hb : b ≤ 8)
    (T : TypeId) (h1 : P.underlying t = some (.slice T)) (hinfo : (P.info? T).map (fun i => (i.zero, i.size, i.bytes)) = some (some z, 1, b))
    (kl kc : IntKind) (L C : Int) (n : Nat) (hl : a.eval l = .int kl L) (hc : a.eval c = .int kc C) (hL : L = (n : Int)) (hC : C = (n : Int)) (hn : n ≤ 1048576)
    (hK : ∀ (w' : World) (g : Nat), OwnC T w.heap.size 1 w' (some ⟨g, 0, none⟩) n n (List.replicate n z) → Below w.heap.size w w' → wpList P ops Q rest (a.put o.dst (.slice (some ⟨g, 0, none⟩) n n)) w') :
    wpList P ops Q (o :: rest) a w := by
  obtain ⟨i0, hi, hz0, hz1, hz2⟩ := info_parts hinfo
  have hmul : n * b ≤ 1048576 * 8 := Nat.mul_le_mul hn hb
  have hmul2 : b * n ≤ 8 * 1048576 := Nat.mul_le_mul hb hn
  refine wpList_make_full w hg l c t hop w.heap.size T i0 _ 1 h1 hi hz0 hz1 kl kc L C n hl hc hL hC (by rw [hz2]; omega) (by simp [maxLen]; omega) (Nat.le_refl _) ?_
  intro w' h2 h3
  refine hK w' w.heap.size ?_ (Upd.ext ((Upd.refl _ _).grown h3 (by intro k hk; cases hk)))
  have e : (madeCells z.cells (n * 1)).toList = List.replicate n z := by
    rw [hzc]
    show (madeCells #[z] (n * 1)).toList = _
    rw [toList_madeCells_one]; simp
  rw [← e]
  exact h2
theorem infoBV : (Tryd.prog.info? 4).map (fun i => (i.zero, i.size, i.bytes)) = some (some (.bool false), 1, 1) := by kernel_rfl
end Go.Proofs.YtigaopfhjimpmaaDoor
