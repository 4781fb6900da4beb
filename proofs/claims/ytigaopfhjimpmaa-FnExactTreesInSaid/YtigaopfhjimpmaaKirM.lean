/- Tables of rows in memory: blocks whose cells are told by a function. -/
import Derived.Test.YtigaopfhjimpmaaKirP
import Derived.Test.YtigaopfhjimpmaaMakeV
namespace Go.Proofs.Ytigaopfhjimpmaa
open Go.RowKit

/-- block g: n cells of type T -/
def VB (w : World) (g T n : Nat) (v : Nat → Value) : Prop := Blk w g T ((List.range n).map v).toArray
section vb
variable {w w' : World} {g T n : Nat} {v : Nat → Value}
theorem VB.lt (h : VB w g T n v) : g < w.heap.size := Blk.lt h
theorem VB.cell (h : VB w g T n v) {j : Nat} (hj : j < n) : w.cell? ⟨g, j, none⟩ = some (v j) := by
  rw [Blk.cell h j]
  simp [hj]
theorem VB.free (h : VB w g T n v) (j : Nat) : w.frozen? ⟨g, j, none⟩ = false := Blk.free h j
theorem VB.drew (h : VB w g T n v) : VB w.drew g T n v := h
theorem VB.alloc (h : VB w g T n v) (o : Obj) : VB (w.alloc o) g T n v := Blk.alloc h o
theorem VB.ext (h : VB w g T n v) (hb : Below w.heap.size w w') : VB w' g T n v := Blk.ext h hb
theorem VB.far (h : VB w g T n v) {p : Addr} (hp : g ≠ p.block) (u : Value) : VB (w.setCell p u) g T n v := Blk.far h hp u
theorem VB.set (h : VB w g T n v) (j : Nat) (u : Value) : VB (w.setCell ⟨g, j, none⟩ u) g T n (fun x => if x = j then u else v x) := by
  have h2 := Blk.set h j u
  unfold VB
  have e : ((List.range n).map v).toArray.setIfInBounds j u = ((List.range n).map fun x => if x = j then u else v x).toArray := by
    apply Array.ext
    · simp
    · intro i h1 h2
      simp only [Array.getElem_setIfInBounds, List.getElem_toArray, List.getElem_map, List.getElem_range]
      by_cases e : j = i
      · simp [e]
      · have : ¬ i = j := fun e2 => e e2.symm
        simp [e, this]
  rw [← e]; exact h2
theorem VB.congr (h : VB w g T n v) {u : Nat → Value} (e : ∀ j, j < n → v j = u j) : VB w g T n u := by
  unfold VB at h ⊢
  have : (List.range n).map v = (List.range n).map u := List.map_congr_left fun x hx => e x (List.mem_range.1 hx)
  rw [← this]; exact h
end vb
theorem OwnC.vb {T base : Nat} {w : World} {g n : Nat} {vs : List Value} (h : OwnC T base 1 w (some ⟨g, 0, none⟩) n n vs) : Blk w g T vs.toArray := by
  rcases h.2 with ⟨h1, _⟩ | ⟨g', cap, cur, h1, _, h3, _, _, h6, h7⟩
  · injection h1 with h1; cases h1
  · injection h1 with h1 _ h2
    injection h1 with h1; injection h1 with h1; subst h1; subst h2
    rw [List.take_of_length_le (by simp [h6])] at h7
    unfold Blk
    rw [h3, ← h7]
theorem rep_range (n : Nat) (z : Value) : List.replicate n z = (List.range n).map fun _ => z := by
  apply List.ext_getElem (by simp)
  intro i h1 h2; simp
/-- a table of rows: R rows of n cells each, of which the first ln are in sight -/
structure RowsAt (w : World) (TS T gT : Nat) (g : Nat → Nat) (R n : Nat) (ln : Nat → Nat) (f : Nat → Nat → Int) : Prop where
  top : VB w gT TS R (fun i => .slice (some ⟨g i, 0, none⟩) (ln i) n)
  row : ∀ i, i < R → VB w (g i) T n (fun j => .int .i64 (f i j))
  ne : ∀ i, i < R → g i ≠ gT
  inj : ∀ i j, i < R → j < R → g i = g j → i = j
section rows
variable {w w' : World} {TS T gT R n : Nat} {g ln : Nat → Nat} {f : Nat → Nat → Int}
theorem RowsAt.drew (h : RowsAt w TS T gT g R n ln f) : RowsAt w.drew TS T gT g R n ln f := ⟨h.top, h.row, h.ne, h.inj⟩
theorem RowsAt.alloc (h : RowsAt w TS T gT g R n ln f) (o : Obj) : RowsAt (w.alloc o) TS T gT g R n ln f := ⟨h.top.alloc o, fun i hi => (h.row i hi).alloc o, h.ne, h.inj⟩
theorem RowsAt.ext (h : RowsAt w TS T gT g R n ln f) (hb : Below w.heap.size w w') : RowsAt w' TS T gT g R n ln f := ⟨h.top.ext hb, fun i hi => (h.row i hi).ext hb, h.ne, h.inj⟩
theorem RowsAt.set (h : RowsAt w TS T gT g R n ln f) {i : Nat} (hi : i < R) (j : Nat) (x : Int) : RowsAt (w.setCell ⟨g i, j, none⟩ (.int .i64 x)) TS T gT g R n ln (setF f i j x) := by
  refine ⟨h.top.far (fun e => h.ne i hi e.symm) _, fun a ha => ?_, h.ne, h.inj⟩
  by_cases e : a = i
  · subst e
    refine ((h.row a ha).set j (.int .i64 x)).congr fun b _ => ?_
    unfold setF
    by_cases e2 : b = j
    · rw [if_pos e2, if_pos ⟨rfl, e2⟩]
    · rw [if_neg e2, if_neg (fun hh => e2 hh.2)]
  · refine ((h.row a ha).far (p := ⟨g i, j, none⟩) (fun e2 => e (h.inj a i ha hi e2)) _).congr fun b _ => ?_
    unfold setF
    rw [if_neg (fun hh => e hh.1)]
theorem RowsAt.cut (h : RowsAt w TS T gT g R n ln f) {i : Nat} (l : Nat) : RowsAt (w.setCell ⟨gT, i, none⟩ (.slice (some ⟨g i, 0, none⟩) l n)) TS T gT g R n (fun x => if x = i then l else ln x) f := by
  refine ⟨(h.top.set i _).congr fun b hb => ?_, fun a ha => (h.row a ha).far (p := ⟨gT, i, none⟩) (h.ne a ha) _, h.ne, h.inj⟩
  by_cases e : b = i
  · subst e; simp
  · simp [e]
theorem RowsAt.line (h : RowsAt w TS T gT g R n ln f) {i : Nat} (hi : i < R) : w.cell? ⟨gT, i, none⟩ = some (.slice (some ⟨g i, 0, none⟩) (ln i) n) := h.top.cell hi
theorem RowsAt.cell (h : RowsAt w TS T gT g R n ln f) {i j : Nat} (hi : i < R) (hj : j < n) : w.cell? ⟨g i, j, none⟩ = some (.int .i64 (f i j)) := (h.row i hi).cell hj
theorem RowsAt.free (h : RowsAt w TS T gT g R n ln f) {i : Nat} (hi : i < R) (j : Nat) : w.frozen? ⟨g i, j, none⟩ = false := (h.row i hi).free j
theorem RowsAt.freeT (h : RowsAt w TS T gT g R n ln f) (j : Nat) : w.frozen? ⟨gT, j, none⟩ = false := h.top.free j
theorem RowsAt.congr (h : RowsAt w TS T gT g R n ln f) {f' : Nat → Nat → Int} (e : ∀ a b, a < R → b < n → f a b = f' a b) : RowsAt w TS T gT g R n ln f' :=
  ⟨h.top, fun i hi => (h.row i hi).congr fun b hb => by rw [e i b hi hb], h.ne, h.inj⟩
end rows
theorem wp_make_valsW {P : Program} (w : World) {ops : Array Oper} {rest : List Oper} {o : Oper} {a : Act} {Q : Exit → Act → World → Prop}
    (hg : o.guard = none) (l c : Operand) (t : TypeId) (hop : o.op = Op.makeSlice t l c) (z : Value) (b : Nat) (hzc : z.cells = #[z]) (hb : b ≤ 64)
    (T : TypeId) (h1 : P.underlying t = some (.slice T)) (hinfo : (P.info? T).map (fun i => (i.zero, i.size, i.bytes)) = some (some z, 1, b))
    (kl kc : IntKind) (L C : Int) (n : Nat) (hl : a.eval l = .int kl L) (hc : a.eval c = .int kc C) (hL : L = (n : Int)) (hC : C = (n : Int)) (hn : n ≤ 1048576)
    (hK : ∀ (w' : World) (g : Nat), OwnC T w.heap.size 1 w' (some ⟨g, 0, none⟩) n n (List.replicate n z) → Below w.heap.size w w' → wpList P ops Q rest (a.put o.dst (.slice (some ⟨g, 0, none⟩) n n)) w') :
    wpList P ops Q (o :: rest) a w := by
  obtain ⟨i0, hi, hz0, hz1, hz2⟩ := info_parts hinfo
  have hmul : n * b ≤ 1048576 * 64 := Nat.mul_le_mul hn hb
  have hmul2 : b * n ≤ 64 * 1048576 := Nat.mul_le_mul hb hn
  refine wpList_make_full w hg l c t hop w.heap.size T i0 _ 1 h1 hi hz0 hz1 kl kc L C n hl hc hL hC (by rw [hz2]; omega) (by simp [maxLen]; omega) (Nat.le_refl _) ?_
  intro w' h2 h3
  refine hK w' w.heap.size ?_ (Upd.ext ((Upd.refl _ _).grown h3 (by intro k hk; cases hk)))
  have e : (madeCells z.cells (n * 1)).toList = List.replicate n z := by
    rw [hzc]
    show (madeCells #[z] (n * 1)).toList = _
    rw [toList_madeCells_one]; simp
  rw [← e]
  exact h2
end Go.Proofs.Ytigaopfhjimpmaa
