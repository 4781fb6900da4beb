/- Slices of floats in memory (written by gen_flt.py off the words for ints). -/
import Derived.Test.YtnjipckpkcandaaDoorFlt
namespace Go.Proofs.YtnjipckpkcandaaDoor
open Go.RowKit

theorem flts_oneCell (k : FloatKind) (bs : List Nat) : ∀ u, u ∈ bs.map (Value.float k) → u.oneCell' = true := by
  intro u hu
  obtain ⟨b, _, rfl⟩ := List.mem_map.1 hu
  rfl
/-- A list of ints is read through a slice with this address and length. -/
def FltsAt (w : World) (A : Option Addr) (n : Nat) (zs : List Nat) : Prop :=
  zs.length = n ∧ (0 < n → ∃ ad : Addr, A = some ad ∧ ad.block < w.heap.size ∧ ∀ j, j < n → w.cell? (ad.add j) = some (.float .f32 (zs.getD j 0)))

/-- The call owns the slice: its cells lie in one of its own blocks from 'base' on, of element type T. -/
def OwnF (T base : Nat) (w : World) (A : Option Addr) (n c : Nat) (zs : List Nat) : Prop :=
  w.ownsRow base T 1 (.slice A n c) n (zs.map (Value.float .f32))

section ints
variable {w w' : World} {A : Option Addr} {n c : Nat} {zs : List Nat} {S : Nat → Prop} {T base : Nat}
theorem FltsAt.len (h : FltsAt w A n zs) : zs.length = n := h.1
theorem FltsAt.at_ (h : FltsAt w A n zs) {k : Nat} (hk : k < n) :
    ∃ ad, A = some ad ∧ ad.block < w.heap.size ∧ w.cell? (ad.add k) = some (.float .f32 (zs.getD k 0)) := by
  obtain ⟨ad, h1, h2, h3⟩ := h.2 (by omega)
  exact ⟨ad, h1, h2, h3 k hk⟩
theorem FltsAt.nil_ : FltsAt w none 0 [] := ⟨rfl, fun h => absurd h (by omega)⟩
theorem FltsAt.keep (h : FltsAt w A n zs) (hs : w.heap.size ≤ w'.heap.size) (hk : ∀ ad, A = some ad → ad.block < w.heap.size → w'.heap[ad.block]? = w.heap[ad.block]?) : FltsAt w' A n zs := by
  refine ⟨h.1, fun hn => ?_⟩
  obtain ⟨ad, h1, h2, h3⟩ := h.2 hn
  refine ⟨ad, h1, by omega, fun j hj => ?_⟩
  rw [← h3 j hj]
  exact World.cell?_of_block (by rw [block_add]; exact hk ad h1 h2)
theorem FltsAt.below (h : FltsAt w A n zs) (hb : Below w.heap.size w w') : FltsAt w' A n zs := h.keep hb.size fun ad _ h2 => hb.block _ h2
theorem FltsAt.upd (h : FltsAt w A n zs) (hb : Upd S w w') (hS : ∀ ad, A = some ad → ¬ S ad.block) : FltsAt w' A n zs := h.keep hb.size fun ad h1 h2 => hb.block _ h2 (hS ad h1)
theorem FltsAt.alloc (h : FltsAt w A n zs) (o : Obj) : FltsAt (w.alloc o) A n zs := h.keep (by simp) fun ad _ h2 => Below.heap_alloc w o _ h2
theorem FltsAt.drew (h : FltsAt w A n zs) : FltsAt w.drew A n zs := h
theorem FltsAt.drewN (h : FltsAt w A n zs) (m : Nat) : FltsAt (w.drewN m) A n zs := h

theorem OwnF.len (h : OwnF T base w A n c zs) : zs.length = n := by simpa using h.1
theorem OwnF.nil_ (T base : Nat) (w : World) : OwnF T base w none 0 0 [] := World.ownsRow_nil w base T 1
theorem OwnF.form (h : OwnF T base w A n c zs) : (A = none ∧ n = 0 ∧ c = 0 ∧ zs = []) ∨ ∃ g, A = some ⟨g, 0, none⟩ ∧ base ≤ g ∧ g < w.heap.size ∧ n ≤ c ∧ c ≤ maxLen := by
  have hl := h.len
  rcases h.2 with ⟨h1, h2⟩ | ⟨g, cap, cur, h1, h2, h3, h4, h5, _⟩
  · injection h1 with e1 e2 e3
    exact .inl ⟨e1, e2, e3, List.eq_nil_of_length_eq_zero (by omega)⟩
  · injection h1 with e1 e2 e3
    subst e3
    exact .inr ⟨g, e1, h2, lt_of_block h3, h4, h5⟩
theorem OwnF.le (h : OwnF T base w A n c zs) : n ≤ maxLen := by
  rcases h.form with ⟨_, h2, _⟩ | ⟨_, _, _, _, h1, h2⟩
  · subst h2; exact Nat.zero_le _
  · exact Nat.le_trans h1 h2
theorem OwnF.pos (h : OwnF T base w A n c zs) (hn : 0 < n) : ∃ g, A = some ⟨g, 0, none⟩ ∧ base ≤ g ∧ g < w.heap.size ∧ n ≤ c ∧ c ≤ maxLen := by
  rcases h.form with ⟨_, h2, _⟩ | h1
  · omega
  · exact h1
theorem OwnF.lt {ad : Addr} (h : OwnF T base w A n c zs) (hA : A = some ad) : base ≤ ad.block ∧ ad.block < w.heap.size := by
  rcases h.form with ⟨h1, _⟩ | ⟨g, h1, h2, h3, _⟩
  · rw [h1] at hA; cases hA
  · rw [h1] at hA; injection hA with hA; subst hA; exact ⟨h2, h3⟩
theorem OwnF.flts (h : OwnF T base w A n c zs) : FltsAt w A n zs := by
  refine ⟨h.len, fun hn => ?_⟩
  obtain ⟨g, hA, _, hlt, _⟩ := h.pos hn
  subst hA
  refine ⟨_, rfl, hlt, fun j hj => ?_⟩
  have hl := h.len
  exact World.ownsRow.cells h (g := g) rfl j _ (by rw [List.getElem?_map, List.getElem?_eq_getElem (by omega)]; simp [List.getD, List.getElem?_eq_getElem (show j < zs.length by omega)])
theorem OwnF.cell {g : Nat} (h : OwnF T base w (some ⟨g, 0, none⟩) n c zs) {j : Nat} (hj : j < n) : w.cell? ⟨g, j, none⟩ = some (.float .f32 (zs.getD j 0)) := by
  have hl := h.len
  rw [World.ownsRow.cellAt h j (by omega), List.getElem?_map, List.getElem?_eq_getElem (by omega)]
  simp [List.getD, List.getElem?_eq_getElem (show j < zs.length by omega)]
theorem OwnF.free {g : Nat} (h : OwnF T base w (some ⟨g, 0, none⟩) n c zs) (j : Nat) : w.frozen? ⟨g, j, none⟩ = false := World.ownsRow.frozenAt h j
theorem OwnF.keep (h : OwnF T base w A n c zs) (hk : ∀ ad, A = some ad → ad.block < w.heap.size → w'.heap[ad.block]? = w.heap[ad.block]?) : OwnF T base w' A n c zs := by
  refine ⟨h.1, ?_⟩
  rcases h.2 with h2 | ⟨g, cap, cur, h1, h2, h3, h4⟩
  · exact .inl h2
  · refine .inr ⟨g, cap, cur, h1, h2, ?_, h4⟩
    injection h1 with e1
    exact (hk _ e1 (lt_of_block h3)).trans h3
theorem OwnF.below (h : OwnF T base w A n c zs) (hb : Below w.heap.size w w') : OwnF T base w' A n c zs := h.keep fun ad _ h2 => hb.block _ h2
theorem OwnF.upd (h : OwnF T base w A n c zs) (hb : Upd S w w') (hS : ∀ ad, A = some ad → ¬ S ad.block) : OwnF T base w' A n c zs := h.keep fun ad h1 h2 => hb.block _ h2 (hS ad h1)
theorem OwnF.alloc (h : OwnF T base w A n c zs) (o : Obj) : OwnF T base (w.alloc o) A n c zs := World.ownsRow.alloc h o
theorem OwnF.drew (h : OwnF T base w A n c zs) : OwnF T base w.drew A n c zs := h
theorem OwnF.drewN (h : OwnF T base w A n c zs) (m : Nat) : OwnF T base (w.drewN m) A n c zs := h
theorem OwnF.low {base' : Nat} (h : OwnF T base w A n c zs) (hb : base' ≤ base) : OwnF T base' w A n c zs := by
  refine ⟨h.1, ?_⟩
  rcases h.2 with h2 | ⟨g, cap, cur, h1, h2, h3⟩
  · exact .inl h2
  · exact .inr ⟨g, cap, cur, h1, by omega, h3⟩
theorem OwnF.rebase {base' : Nat} (h : OwnF T base w A n c zs) (hb : ∀ ad, A = some ad → base' ≤ ad.block) : OwnF T base' w A n c zs := by
  refine ⟨h.1, ?_⟩
  rcases h.2 with h2 | ⟨g, cap, cur, h1, h2, h3⟩
  · exact .inl h2
  · injection h1 with e1 e2 e3
    subst e3
    exact .inr ⟨g, _, cur, by rw [e1], hb _ e1, h3⟩
theorem OwnF.set {g : Nat} (h : OwnF T base w (some ⟨g, 0, none⟩) n c zs) (j : Nat) (u : Nat) : OwnF T base (w.setCell ⟨g, j, none⟩ (.float .f32 u)) (some ⟨g, 0, none⟩) n c (zs.set j u) := by
  have := (World.ownsRow.stored h j (.float .f32 u)).1
  unfold OwnF
  rw [List.map_set]
  exact this
theorem OwnF.far (h : OwnF T base w A n c zs) {p : Addr} (hp : ∀ ad, A = some ad → ad.block ≠ p.block) (u : Value) : OwnF T base (w.setCell p u) A n c zs :=
  h.keep fun ad h1 _ => Below.heap_setCell w p u _ (hp ad h1)
theorem FltsAt.far (h : FltsAt w A n zs) {p : Addr} (hp : ∀ ad, A = some ad → ad.block ≠ p.block) (u : Value) : FltsAt (w.setCell p u) A n zs :=
  h.keep (by simp) fun ad h1 _ => Below.heap_setCell w p u _ (hp ad h1)
theorem OwnF.made (T base : Nat) (w : World) (n : Nat) (hb : base ≤ w.heap.size) (hn : n ≤ maxLen) :
    OwnF T base (w.alloc (.cells (madeCells #[.float .f32 0] n) T)) (some ⟨w.heap.size, 0, none⟩) n n (List.replicate n 0) := by
  have := World.ownsRow_lit (e := T) (base := base) (size := 1) w (madeCells #[.float .f32 0] n) n hb hn (by simp [size_madeCells])
  rw [toList_madeCells_one] at this
  unfold OwnF
  simpa using this
theorem sepF_new {B : Option Addr} {T' b0 m d : Nat} {ys : List Nat} (h1 : OwnF T b0 w A n c zs) (h2 : OwnF T' w.heap.size w' B m d ys) : Sep A B := by
  intro a b ha hb
  have := (h1.lt ha).2
  have := (h2.lt hb).1
  omega
theorem OwnF.sep {B : Option Addr} (h : OwnF T base w A n c zs) (hu : Upd (blk B) w w') (hs : Sep A B) : OwnF T base w' A n c zs :=
  h.upd hu fun ad ha hb => by
    obtain ⟨bd, hb1, hb2⟩ := hb
    exact hs ad bd ha hb1 hb2.symm
theorem belowF_blk {B : Nat} {ad : Option Addr} {a : World} (hb : Below B a w) (hB : B ≤ w.heap.size) (hu : Upd (blk ad) w w') (ho : OwnF T base w ad n c zs) (hbase : B ≤ base) : Below B a w' :=
  hb.trans (hu.toBelow hB fun k hk ⟨x, h1, h2⟩ => by have := (ho.lt h1).1; omega)
end ints
theorem FltsAt.drewTo {w w' : World} {A : Option Addr} {n : Nat} {zs : List Nat} (h : FltsAt w A n zs) (hd : Drew w w') : FltsAt w' A n zs := by
  obtain ⟨q, rfl⟩ := hd
  exact h
theorem FltsAt.undrew {w w' : World} {A : Option Addr} {n : Nat} {zs : List Nat} (h : FltsAt w' A n zs) (hd : Drew w w') : FltsAt w A n zs := by
  obtain ⟨q, rfl⟩ := hd
  exact h
/-- 'make([]T, n)' where T's zero is the int 0: the new slice is owned. -/
theorem wp_make_flts {P : Program} (w : World) {ops : Array Oper} {rest : List Oper} {o : Oper} {a : Act} {Q : Exit → Act → World → Prop}
    (hg : o.guard = none) (l c : Operand) (t : TypeId) (hop : o.op = Op.makeSlice t l c)
    (T : TypeId) (h1 : P.underlying t = some (.slice T)) (hinfo : (P.info? T).map (fun i => (i.zero, i.size, i.bytes)) = some (some (.float .f32 0), 1, 4))
    (kl kc : IntKind) (L C : Int) (n : Nat) (hl : a.eval l = .int kl L) (hc : a.eval c = .int kc C) (hL : L = (n : Int)) (hC : C = (n : Int)) (hn : n ≤ 17592186044416)
    (hK : ∀ (w' : World) (g : Nat), OwnF T w.heap.size w' (some ⟨g, 0, none⟩) n n (List.replicate n 0) → Below w.heap.size w w' → wpList P ops Q rest (a.put o.dst (.slice (some ⟨g, 0, none⟩) n n)) w') :
    wpList P ops Q (o :: rest) a w := by
  obtain ⟨i0, hi, hz0, hz1, hz2⟩ := info_parts hinfo
  refine wpList_make_full w hg l c t hop w.heap.size T i0 _ 1 h1 hi hz0 hz1 kl kc L C n hl hc hL hC (by rw [hz2]; omega) (by simp [maxLen]; omega) (Nat.le_refl _) ?_
  intro w' h2 h3
  refine hK w' w.heap.size ?_ (Upd.ext ((Upd.refl _ _).grown h3 (by intro k hk; cases hk)))
  unfold OwnF
  have e : (madeCells (Value.float .f32 0).cells (n * 1)).toList = (List.replicate n (0 : Nat)).map (Value.float .f32) := by
    show (madeCells #[.float .f32 0] (n * 1)).toList = _
    rw [toList_madeCells_one]; simp
  rw [← e]
  exact h2

theorem wp_append_flt {P : Program} {ops : Array Oper} {rest : List Oper} {o : Oper} {a : Act} {Q : Exit → Act → World → Prop} (w : World) (v : Nat)
    (hgd : o.guard = none) (s x : Operand) (t : TypeId) (ho : o.op = .call { callee := .builtin .append, args := #[s, x], argTypes := #[t, t] })
    (T base : Nat) (ht : P.underlying t = some (.slice T)) (hinfo : (P.info? T).map (fun i => (i.zero, i.size, i.bytes)) = some (some (.float .f32 0), 1, 4))
    (A : Option Addr) (n c : Nat) (zs : List Nat) (hs : a.eval s = .slice A n c) (hown : OwnF T base w A n c zs) (hx : a.eval x = .slice (some ⟨w.heap.size, 0, none⟩) 1 1)
    (hn : n + 1 ≤ 17592186044416) (hbase : base ≤ w.heap.size)
    (h : ∀ (g c' : Nat) (w' : World), OwnF T base w' (some ⟨g, 0, none⟩) (n + 1) c' (zs ++ [v]) → Upd (blk A) w w' → Below base w w' → (blk A g ∨ w.heap.size ≤ g) → wpList P ops Q rest (a.put o.dst (.slice (some ⟨g, 0, none⟩) (n + 1) c')) w') :
    wpList P ops Q (o :: rest) a (w.alloc (.cells #[.float .f32 v] T)) := by
  obtain ⟨i0, hi, hz0, hz1, hz2⟩ := info_parts hinfo
  have hown1 : (w.alloc (.cells #[.float .f32 v] T)).ownsRow base T 1 (.slice A n c) n (zs.map (Value.float .f32)) := World.ownsRow.alloc hown _
  obtain ⟨v', w', hrun, h2, h3, _, h5⟩ := run_append_own_at (P := P) (w.alloc (.cells #[.float .f32 v] T)) base t o.type T i0 _ 1 4 ht hi hz0 hz1 hz2 rfl (by decide) _ n _ hown1 ⟨w.heap.size, 0, none⟩ 1 1 [.float .f32 v] rfl
    (by
      intro j u hj
      match j, hj with
      | 0, hj => simp at hj; subst hj; simp [Addr.add])
    (by intro u hu; simp at hu; subst hu; rfl) (by simp [maxLen]; omega) (by omega) (by simp; omega)
  have hform : ∃ g c', v' = .slice (some ⟨g, 0, none⟩) (n + 1) c' := by
    rcases h2.2 with ⟨_, h⟩ | ⟨g, cap, cur, h, _⟩
    · omega
    · exact ⟨g, cap, h⟩
  obtain ⟨g, c', rfl⟩ := hform
  have hu : Upd (blk A) (w.alloc (.cells #[.float .f32 v] T)) w' := (Upd.refl _ _).grown h3 (by
    intro k hk
    cases A with
    | none => cases hk
    | some ad => injection hk with hk; exact .inl ⟨ad, rfl, hk⟩)
  have hu' : Upd (blk A) w w' := ((Upd.refl _ w).alloc _).then hu (fun _ _ h => h)
  refine wpList_plain hgd fun _ hK => ?_
  unfold Oper.wp execOp
  simp only [ho, resolve, invoke, builtin, Sem.run_bind, Sem.run_pure, Result.andThen_ok, List.map_toArray, List.map_cons, List.map_nil, hs, hx, hrun]
  refine hK _ _ (h g c' w' ?_ hu' (hu'.toBelow hbase fun k hk ⟨ad, h1, h2⟩ => by have := (hown.lt h1).1; omega) ?_)
  · unfold OwnF
    rw [List.map_append]
    exact h2
  · rcases h5 with h5 | h5
    · left
      cases A with
      | none => cases h5
      | some ad => simp only [Value.ownBlock, Option.some.injEq] at h5; exact ⟨ad, rfl, h5.symm⟩
    · right
      simp only [Value.ownBlock, Option.some.injEq] at h5
      rw [h5]; simp

/-- 'append(out, src...)': the source nil, empty or not. -/
theorem wp_append_flts {P : Program} {ops : Array Oper} {rest : List Oper} {o : Oper} {a : Act} {Q : Exit → Act → World → Prop} (w : World)
    (hgd : o.guard = none) (s x : Operand) (t : TypeId) (ho : o.op = .call { callee := .builtin .append, args := #[s, x], argTypes := #[t, t] })
    (T base : Nat) (ht : P.underlying t = some (.slice T)) (hinfo : (P.info? T).map (fun i => (i.zero, i.size, i.bytes)) = some (some (.float .f32 0), 1, 4))
    (A : Option Addr) (n c : Nat) (zs : List Nat) (hs : a.eval s = .slice A n c) (hown : OwnF T base w A n c zs)
    (B : Option Addr) (m d : Nat) (ys : List Nat) (hx : a.eval x = .slice B m d) (hr : FltsAt w B m ys)
    (hn : n + m ≤ 17592186044416) (hbase : base ≤ w.heap.size)
    (h : ∀ (A' : Option Addr) (c' : Nat) (w' : World), OwnF T base w' A' (n + m) c' (zs ++ ys) → Upd (blk A) w w' → Below base w w' → (∀ ad, A' = some ad → blk A ad.block ∨ w.heap.size ≤ ad.block) → wpList P ops Q rest (a.put o.dst (.slice A' (n + m) c')) w') :
    wpList P ops Q (o :: rest) a w := by
  obtain ⟨i0, hi, hz0, hz1, hz2⟩ := info_parts hinfo
  have hyl := hr.len
  have key : ∃ v' w', (Builtin.append_ #[t, t] o.type #[.slice A n c, .slice B m d]).run P w = .ok v' w' ∧ w'.ownsRow base T 1 v' (n + m) (zs.map (Value.float .f32) ++ ys.map (Value.float .f32)) ∧ w.grownBy w' (Value.slice A n c).ownBlock ∧
      (v'.ownBlock = (Value.slice A n c).ownBlock ∨ v'.ownBlock = some w.heap.size) := by
    cases B with
    | none =>
      have hm : m = 0 := by
        rcases Nat.eq_zero_or_pos m with h0 | h0
        · exact h0
        · obtain ⟨ad, h, _⟩ := hr.2 h0; cases h
      subst hm
      have hn : ys = [] := List.eq_nil_of_length_eq_zero hyl
      subst hn
      refine ⟨.slice A n c, w, ?_, by simpa [OwnF] using hown, World.grownBy.refl w _, .inl rfl⟩
      rcases hown.2 with ⟨h1, rfl⟩ | ⟨g, cap, cur, h1, _, _, hnc, _⟩
      · rw [h1]
        simp [Builtin.append_, run_underlying ht, sizeOf, typeInfo, hi, Builtin.lenOf, Builtin.firstCells]
      · rw [h1]
        simp [Builtin.append_, run_underlying ht, sizeOf, typeInfo, hi, Builtin.lenOf, Builtin.firstCells, hnc, storeCells]
    | some bd =>
      have hcells : ∀ j u, (ys.map (Value.float .f32))[j]? = some u → w.cell? (bd.add j) = some u := by
        intro j u hu
        have hj : j < ys.length := by
          rcases Nat.lt_or_ge j ys.length with h1 | h1
          · exact h1
          · rw [List.getElem?_eq_none (by simpa using h1)] at hu; cases hu
        obtain ⟨ad, e, _, hc⟩ := hr.2 (by omega)
        injection e with e
        subst e
        rw [hc j (by omega)]
        rw [List.getElem?_map, List.getElem?_eq_getElem hj] at hu
        simpa [List.getD, List.getElem?_eq_getElem hj] using hu
      obtain ⟨v', w', hrun, h2, h3, _, h5⟩ := run_append_own_at (P := P) w base t o.type T i0 _ 1 4 ht hi hz0 hz1 hz2 rfl (by decide) (.slice A n c) n _ hown bd m d (ys.map (Value.float .f32)) (by simp [hyl]) hcells (flts_oneCell _ _) (by simp [maxLen]; omega) (by omega) hbase
      exact ⟨v', w', hrun, h2, h3, h5⟩
  obtain ⟨v', w', hrun, h2, h3, h5⟩ := key
  have hform : ∃ A' c', v' = .slice A' (n + m) c' := by
    rcases h2.2 with ⟨h, h'⟩ | ⟨g, cap, cur, h, _⟩
    · exact ⟨none, 0, by rw [h, h']⟩
    · exact ⟨_, cap, h⟩
  obtain ⟨A', c', rfl⟩ := hform
  have hu : Upd (blk A) w w' := (Upd.refl _ _).grown h3 (by
    intro k hk
    cases A with
    | none => cases hk
    | some ad => injection hk with hk; exact .inl ⟨ad, rfl, hk⟩)
  refine wpList_plain hgd fun _ hK => ?_
  unfold Oper.wp execOp
  simp only [ho, resolve, invoke, builtin, Sem.run_bind, Sem.run_pure, Result.andThen_ok, List.map_toArray, List.map_cons, List.map_nil, hs, hx, hrun]
  refine hK _ _ (h A' c' w' ?_ hu (hu.toBelow hbase fun k hk ⟨ad, h1, h2⟩ => by have := (hown.lt h1).1; omega) ?_)
  · unfold OwnF
    rw [List.map_append]
    exact h2
  · intro ad hA
    subst hA
    rcases h5 with h5 | h5
    · left
      cases A with
      | none => cases h5
      | some ad => simp only [Value.ownBlock, Option.some.injEq] at h5; exact ⟨ad, rfl, h5.symm⟩
    · right
      simp only [Value.ownBlock, Option.some.injEq] at h5
      omega

/-- 'append(out, u)' of one value of one cell, which lies in a new block already. -/
theorem wp_append_val {P : Program} {ops : Array Oper} {rest : List Oper} {o : Oper} {a : Act} {Q : Exit → Act → World → Prop} (w : World) (u : Value) (hu1 : u.oneCell' = true)
    (hgd : o.guard = none) (s x : Operand) (t : TypeId) (ho : o.op = .call { callee := .builtin .append, args := #[s, x], argTypes := #[t, t] })
    (T base : Nat) (ht : P.underlying t = some (.slice T)) (z : Value) (bytes : Nat) (hinfo : (P.info? T).map (fun i => (i.zero, i.size, i.bytes)) = some (some z, 1, bytes)) (hz : z.cells.size = 1) (hby : bytes ≤ 64)
    (A : Option Addr) (n c : Nat) (vs : List Value) (hs : a.eval s = .slice A n c) (hown : OwnC T base 1 w A n c vs) (hx : a.eval x = .slice (some ⟨w.heap.size, 0, none⟩) 1 1)
    (hn : n + 1 ≤ 1099511627776) (hbase : base ≤ w.heap.size)
    (h : ∀ (g c' : Nat) (w' : World), OwnC T base 1 w' (some ⟨g, 0, none⟩) (n + 1) c' (vs ++ [u]) → Upd (blk A) w w' → Below base w w' → (blk A g ∨ w.heap.size ≤ g) → wpList P ops Q rest (a.put o.dst (.slice (some ⟨g, 0, none⟩) (n + 1) c')) w') :
    wpList P ops Q (o :: rest) a (w.alloc (.cells #[u] T)) := by
  obtain ⟨i0, hi, hz0, hz1, hz2⟩ := info_parts hinfo
  have hown1 : (w.alloc (.cells #[u] T)).ownsRow base T 1 (.slice A n c) n vs := World.ownsRow.alloc hown _
  obtain ⟨v', w', hrun, h2, h3, _, h5⟩ := run_append_own_at (P := P) (w.alloc (.cells #[u] T)) base t o.type T i0 _ 1 bytes ht hi hz0 hz1 hz2 hz (by decide) _ n _ hown1 ⟨w.heap.size, 0, none⟩ 1 1 [u] rfl
    (by
      intro j y hj
      match j, hj with
      | 0, hj => simp at hj; subst hj; simp [Addr.add])
    (by intro y hy; simp at hy; subst hy; exact hu1) (by simp [maxLen]; omega) (Nat.le_trans (Nat.mul_le_mul_left _ hby) (by omega)) (by simp; omega)
  have hform : ∃ g c', v' = .slice (some ⟨g, 0, none⟩) (n + 1) c' := by
    rcases h2.2 with ⟨_, h⟩ | ⟨g, cap, cur, h, _⟩
    · omega
    · exact ⟨g, cap, h⟩
  obtain ⟨g, c', rfl⟩ := hform
  have hu : Upd (blk A) (w.alloc (.cells #[u] T)) w' := (Upd.refl _ _).grown h3 (by
    intro k hk
    cases A with
    | none => cases hk
    | some ad => injection hk with hk; exact .inl ⟨ad, rfl, hk⟩)
  have hu' : Upd (blk A) w w' := ((Upd.refl _ w).alloc _).then hu (fun _ _ h => h)
  refine wpList_plain hgd fun _ hK => ?_
  unfold Oper.wp execOp
  simp only [ho, resolve, invoke, builtin, Sem.run_bind, Sem.run_pure, Result.andThen_ok, List.map_toArray, List.map_cons, List.map_nil, hs, hx, hrun]
  refine hK _ _ (h g c' w' ?_ hu' (hu'.toBelow hbase fun k hk ⟨ad, h1, h2⟩ => by have := (hown.lt h1).1; omega) ?_)
  · exact h2
  · rcases h5 with h5 | h5
    · left
      cases A with
      | none => cases h5
      | some ad => simp only [Value.ownBlock, Option.some.injEq] at h5; exact ⟨ad, rfl, h5.symm⟩
    · right
      simp only [Value.ownBlock, Option.some.injEq] at h5
      rw [h5]; simp


theorem flts_cell {w : World} {ad : Addr} {n : Nat} {zs : List Nat} (h : FltsAt w (some ad) n zs) {k : Nat} (hk : k < n) : w.cell? (ad.add k) = some (.float .f32 (zs.getD k 0)) := by
  obtain ⟨ad', e, _, hc⟩ := h.at_ hk
  injection e with e
  subst e
  exact hc
theorem eqF_of_getD {xs ys : List Nat} {n : Nat} (hx : xs.length = n) (hy : ys.length = n) (h : ∀ k, k < n → xs.getD k 0 = ys.getD k 0) : xs = ys := by
  apply List.ext_getElem?
  intro i
  by_cases hi : i < n
  · have := h i hi
    rw [List.getElem?_eq_getElem (by omega), List.getElem?_eq_getElem (by omega)]
    simpa [List.getD, List.getElem?_eq_getElem (show i < xs.length by omega), List.getElem?_eq_getElem (show i < ys.length by omega)] using this
  · rw [List.getElem?_eq_none (by omega), List.getElem?_eq_none (by omega)]


end Go.Proofs.YtnjipckpkcandaaDoor
