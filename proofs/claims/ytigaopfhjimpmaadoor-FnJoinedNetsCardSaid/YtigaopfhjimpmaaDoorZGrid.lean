/- append of a whole slice; copyInts; slices of slices of ints. -/
import Derived.Test.YtigaopfhjimpmaaDoorJ2
namespace Go.Proofs.YtigaopfhjimpmaaDoor
open Go.RowKit

/-- 'append(out, src...)': the source nil, empty or not. -/
theorem wp_append_ints {P : Program} {ops : Array Oper} {rest : List Oper} {o : Oper} {a : Act} {Q : Exit → Act → World → Prop} (w : World)
    (hgd : o.guard = none) (s x : Operand) (t : TypeId) (ho : o.op = .call { callee := .builtin .append, args := #[s, x], argTypes := #[t, t] })
    (T base : Nat) (ht : P.underlying t = some (.slice T)) (hinfo : (P.info? T).map (fun i => (i.zero, i.size, i.bytes)) = some (some (.int .i64 0), 1, 8))
    (A : Option Addr) (n c : Nat) (zs : List Int) (hs : a.eval s = .slice A n c) (hown : OwnI T base w A n c zs)
    (B : Option Addr) (m d : Nat) (ys : List Int) (hx : a.eval x = .slice B m d) (hr : IntsAt w B m ys)
    (hn : n + m ≤ 17592186044416) (hbase : base ≤ w.heap.size)
    (h : ∀ (A' : Option Addr) (c' : Nat) (w' : World), OwnI T base w' A' (n + m) c' (zs ++ ys) → Upd (blk A) w w' → Below base w w' → (∀ ad, A' = some ad → blk A ad.block ∨ w.heap.size ≤ ad.block) → wpList P ops Q rest (a.put o.dst (.slice A' (n + m) c')) w') :
    wpList P ops Q (o :: rest) a w := by
  obtain ⟨i0, hi, hz0, hz1, hz2⟩ := info_parts hinfo
  have hyl := hr.len
  have key : ∃ v' w', (Builtin.append_ #[t, t] o.type #[.slice A n c, .slice B m d]).run P w = .ok v' w' ∧ w'.ownsRow base T 1 v' (n + m) (zs.map (Value.int .i64) ++ ys.map (Value.int .i64)) ∧ w.grownBy w' (Value.slice A n c).ownBlock ∧
      (v'.ownBlock = (Value.slice A n c).ownBlock ∨ v'.ownBlock = some w.heap.size) := by
    cases B with
    | none =>
      have hm : m = 0 := by
        rcases Nat.eq_zero_or_pos m with h0 | h0
        · exact h0
        · obtain ⟨ad, h, _⟩ := hr.2 h0; cases h
      subst hm
      have hn : ys = [] := List.eq_nil_of_length_eq_zero hyl
      subst hn
      refine ⟨.slice A n c, w, ?_, by simpa [OwnI] using hown, World.grownBy.refl w _, .inl rfl⟩
      rcases hown.2 with ⟨h1, rfl⟩ | ⟨g, cap, cur, h1, _, _, hnc, _⟩
      · rw [h1]
        simp [Builtin.append_, run_underlying ht, sizeOf, typeInfo, hi, Builtin.lenOf, Builtin.firstCells]
      · rw [h1]
        simp [Builtin.append_, run_underlying ht, sizeOf, typeInfo, hi, Builtin.lenOf, Builtin.firstCells, hnc, storeCells]
    | some bd =>
      have hcells : ∀ j u, (ys.map (Value.int .i64))[j]? = some u → w.cell? (bd.add j) = some u := by
        intro j u hu
        have hj : j < ys.length := by
          rcases Nat.lt_or_ge j ys.length with h1 | h1
          · exact h1
          · rw [List.getElem?_eq_none (by simpa using h1)] at hu; cases hu
        obtain ⟨ad, e, _, hc⟩ := hr.2 (by omega)
        injection e with e
        subst e
        rw [hc j (by omega)]
        rw [List.getElem?_map, List.getElem?_eq_getElem hj] at hu
        simpa [List.getD, List.getElem?_eq_getElem hj] using hu
      obtain ⟨v', w', hrun, h2, h3, _, h5⟩ := run_append_own_at (P := P) w base t o.type T i0 _ 1 8 ht hi hz0 hz1 hz2 rfl (by decide) (.slice A n c) n _ hown bd m d (ys.map (Value.int .i64)) (by simp [hyl]) hcells (ints_oneCell _ _) (by simp [maxLen]; omega) (by omega) hbase
      exact ⟨v', w', hrun, h2, h3, h5⟩
  obtain ⟨v', w', hrun, h2, h3, h5⟩ := key
  have hform : ∃ A' c', v' = .slice A' (n + m) c' := by
    rcases h2.2 with ⟨h, h'⟩ | ⟨g, cap, cur, h, _⟩
    · exact ⟨none, 0, by rw [h, h']⟩
    · exact ⟨_, cap, h⟩
  obtain ⟨A', c', rfl⟩ := hform
  have hu : Upd (blk A) w w' := (Upd.refl _ _).grown h3 (by
    intro k hk
    cases A with
    | none => cases hk
    | some ad => injection hk with hk; exact .inl ⟨ad, rfl, hk⟩)
  refine wpList_plain hgd fun _ hK => ?_
  unfold Oper.wp execOp
  simp only [ho, resolve, invoke, builtin, Sem.run_bind, Sem.run_pure, Result.andThen_ok, List.map_toArray, List.map_cons, List.map_nil, hs, hx, hrun]
  refine hK _ _ (h A' c' w' ?_ hu (hu.toBelow hbase fun k hk ⟨ad, h1, h2⟩ => by have := (hown.lt h1).1; omega) ?_)
  · unfold OwnI
    rw [List.map_append]
    exact h2
  · intro ad hA
    subst hA
    rcases h5 with h5 | h5
    · left
      cases A with
      | none => cases h5
      | some ad => simp only [Value.ownBlock, Option.some.injEq] at h5; exact ⟨ad, rfl, h5.symm⟩
    · right
      simp only [Value.ownBlock, Option.some.injEq] at h5
      omega

/-- 'append(out, u)' of one value of one cell, which lies in a new block already. -/
theorem wp_append_val {P : Program} {ops : Array Oper} {rest : List Oper} {o : Oper} {a : Act} {Q : Exit → Act → World → Prop} (w : World) (u : Value) (hu1 : u.oneCell' = true)
    (hgd : o.guard = none) (s x : Operand) (t : TypeId) (ho : o.op = .call { callee := .builtin .append, args := #[s, x], argTypes := #[t, t] })
    (T base : Nat) (ht : P.underlying t = some (.slice T)) (z : Value) (bytes : Nat) (hinfo : (P.info? T).map (fun i => (i.zero, i.size, i.bytes)) = some (some z, 1, bytes)) (hz : z.cells.size = 1) (hby : bytes ≤ 64)
    (A : Option Addr) (n c : Nat) (vs : List Value) (hs : a.eval s = .slice A n c) (hown : OwnC T base 1 w A n c vs) (hx : a.eval x = .slice (some ⟨w.heap.size, 0, none⟩) 1 1)
    (hn : n + 1 ≤ 1099511627776) (hbase : base ≤ w.heap.size)
    (h : ∀ (g c' : Nat) (w' : World), OwnC T base 1 w' (some ⟨g, 0, none⟩) (n + 1) c' (vs ++ [u]) → Upd (blk A) w w' → Below base w w' → (blk A g ∨ w.heap.size ≤ g) → wpList P ops Q rest (a.put o.dst (.slice (some ⟨g, 0, none⟩) (n + 1) c')) w') :
    wpList P ops Q (o :: rest) a (w.alloc (.cells #[u] T)) := by
  obtain ⟨i0, hi, hz0, hz1, hz2⟩ := info_parts hinfo
  have hown1 : (w.alloc (.cells #[u] T)).ownsRow base T 1 (.slice A n c) n vs := World.ownsRow.alloc hown _
  obtain ⟨v', w', hrun, h2, h3, _, h5⟩ := run_append_own_at (P := P) (w.alloc (.cells #[u] T)) base t o.type T i0 _ 1 bytes ht hi hz0 hz1 hz2 hz (by decide) _ n _ hown1 ⟨w.heap.size, 0, none⟩ 1 1 [u] rfl
    (by
      intro j y hj
      match j, hj with
      | 0, hj => simp at hj; subst hj; simp [Addr.add])
    (by intro y hy; simp at hy; subst hy; exact hu1) (by simp [maxLen]; omega) (Nat.le_trans (Nat.mul_le_mul_left _ hby) (by omega)) (by simp; omega)
  have hform : ∃ g c', v' = .slice (some ⟨g, 0, none⟩) (n + 1) c' := by
    rcases h2.2 with ⟨_, h⟩ | ⟨g, cap, cur, h, _⟩
    · omega
    · exact ⟨g, cap, h⟩
  obtain ⟨g, c', rfl⟩ := hform
  have hu : Upd (blk A) (w.alloc (.cells #[u] T)) w' := (Upd.refl _ _).grown h3 (by
    intro k hk
    cases A with
    | none => cases hk
    | some ad => injection hk with hk; exact .inl ⟨ad, rfl, hk⟩)
  have hu' : Upd (blk A) w w' := ((Upd.refl _ w).alloc _).then hu (fun _ _ h => h)
  refine wpList_plain hgd fun _ hK => ?_
  unfold Oper.wp execOp
  simp only [ho, resolve, invoke, builtin, Sem.run_bind, Sem.run_pure, Result.andThen_ok, List.map_toArray, List.map_cons, List.map_nil, hs, hx, hrun]
  refine hK _ _ (h g c' w' ?_ hu' (hu'.toBelow hbase fun k hk ⟨ad, h1, h2⟩ => by have := (hown.lt h1).1; omega) ?_)
  · exact h2
  · rcases h5 with h5 | h5
    · left
      cases A with
      | none => cases h5
      | some ad => simp only [Value.ownBlock, Option.some.injEq] at h5; exact ⟨ad, rfl, h5.symm⟩
    · right
      simp only [Value.ownBlock, Option.some.injEq] at h5
      rw [h5]; simp


theorem copyInts_any (A : Option Addr) (n c : Nat) (zs : List Int) (w : World) (h : IntsAt w A n zs) (hn : n ≤ 1048576) :
    Calls Tryd.prog 53 #[.slice A n c] w fun e w' => ∃ (A' : Option Addr) (c' : Nat), e = .returned (.slice A' n c') ∧ OwnI 2 w.heap.size w' A' n c' zs ∧ Below w.heap.size w w' := by
  have he : OwnI 2 w.heap.size (w.alloc (.cells #[] 2)) (some ⟨w.heap.size, 0, none⟩) 0 0 [] := World.ownsRow_lit (e := 2) (base := w.heap.size) (size := 1) w #[] 0 (Nat.le_refl _) (Nat.zero_le _) rfl
  have hW : Below w.heap.size w (w.alloc (.cells #[] 2)) := (Below.refl _ _).alloc (Nat.le_refl _) _
  go_enter Tryd.func53, Tryd.ntmps53
  go_wp2_with (at_builtin; refine wp_append_ints _ rfl _ _ _ rfl 2 w.heap.size Tryd.underlying26 info64 _ 0 0 _ rfl he A n c zs rfl (h.alloc _) (by omega) hW.size ?_; intro A' c' w' o1 u1 b1 _; simp only [Nat.zero_add, List.nil_append] at o1)
  go_ret
  exact ⟨A', c', rfl, o1, hW.trans b1⟩

/-- Rows of ints: each cell of vs is a slice of the call's own that holds the row. -/
def RowsAt (T base : Nat) (w : World) (vs : List Value) (rows : List (List Int)) : Prop :=
  vs.length = rows.length ∧ ∀ k, k < rows.length → ∃ (A : Option Addr) (c : Nat), vs[k]? = some (.slice A (rows.getD k []).length c) ∧ OwnI T base w A (rows.getD k []).length c (rows.getD k [])

section rows
variable {T base : Nat} {w w' : World} {vs : List Value} {rows : List (List Int)} {S : Nat → Prop}
theorem RowsAt.nil_ : RowsAt T base w [] [] := ⟨rfl, fun k hk => by simp at hk⟩
theorem RowsAt.at_ (h : RowsAt T base w vs rows) {k : Nat} (hk : k < rows.length) : ∃ (A : Option Addr) (c : Nat), vs[k]? = some (.slice A (rows.getD k []).length c) ∧ OwnI T base w A (rows.getD k []).length c (rows.getD k []) := h.2 k hk
theorem RowsAt.keep (h : RowsAt T base w vs rows) (hk : ∀ b, base ≤ b → b < w.heap.size → w'.heap[b]? = w.heap[b]?) : RowsAt T base w' vs rows := by
  refine ⟨h.1, fun k hk' => ?_⟩
  obtain ⟨A, c, h1, h2⟩ := h.2 k hk'
  exact ⟨A, c, h1, h2.keep fun ad ha hlt => hk _ (h2.lt ha).1 hlt⟩
theorem RowsAt.below (h : RowsAt T base w vs rows) (hb : Below w.heap.size w w') : RowsAt T base w' vs rows := h.keep fun b _ hlt => hb.block b hlt
theorem RowsAt.upd (h : RowsAt T base w vs rows) (hb : Upd S w w') (hS : ∀ b, base ≤ b → b < w.heap.size → ¬ S b) : RowsAt T base w' vs rows := h.keep fun b h1 hlt => hb.block b hlt (hS b h1 hlt)
theorem RowsAt.drew (h : RowsAt T base w vs rows) : RowsAt T base w.drew vs rows := h
theorem own_ne {T' base' : Nat} {A O : Option Addr} {n c m d : Nat} {zs : List Int} {us : List Value} (h : OwnI T base w A n c zs) (hO : OwnC T' base' 1 w O m d us) (hne : T ≠ T') : Sep A O := by
  intro a o ha ho e
  rcases h.2 with ⟨h1, _⟩ | ⟨g, cap, cur, h1, _, h3, _⟩
  · injection h1 with h1; rw [h1] at ha; cases ha
  · injection h1 with h1; rw [h1] at ha; injection ha with ha; subst ha
    rcases hO.2 with ⟨k1, _⟩ | ⟨g', cap', cur', k1, _, k3, _⟩
    · injection k1 with k1; rw [k1] at ho; cases ho
    · injection k1 with k1; rw [k1] at ho; injection ho with ho; subst ho
      have e' : g = g' := e
      subst e'
      rw [h3] at k3
      injection k3 with k3
      injection k3 with _ k4
      exact hne k4
theorem RowsAt.updO {T' base' : Nat} {O : Option Addr} {m d : Nat} {us : List Value} (h : RowsAt T base w vs rows) (hO : OwnC T' base' 1 w O m d us) (hne : T ≠ T') (hu : Upd (blk O) w w') : RowsAt T base w' vs rows := by
  refine ⟨h.1, fun k hk' => ?_⟩
  obtain ⟨A, c, h1, h2⟩ := h.2 k hk'
  exact ⟨A, c, h1, h2.sep hu (own_ne h2 hO hne)⟩
theorem RowsAt.low {base' : Nat} (h : RowsAt T base w vs rows) (hb : base' ≤ base) : RowsAt T base' w vs rows :=
  ⟨h.1, fun k hk => by obtain ⟨A, c, h1, h2⟩ := h.2 k hk; exact ⟨A, c, h1, h2.low hb⟩⟩
theorem RowsAt.alloc (h : RowsAt T base w vs rows) (o : Obj) : RowsAt T base (w.alloc o) vs rows := h.keep fun b _ hlt => Below.heap_alloc w o b hlt
theorem RowsAt.snoc (h : RowsAt T base w vs rows) {A : Option Addr} {n c : Nat} {zs : List Int} (ho : OwnI T base w A n c zs) : RowsAt T base w (vs ++ [.slice A n c]) (rows ++ [zs]) := by
  have hl := ho.len
  refine ⟨by simp [h.1], fun k hk => ?_⟩
  by_cases hlt : k < rows.length
  · obtain ⟨A, c, h1, h2⟩ := h.2 k hlt
    have e : (rows ++ [zs]).getD k [] = rows.getD k [] := by simp [List.getD, List.getElem?_append_left hlt]
    rw [e]
    exact ⟨A, c, by rw [List.getElem?_append_left (by rw [h.1]; exact hlt)]; exact h1, h2⟩
  · have hk2 : k = rows.length := by simp at hk; omega
    subst hk2
    have e : (rows ++ [zs]).getD rows.length [] = zs := by simp [List.getD]
    rw [e, hl]
    exact ⟨A, c, by rw [← h.1]; simp, ho⟩
end rows
end Go.Proofs.YtigaopfhjimpmaaDoor
