/- Appends of ints, and copies of lists of ints (words of XGrid under other names, which clash with the floats' text). -/
import Derived.Test.YtbbcddbdinmaaaaAppend
namespace Go.Proofs.Ytbbcddbdinmaaaa
open Go.RowKit

theorem wp_app_ints {P : Program} {ops : Array Oper} {rest : List Oper} {o : Oper} {a : Act} {Q : Exit → Act → World → Prop} (w : World)
    (hgd : o.guard = none) (s x : Operand) (t : TypeId) (ho : o.op = .call { callee := .builtin .append, args := #[s, x], argTypes := #[t, t] })
    (T base : Nat) (ht : P.underlying t = some (.slice T)) (hinfo : (P.info? T).map (fun i => (i.zero, i.size, i.bytes)) = some (some (.int .i64 0), 1, 8))
    (A : Option Addr) (n c : Nat) (zs : List Int) (hs : a.eval s = .slice A n c) (hown : OwnI T base w A n c zs)
    (B : Option Addr) (m d : Nat) (ys : List Int) (hx : a.eval x = .slice B m d) (hr : IntsAt w B m ys)
    (hn : n + m ≤ 17592186044416) (hbase : base ≤ w.heap.size)
    (h : ∀ (A' : Option Addr) (c' : Nat) (w' : World), OwnI T base w' A' (n + m) c' (zs ++ ys) → Upd (blk A) w w' → Below base w w' → (∀ ad, A' = some ad → blk A ad.block ∨ w.heap.size ≤ ad.block) → wpList P ops Q rest (a.put o.dst (.slice A' (n + m) c')) w') :
    wpList P ops Q (o :: rest) a w := by
  obtain ⟨i0, hi, hz0, hz1, hz2⟩ := info_parts hinfo
  have hyl := hr.len
  have key : ∃ v' w', (Builtin.append_ #[t, t] o.type #[.slice A n c, .slice B m d]).run P w = .ok v' w' ∧ w'.ownsRow base T 1 v' (n + m) (zs.map (Value.int .i64) ++ ys.map (Value.int .i64)) ∧ w.grownBy w' (Value.slice A n c).ownBlock ∧
      (v'.ownBlock = (Value.slice A n c).ownBlock ∨ v'.ownBlock = some w.heap.size) := by
    cases B with
    | none =>
      have hm : m = 0 := by
        rcases Nat.eq_zero_or_pos m with h0 | h0
        · exact h0
        · obtain ⟨ad, h, _⟩ := hr.2 h0; cases h
      subst hm
      have hn : ys = [] := List.eq_nil_of_length_eq_zero hyl
      subst hn
      refine ⟨.slice A n c, w, ?_, by simpa [OwnI] using hown, World.grownBy.refl w _, .inl rfl⟩
      rcases hown.2 with ⟨h1, rfl⟩ | ⟨g, cap, cur, h1, _, _, hnc, _⟩
      · rw [h1]
        simp [Builtin.append_, run_underlying ht, sizeOf, typeInfo, hi, Builtin.lenOf, Builtin.firstCells]
      · rw [h1]
        simp [Builtin.append_, run_underlying ht, sizeOf, typeInfo, hi, Builtin.lenOf, Builtin.firstCells, hnc, storeCells]
    | some bd =>
      have hcells : ∀ j u, (ys.map (Value.int .i64))[j]? = some u → w.cell? (bd.add j) = some u := by
        intro j u hu
        have hj : j < ys.length := by
          rcases Nat.lt_or_ge j ys.length with h1 | h1
          · exact h1
          · rw [List.getElem?_eq_none (by simpa using h1)] at hu; cases hu
        obtain ⟨ad, e, _, hc⟩ := hr.2 (by omega)
        injection e with e
        subst e
        rw [hc j (by omega)]
        rw [List.getElem?_map, List.getElem?_eq_getElem hj] at hu
        simpa [List.getD, List.getElem?_eq_getElem hj] using hu
      obtain ⟨v', w', hrun, h2, h3, _, h5⟩ := run_append_own_at (P := P) w base t o.type T i0 _ 1 8 ht hi hz0 hz1 hz2 rfl (by decide) (.slice A n c) n _ hown bd m d (ys.map (Value.int .i64)) (by simp [hyl]) hcells (ints_oneCell _ _) (by simp [maxLen]; omega) (by omega) hbase
      exact ⟨v', w', hrun, h2, h3, h5⟩
  obtain ⟨v', w', hrun, h2, h3, h5⟩ := key
  have hform : ∃ A' c', v' = .slice A' (n + m) c' := by
    rcases h2.2 with ⟨h, h'⟩ | ⟨g, cap, cur, h, _⟩
    · exact ⟨none, 0, by rw [h, h']⟩
    · exact ⟨_, cap, h⟩
  obtain ⟨A', c', rfl⟩ := hform
  have hu : Upd (blk A) w w' := (Upd.refl _ _).grown h3 (by
    intro k hk
    cases A with
    | none => cases hk
    | some ad => injection hk with hk; exact .inl ⟨ad, rfl, hk⟩)
  refine wpList_plain hgd fun _ hK => ?_
  unfold Oper.wp execOp
  simp only [ho, resolve, invoke, builtin, Sem.run_bind, Sem.run_pure, Result.andThen_ok, List.map_toArray, List.map_cons, List.map_nil, hs, hx, hrun]
  refine hK _ _ (h A' c' w' ?_ hu (hu.toBelow hbase fun k hk ⟨ad, h1, h2⟩ => by have := (hown.lt h1).1; omega) ?_)
  · unfold OwnI
    rw [List.map_append]
    exact h2
  · intro ad hA
    subst hA
    rcases h5 with h5 | h5
    · left
      cases A with
      | none => cases h5
      | some ad => simp only [Value.ownBlock, Option.some.injEq] at h5; exact ⟨ad, rfl, h5.symm⟩
    · right
      simp only [Value.ownBlock, Option.some.injEq] at h5
      omega

/-- 'append(out, u)' of one value of one cell, which lies in a new block already. -/
theorem copyInts_t (A : Option Addr) (n c : Nat) (zs : List Int) (w : World) (h : IntsAt w A n zs) (hn : n ≤ 1048576) :
    Calls Try.prog 55 #[.slice A n c] w fun e w' => ∃ (A' : Option Addr) (c' : Nat), e = .returned (.slice A' n c') ∧ OwnI 2 w.heap.size w' A' n c' zs ∧ Below w.heap.size w w' := by
  have he : OwnI 2 w.heap.size (w.alloc (.cells #[] 2)) (some ⟨w.heap.size, 0, none⟩) 0 0 [] := World.ownsRow_lit (e := 2) (base := w.heap.size) (size := 1) w #[] 0 (Nat.le_refl _) (Nat.zero_le _) rfl
  have hW : Below w.heap.size w (w.alloc (.cells #[] 2)) := (Below.refl _ _).alloc (Nat.le_refl _) _
  go_enter Try.func55, Try.ntmps55
  go_wp2_with (at_builtin; refine wp_app_ints _ rfl _ _ _ rfl 2 w.heap.size Try.underlying23 info64 _ 0 0 _ rfl he A n c zs rfl (h.alloc _) (by omega) hW.size ?_; intro A' c' w' o1 u1 b1 _; simp only [Nat.zero_add, List.nil_append] at o1)
  go_ret
  exact ⟨A', c', rfl, o1, hW.trans b1⟩
end Go.Proofs.Ytbbcddbdinmaaaa
