/- append of elements of several cells. -/
import Derived.Test.YtnljfhmdjhppmaaAppend
import Derived.Test.YtnljfhmdjhppmaaNetMem
namespace Go.Proofs.Ytnljfhmdjhppmaa
open Go.RowKit

/-- 'append(out, src...)' of elements of some cells each: the source nil, empty or not. -/
theorem wp_append_cells {P : Program} {ops : Array Oper} {rest : List Oper} {o : Oper} {a : Act} {Q : Exit → Act → World → Prop} (w : World)
    (hgd : o.guard = none) (s x : Operand) (t : TypeId) (ho : o.op = .call { callee := .builtin .append, args := #[s, x], argTypes := #[t, t] })
    (T base : Nat) (ht : P.underlying t = some (.slice T)) (z : Value) (size bytes : Nat) (hinfo : (P.info? T).map (fun i => (i.zero, i.size, i.bytes)) = some (some z, size, bytes)) (hzc : z.cells.size = size) (hpos : 0 < size) (hby : bytes ≤ 256) (hsz : size ≤ 64)
    (A : Option Addr) (n c : Nat) (vs : List Value) (hs : a.eval s = .slice A n c) (hown : OwnC T base size w A n c vs)
    (B : Option Addr) (m d : Nat) (us : List Value) (hx : a.eval x = .slice B m d) (hul : us.length = m * size) (hr : 0 < m → ∃ bd, B = some bd ∧ ∀ j u, us[j]? = some u → w.cell? (bd.add j) = some u) (h1c : ∀ u ∈ us, u.oneCell' = true)
    (hn : n + m ≤ 17179869184) (hbase : base ≤ w.heap.size)
    (h : ∀ (A' : Option Addr) (c' : Nat) (w' : World), OwnC T base size w' A' (n + m) c' (vs ++ us) → Upd (blk A) w w' → Below base w w' → (∀ ad, A' = some ad → blk A ad.block ∨ w.heap.size ≤ ad.block) → wpList P ops Q rest (a.put o.dst (.slice A' (n + m) c')) w') :
    wpList P ops Q (o :: rest) a w := by
  obtain ⟨i0, hi, hz0, hz1, hz2⟩ := info_parts hinfo
  have hml : (n + m) * size ≤ maxLen := Nat.le_trans (Nat.mul_le_mul hn hsz) (by simp [maxLen])
  have hmb : (n + m) * bytes ≤ 17179869184 * 256 := Nat.mul_le_mul hn hby
  have key : ∃ v' w', (Builtin.append_ #[t, t] o.type #[.slice A n c, .slice B m d]).run P w = .ok v' w' ∧ w'.ownsRow base T size v' (n + m) (vs ++ us) ∧ w.grownBy w' (Value.slice A n c).ownBlock ∧
      (v'.ownBlock = (Value.slice A n c).ownBlock ∨ v'.ownBlock = some w.heap.size) := by
    cases B with
    | none =>
      have hm : m = 0 := by
        rcases Nat.eq_zero_or_pos m with h0 | h0
        · exact h0
        · obtain ⟨ad, h, _⟩ := hr h0; cases h
      subst hm
      have hn : us = [] := List.eq_nil_of_length_eq_zero (by simpa using hul)
      subst hn
      refine ⟨.slice A n c, w, ?_, by simpa [OwnC] using hown, World.grownBy.refl w _, .inl rfl⟩
      rcases hown.2 with ⟨h1, rfl⟩ | ⟨g, cap, cur, h1, _, _, hnc, _⟩
      · rw [h1]
        simp [Builtin.append_, run_underlying ht, sizeOf, typeInfo, hi, Builtin.lenOf, Builtin.firstCells]
      · rw [h1]
        simp [Builtin.append_, run_underlying ht, sizeOf, typeInfo, hi, Builtin.lenOf, Builtin.firstCells, hnc, storeCells]
    | some bd =>
      have hcells : ∀ j u, us[j]? = some u → w.cell? (bd.add j) = some u := by
        intro j u hu
        have hj : j < us.length := by
          rcases Nat.lt_or_ge j us.length with h1 | h1
          · exact h1
          · rw [List.getElem?_eq_none h1] at hu; cases hu
        have hm : 0 < m := by
          rcases Nat.eq_zero_or_pos m with h0 | h0
          · subst h0; omega
          · exact h0
        obtain ⟨ad, e, hc⟩ := hr hm
        injection e with e
        subst e
        exact hc j u hu
      obtain ⟨v', w', hrun, h2, h3, _, h5⟩ := run_append_own_at (P := P) w base t o.type T i0 _ size bytes ht hi hz0 hz1 hz2 hzc hpos (.slice A n c) n _ hown bd m d us hul hcells h1c (by first | exact hml | (simp [maxLen]; omega)) (by omega) hbase
      exact ⟨v', w', hrun, h2, h3, h5⟩
  obtain ⟨v', w', hrun, h2, h3, h5⟩ := key
  have hform : ∃ A' c', v' = .slice A' (n + m) c' := by
    rcases h2.2 with ⟨h, h'⟩ | ⟨g, cap, cur, h, _⟩
    · exact ⟨none, 0, by rw [h, h']⟩
    · exact ⟨_, cap, h⟩
  obtain ⟨A', c', rfl⟩ := hform
  have hu : Upd (blk A) w w' := (Upd.refl _ _).grown h3 (by
    intro k hk
    cases A with
    | none => cases hk
    | some ad => injection hk with hk; exact .inl ⟨ad, rfl, hk⟩)
  refine wpList_plain hgd fun _ hK => ?_
  unfold Oper.wp execOp
  simp only [ho, resolve, invoke, builtin, Sem.run_bind, Sem.run_pure, Result.andThen_ok, List.map_toArray, List.map_cons, List.map_nil, hs, hx, hrun]
  refine hK _ _ (h A' c' w' h2 hu (hu.toBelow hbase fun k hk ⟨ad, h1, h2⟩ => by have := (OwnC.lt hown h1).1; omega) ?_)
  intro ad hA
  subst hA
  rcases h5 with h5 | h5
  · left
    cases A with
    | none => cases h5
    | some ad => simp only [Value.ownBlock, Option.some.injEq] at h5; exact ⟨ad, rfl, h5.symm⟩
  · right
    simp only [Value.ownBlock, Option.some.injEq] at h5
    omega

theorem arcs_cells {w : World} {B : Option Addr} {m : Nat} {xs : List ArcR} (h : ArcsAt w B m xs) : 0 < m → ∃ bd, B = some bd ∧ ∀ j u, (arcsV xs)[j]? = some u → w.cell? (bd.add j) = some u := by
  intro hm
  obtain ⟨bd, e, _, hc⟩ := h.2 hm
  have hl := h.len
  refine ⟨bd, e, fun j u hj => ?_⟩
  have hjl : j < xs.length * 4 := by
    have := (List.getElem?_eq_some_iff.1 hj).1
    rwa [arcsV_len] at this
  have hk : j / 4 < xs.length := by omega
  have h1 := arcsV_get xs (j / 4) (j % 4) hk (by omega)
  rw [show j / 4 * 4 + j % 4 = j from by omega, hj] at h1
  have h2 := hc (j / 4) (by omega)
  obtain ⟨c0, c1, c2, c3⟩ := h2
  have hadd : ∀ i, 0 < i → bd.add (j / 4 * 4 + i) = ⟨(bd.add (j / 4 * 4)).block, (bd.add (j / 4 * 4)).off + i, none⟩ := by
    intro i hi
    unfold Addr.add
    rw [if_neg (by omega)]
    split
    · rename_i h; rw [h]; simp
    · simp [Nat.add_assoc]
  have hj4 : j % 4 = 0 ∨ j % 4 = 1 ∨ j % 4 = 2 ∨ j % 4 = 3 := by omega
  rw [show j = j / 4 * 4 + j % 4 from by omega]
  rcases hj4 with e4 | e4 | e4 | e4 <;> rw [e4] at h1 ⊢
  · rw [Nat.add_zero, c0]; simpa [ArcR.cells] using h1.symm
  · rw [hadd 1 (by omega), c1]; simpa [ArcR.cells] using h1.symm
  · rw [hadd 2 (by omega), c2]; simpa [ArcR.cells] using h1.symm
  · rw [hadd 3 (by omega), c3]; simpa [ArcR.cells] using h1.symm
theorem arcs_one (xs : List ArcR) : ∀ u ∈ arcsV xs, u.oneCell' = true := by
  intro u hu
  simp only [arcsV, List.mem_flatMap, ArcR.cells, List.mem_cons, List.not_mem_nil, or_false] at hu
  obtain ⟨a, _, h⟩ := hu
  rcases h with rfl | rfl | rfl | rfl <;> rfl
theorem arcsV_append (xs ys : List ArcR) : arcsV xs ++ arcsV ys = arcsV (xs ++ ys) := by simp [arcsV]
end Go.Proofs.Ytnljfhmdjhppmaa
