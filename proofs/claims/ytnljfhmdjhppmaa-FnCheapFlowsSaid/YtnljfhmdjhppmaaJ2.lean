/- Joined texts: More, Append, AppC. -/
import Derived.Test.YtnljfhmdjhppmaaZMark
import Derived.Test.YtnljfhmdjhppmaaZLaw
import Derived.Maps.AppendAt
import Derived.Test.YtnljfhmdjhppmaaZNetMem
namespace Go.Proofs.Ytnljfhmdjhppmaa
open Go.RowKit

/-- the cells of a slice that is read and known to lie at an address -/
theorem ints_cell {w : World} {ad : Addr} {n : Nat} {zs : List Int} (h : IntsAt w (some ad) n zs) {k : Nat} (hk : k < n) : w.cell? (ad.add k) = some (.int .i64 (zs.getD k 0)) := by
  obtain ⟨ad', e, _, hc⟩ := h.at_ hk
  injection e with e
  subst e
  exact hc
end Go.Proofs.Ytnljfhmdjhppmaa

namespace Go.Proofs.Ytnljfhmdjhppmaa
open Go.RowKit

/-- 'append(out, v)' of one int. The value v lies in a new block of one cell already. -/
theorem wp_append_int {P : Program} {ops : Array Oper} {rest : List Oper} {o : Oper} {a : Act} {Q : Exit → Act → World → Prop} (w : World) (v : Int)
    (hgd : o.guard = none) (s x : Operand) (t : TypeId) (ho : o.op = .call { callee := .builtin .append, args := #[s, x], argTypes := #[t, t] })
    (T base : Nat) (ht : P.underlying t = some (.slice T)) (hinfo : (P.info? T).map (fun i => (i.zero, i.size, i.bytes)) = some (some (.int .i64 0), 1, 8))
    (A : Option Addr) (n c : Nat) (zs : List Int) (hs : a.eval s = .slice A n c) (hown : OwnI T base w A n c zs) (hx : a.eval x = .slice (some ⟨w.heap.size, 0, none⟩) 1 1)
    (hn : n + 1 ≤ 17592186044416) (hbase : base ≤ w.heap.size)
    (h : ∀ (g c' : Nat) (w' : World), OwnI T base w' (some ⟨g, 0, none⟩) (n + 1) c' (zs ++ [v]) → Upd (blk A) w w' → Below base w w' → (blk A g ∨ w.heap.size ≤ g) → wpList P ops Q rest (a.put o.dst (.slice (some ⟨g, 0, none⟩) (n + 1) c')) w') :
    wpList P ops Q (o :: rest) a (w.alloc (.cells #[.int .i64 v] T)) := by
  obtain ⟨i0, hi, hz0, hz1, hz2⟩ := info_parts hinfo
  have hown1 : (w.alloc (.cells #[.int .i64 v] T)).ownsRow base T 1 (.slice A n c) n (zs.map (Value.int .i64)) := World.ownsRow.alloc hown _
  obtain ⟨v', w', hrun, h2, h3, _, h5⟩ := run_append_own_at (P := P) (w.alloc (.cells #[.int .i64 v] T)) base t o.type T i0 _ 1 8 ht hi hz0 hz1 hz2 rfl (by decide) _ n _ hown1 ⟨w.heap.size, 0, none⟩ 1 1 [.int .i64 v] rfl
    (by
      intro j u hj
      match j, hj with
      | 0, hj => simp at hj; subst hj; simp [Addr.add])
    (by intro u hu; simp at hu; subst hu; rfl) (by simp [maxLen]; omega) (by omega) (by simp; omega)
  have hform : ∃ g c', v' = .slice (some ⟨g, 0, none⟩) (n + 1) c' := by
    rcases h2.2 with ⟨_, h⟩ | ⟨g, cap, cur, h, _⟩
    · omega
    · exact ⟨g, cap, h⟩
  obtain ⟨g, c', rfl⟩ := hform
  have hu : Upd (blk A) (w.alloc (.cells #[.int .i64 v] T)) w' := (Upd.refl _ _).grown h3 (by
    intro k hk
    cases A with
    | none => cases hk
    | some ad => injection hk with hk; exact .inl ⟨ad, rfl, hk⟩)
  have hu' : Upd (blk A) w w' := ((Upd.refl _ w).alloc _).then hu (fun _ _ h => h)
  refine wpList_plain hgd fun _ hK => ?_
  unfold Oper.wp execOp
  simp only [ho, resolve, invoke, builtin, Sem.run_bind, Sem.run_pure, Result.andThen_ok, List.map_toArray, List.map_cons, List.map_nil, hs, hx, hrun]
  refine hK _ _ (h g c' w' ?_ hu' (hu'.toBelow hbase fun k hk ⟨ad, h1, h2⟩ => by have := (hown.lt h1).1; omega) ?_)
  · unfold OwnI
    rw [List.map_append]
    exact h2
  · rcases h5 with h5 | h5
    · left
      cases A with
      | none => cases h5
      | some ad => simp only [Value.ownBlock, Option.some.injEq] at h5; exact ⟨ad, rfl, h5.symm⟩
    · right
      simp only [Value.ownBlock, Option.some.injEq] at h5
      rw [h5]; simp

theorem ofInt_i64 (a : Nat) (ha : a < 9223372036854775808) : (BitVec.ofInt 64 (a : Int)).toNat = a := by
  rw [BitVec.ofInt_natCast, BitVec.toNat_ofNat]; exact Nat.mod_eq_of_lt (by omega)
theorem i64_and_nat (a b : Nat) (ha : a < 9223372036854775808) (hb : b < 9223372036854775808) : bits .and .i64 (a : Int) (b : Int) = ((a &&& b : Nat) : Int) := by
  have hx : a &&& b < 2 ^ 63 := Nat.and_lt_two_pow _ (by omega)
  show IntKind.i64.wrap ((BitVec.ofInt 64 (a : Int) &&& BitVec.ofInt 64 (b : Int)).toNat : Int) = _
  rw [BitVec.toNat_and, ofInt_i64 a ha, ofInt_i64 b hb, IntKind.wrap_i64]
  omega
theorem i64_or_nat (a b : Nat) (ha : a < 9223372036854775808) (hb : b < 9223372036854775808) : bits .or .i64 (a : Int) (b : Int) = ((a ||| b : Nat) : Int) := by
  have hx : a ||| b < 2 ^ 63 := Nat.or_lt_two_pow (by omega) (by omega)
  show IntKind.i64.wrap ((BitVec.ofInt 64 (a : Int) ||| BitVec.ofInt 64 (b : Int)).toNat : Int) = _
  rw [BitVec.toNat_or, ofInt_i64 a ha, ofInt_i64 b hb, IntKind.wrap_i64]
  omega
theorem i64_xor_nat (a b : Nat) (ha : a < 9223372036854775808) (hb : b < 9223372036854775808) : bits .xor .i64 (a : Int) (b : Int) = ((a ^^^ b : Nat) : Int) := by
  have hx : a ^^^ b < 2 ^ 63 := Nat.xor_lt_two_pow (by omega) (by omega)
  show IntKind.i64.wrap ((BitVec.ofInt 64 (a : Int) ^^^ BitVec.ofInt 64 (b : Int)).toNat : Int) = _
  rw [BitVec.toNat_xor, ofInt_i64 a ha, ofInt_i64 b hb, IntKind.wrap_i64]
  omega
theorem div_pow_cast (m k : Nat) : (m : Int) / 2 ^ k = ((m / 2 ^ k : Nat) : Int) := by
  rw [Int.natCast_ediv]; simp
theorem bit_test (m k : Nat) (hm : m < 9223372036854775808) : (bits .and .i64 ((m : Int) / 2 ^ k) 1 == 1) = m.testBit k := by
  rw [div_pow_cast, show (1 : Int) = ((1 : Nat) : Int) from rfl, i64_and_nat _ _ (Nat.lt_of_le_of_lt (Nat.div_le_self _ _) hm) (by omega), Nat.and_one_is_mod, Nat.testBit_eq_decide_div_mod_eq]
  by_cases h : m / 2 ^ k % 2 = 1
  · rw [h]; simp
  · have : m / 2 ^ k % 2 = 0 := by omega
    rw [this]; simp

/-- a without b -/
def andN (a b : Nat) : Nat := (BitVec.ofNat 64 a &&& ~~~ (BitVec.ofNat 64 b)).toNat
theorem andN_bit (a b i : Nat) (ha : a < 2 ^ 64) (hb : b < 2 ^ 64) : (andN a b).testBit i = (a.testBit i && !b.testBit i) := by
  unfold andN
  rw [BitVec.testBit_toNat, BitVec.getLsbD_and, BitVec.getLsbD_not, BitVec.getLsbD_ofNat, BitVec.getLsbD_ofNat]
  by_cases h : i < 64
  · simp [h]
  · have : a.testBit i = false := Nat.testBit_lt_two_pow (Nat.lt_of_lt_of_le ha (Nat.pow_le_pow_right (by omega) (by omega)))
    simp [h, this]
theorem andN_le (a b : Nat) : andN a b ≤ a := by
  unfold andN
  rw [BitVec.toNat_and]
  refine Nat.le_trans Nat.and_le_left ?_
  rw [BitVec.toNat_ofNat]
  exact Nat.mod_le _ _
theorem i64_andNot_nat (a b : Nat) (ha : a < 9223372036854775808) (_hb : b < 9223372036854775808) : bits .andNot .i64 (a : Int) (b : Int) = ((andN a b : Nat) : Int) := by
  have hx := andN_le a b
  show IntKind.i64.wrap ((BitVec.ofInt 64 (a : Int) &&& ~~~ BitVec.ofInt 64 (b : Int)).toNat : Int) = _
  rw [BitVec.ofInt_natCast, BitVec.ofInt_natCast]
  show IntKind.i64.wrap ((andN a b : Nat) : Int) = _
  rw [IntKind.wrap_i64]
  omega

def hasB (zs : List Int) (x : Int) : Bool := zs.contains x
theorem hasB_iff {zs : List Int} {x : Int} : hasB zs x = true ↔ x ∈ zs := by simp [hasB]
theorem hasB_not {zs : List Int} {x : Int} : hasB zs x = false ↔ x ∉ zs := by simp [hasB]
theorem hasB_step {zs : List Int} {n k : Nat} {y x : Int} (hl : zs.length = n) (hk : k < n) (hy : zs.getD k 0 = y) (hall : hasB (zs.take k) x = false) (hne : ¬ y = x) : hasB (zs.take (k + 1)) x = false := by
  rw [hasB_not] at hall ⊢
  have hl' : k < zs.length := by omega
  rw [List.take_succ_eq_append_getElem hl', List.mem_append, List.mem_singleton]
  simp [List.getD, List.getElem?_eq_getElem hl'] at hy
  rintro (h3 | h3)
  · exact hall h3
  · exact hne (by rw [← hy, h3])
theorem hasB_stop {zs : List Int} {n k : Nat} {y : Int} (hl : zs.length = n) (hk : k < n) (hy : zs.getD k 0 = y) : hasB zs y = true := by
  rw [hasB_iff, ← hy]
  simp [List.getD, List.getElem?_eq_getElem (show k < zs.length by omega)]
theorem hasB_done {zs : List Int} {n k : Nat} {x : Int} (hl : zs.length = n) (hk : ¬ k < n) (hall : hasB (zs.take k) x = false) : hasB zs x = false := by
  rwa [List.take_of_length_le (by omega)] at hall


end Go.Proofs.Ytnljfhmdjhppmaa

namespace Go.Proofs.Ytnljfhmdjhppmaa
open Go.RowKit

/-- 'append(out, src...)' of elements of some cells each: the source nil, empty or not. -/
theorem wp_append_cells {P : Program} {ops : Array Oper} {rest : List Oper} {o : Oper} {a : Act} {Q : Exit → Act → World → Prop} (w : World)
    (hgd : o.guard = none) (s x : Operand) (t : TypeId) (ho : o.op = .call { callee := .builtin .append, args := #[s, x], argTypes := #[t, t] })
    (T base : Nat) (ht : P.underlying t = some (.slice T)) (z : Value) (size bytes : Nat) (hinfo : (P.info? T).map (fun i => (i.zero, i.size, i.bytes)) = some (some z, size, bytes)) (hzc : z.cells.size = size) (hpos : 0 < size) (hby : bytes ≤ 256) (hsz : size ≤ 64)
    (A : Option Addr) (n c : Nat) (vs : List Value) (hs : a.eval s = .slice A n c) (hown : OwnC T base size w A n c vs)
    (B : Option Addr) (m d : Nat) (us : List Value) (hx : a.eval x = .slice B m d) (hul : us.length = m * size) (hr : 0 < m → ∃ bd, B = some bd ∧ ∀ j u, us[j]? = some u → w.cell? (bd.add j) = some u) (h1c : ∀ u ∈ us, u.oneCell' = true)
    (hn : n + m ≤ 17179869184) (hbase : base ≤ w.heap.size)
    (h : ∀ (A' : Option Addr) (c' : Nat) (w' : World), OwnC T base size w' A' (n + m) c' (vs ++ us) → Upd (blk A) w w' → Below base w w' → (∀ ad, A' = some ad → blk A ad.block ∨ w.heap.size ≤ ad.block) → wpList P ops Q rest (a.put o.dst (.slice A' (n + m) c')) w') :
    wpList P ops Q (o :: rest) a w := by
  obtain ⟨i0, hi, hz0, hz1, hz2⟩ := info_parts hinfo
  have hml : (n + m) * size ≤ maxLen := Nat.le_trans (Nat.mul_le_mul hn hsz) (by simp [maxLen])
  have hmb : (n + m) * bytes ≤ 17179869184 * 256 := Nat.mul_le_mul hn hby
  have key : ∃ v' w', (Builtin.append_ #[t, t] o.type #[.slice A n c, .slice B m d]).run P w = .ok v' w' ∧ w'.ownsRow base T size v' (n + m) (vs ++ us) ∧ w.grownBy w' (Value.slice A n c).ownBlock ∧
      (v'.ownBlock = (Value.slice A n c).ownBlock ∨ v'.ownBlock = some w.heap.size) := by
    cases B with
    | none =>
      have hm : m = 0 := by
        rcases Nat.eq_zero_or_pos m with h0 | h0
        · exact h0
        · obtain ⟨ad, h, _⟩ := hr h0; cases h
      subst hm
      have hn : us = [] := List.eq_nil_of_length_eq_zero (by simpa using hul)
      subst hn
      refine ⟨.slice A n c, w, ?_, by simpa [OwnC] using hown, World.grownBy.refl w _, .inl rfl⟩
      rcases hown.2 with ⟨h1, rfl⟩ | ⟨g, cap, cur, h1, _, _, hnc, _⟩
      · rw [h1]
        simp [Builtin.append_, run_underlying ht, sizeOf, typeInfo, hi, Builtin.lenOf, Builtin.firstCells]
      · rw [h1]
        simp [Builtin.append_, run_underlying ht, sizeOf, typeInfo, hi, Builtin.lenOf, Builtin.firstCells, hnc, storeCells]
    | some bd =>
      have hcells : ∀ j u, us[j]? = some u → w.cell? (bd.add j) = some u := by
        intro j u hu
        have hj : j < us.length := by
          rcases Nat.lt_or_ge j us.length with h1 | h1
          · exact h1
          · rw [List.getElem?_eq_none h1] at hu; cases hu
        have hm : 0 < m := by
          rcases Nat.eq_zero_or_pos m with h0 | h0
          · subst h0; omega
          · exact h0
        obtain ⟨ad, e, hc⟩ := hr hm
        injection e with e
        subst e
        exact hc j u hu
      obtain ⟨v', w', hrun, h2, h3, _, h5⟩ := run_append_own_at (P := P) w base t o.type T i0 _ size bytes ht hi hz0 hz1 hz2 hzc hpos (.slice A n c) n _ hown bd m d us hul hcells h1c (by first | exact hml | (simp [maxLen]; omega)) (by omega) hbase
      exact ⟨v', w', hrun, h2, h3, h5⟩
  obtain ⟨v', w', hrun, h2, h3, h5⟩ := key
  have hform : ∃ A' c', v' = .slice A' (n + m) c' := by
    rcases h2.2 with ⟨h, h'⟩ | ⟨g, cap, cur, h, _⟩
    · exact ⟨none, 0, by rw [h, h']⟩
    · exact ⟨_, cap, h⟩
  obtain ⟨A', c', rfl⟩ := hform
  have hu : Upd (blk A) w w' := (Upd.refl _ _).grown h3 (by
    intro k hk
    cases A with
    | none => cases hk
    | some ad => injection hk with hk; exact .inl ⟨ad, rfl, hk⟩)
  refine wpList_plain hgd fun _ hK => ?_
  unfold Oper.wp execOp
  simp only [ho, resolve, invoke, builtin, Sem.run_bind, Sem.run_pure, Result.andThen_ok, List.map_toArray, List.map_cons, List.map_nil, hs, hx, hrun]
  refine hK _ _ (h A' c' w' h2 hu (hu.toBelow hbase fun k hk ⟨ad, h1, h2⟩ => by have := (OwnC.lt hown h1).1; omega) ?_)
  intro ad hA
  subst hA
  rcases h5 with h5 | h5
  · left
    cases A with
    | none => cases h5
    | some ad => simp only [Value.ownBlock, Option.some.injEq] at h5; exact ⟨ad, rfl, h5.symm⟩
  · right
    simp only [Value.ownBlock, Option.some.injEq] at h5
    omega

theorem arcs_cells {w : World} {B : Option Addr} {m : Nat} {xs : List ArcR} (h : ArcsAt w B m xs) : 0 < m → ∃ bd, B = some bd ∧ ∀ j u, (arcsV xs)[j]? = some u → w.cell? (bd.add j) = some u := by
  intro hm
  obtain ⟨bd, e, _, hc⟩ := h.2 hm
  have hl := h.len
  refine ⟨bd, e, fun j u hj => ?_⟩
  have hjl : j < xs.length * 4 := by
    have := (List.getElem?_eq_some_iff.1 hj).1
    rwa [arcsV_len] at this
  have hk : j / 4 < xs.length := by omega
  have h1 := arcsV_get xs (j / 4) (j % 4) hk (by omega)
  rw [show j / 4 * 4 + j % 4 = j from by omega, hj] at h1
  have h2 := hc (j / 4) (by omega)
  obtain ⟨c0, c1, c2, c3⟩ := h2
  have hadd : ∀ i, 0 < i → bd.add (j / 4 * 4 + i) = ⟨(bd.add (j / 4 * 4)).block, (bd.add (j / 4 * 4)).off + i, none⟩ := by
    intro i hi
    unfold Addr.add
    rw [if_neg (by omega)]
    split
    · rename_i h; rw [h]; simp
    · simp [Nat.add_assoc]
  have hj4 : j % 4 = 0 ∨ j % 4 = 1 ∨ j % 4 = 2 ∨ j % 4 = 3 := by omega
  rw [show j = j / 4 * 4 + j % 4 from by omega]
  rcases hj4 with e4 | e4 | e4 | e4 <;> rw [e4] at h1 ⊢
  · rw [Nat.add_zero, c0]; simpa [ArcR.cells] using h1.symm
  · rw [hadd 1 (by omega), c1]; simpa [ArcR.cells] using h1.symm
  · rw [hadd 2 (by omega), c2]; simpa [ArcR.cells] using h1.symm
  · rw [hadd 3 (by omega), c3]; simpa [ArcR.cells] using h1.symm
theorem arcs_one (xs : List ArcR) : ∀ u ∈ arcsV xs, u.oneCell' = true := by
  intro u hu
  simp only [arcsV, List.mem_flatMap, ArcR.cells, List.mem_cons, List.not_mem_nil, or_false] at hu
  obtain ⟨a, _, h⟩ := hu
  rcases h with rfl | rfl | rfl | rfl <;> rfl
theorem arcsV_append (xs ys : List ArcR) : arcsV xs ++ arcsV ys = arcsV (xs ++ ys) := by simp [arcsV]
end Go.Proofs.Ytnljfhmdjhppmaa
