/- Joined texts: More, Flow, Append, AppC, Flow2, LongsPlain, Two. -/
import Derived.Test.YtpaahjeohigngaaZMark
import Derived.Test.YtpaahjeohigngaaZValid2
import Derived.Test.YtpaahjeohigngaaZLaw
import Derived.Maps.AppendAt
import Derived.Test.YtpaahjeohigngaaZNetMem
namespace Go.Proofs.Ytpaahjeohigngaa
open Go.RowKit

/-- the cells of a slice that is read and known to lie at an address -/
theorem ints_cell {w : World} {ad : Addr} {n : Nat} {zs : List Int} (h : IntsAt w (some ad) n zs) {k : Nat} (hk : k < n) : w.cell? (ad.add k) = some (.int .i64 (zs.getD k 0)) := by
  obtain ⟨ad', e, _, hc⟩ := h.at_ hk
  injection e with e
  subst e
  exact hc
end Go.Proofs.Ytpaahjeohigngaa

namespace Go.Proofs.Ytpaahjeohigngaa
open Go.RowKit

theorem arcs_cell {w : World} {ad : Addr} {n : Nat} {xs : List ArcR} (h : ArcsAt w (some ad) n xs) {k : Nat} (hk : k < n) : ArcCells w (ad.add (k * 4)) (xs.getD k default) := by
  obtain ⟨ad', e, _, hc⟩ := h.at_ hk
  injection e with e
  subst e
  exact hc

def flowOkTo (xs : List ArcR) (fl : List Int) (k : Nat) : Bool := (List.range k).all fun i => inB (fl.getD i 0) 0 (xs.getD i default).room
/-- a list is a flow of a net -/
def flowB (nodes : Int) (xs : List ArcR) (fl : List Int) : Bool := validB nodes xs && (decide (fl.length = xs.length) && flowOkTo xs fl xs.length)
theorem flowOkTo_succ (xs : List ArcR) (fl : List Int) (k : Nat) : flowOkTo xs fl (k + 1) = (flowOkTo xs fl k && inB (fl.getD k 0) 0 (xs.getD k default).room) := by
  unfold flowOkTo
  rw [List.range_succ, List.all_append]; simp
theorem flowOkTo_stop {xs : List ArcR} {fl : List Int} {k : Nat} (h : inB (fl.getD k 0) 0 (xs.getD k default).room = false) : ∀ d, flowOkTo xs fl (k + 1 + d) = false
  | 0 => by rw [Nat.add_zero, flowOkTo_succ, h, Bool.and_false]
  | d + 1 => by rw [← Nat.add_assoc, flowOkTo_succ, flowOkTo_stop h d, Bool.false_and]
theorem flowOkTo_at {xs : List ArcR} {fl : List Int} {n : Nat} (h : flowOkTo xs fl n = true) {k : Nat} (hk : k < n) : 0 ≤ fl.getD k 0 ∧ fl.getD k 0 ≤ (xs.getD k default).room := by
  unfold flowOkTo at h
  rw [List.all_eq_true] at h
  exact inB_iff.1 (h k (List.mem_range.2 hk))
theorem flowB_novalid {nodes : Int} {xs : List ArcR} {fl : List Int} (h : validB nodes xs = false) : flowB nodes xs fl = false := by simp [flowB, h]
theorem flowB_len {nodes : Int} {xs : List ArcR} {fl : List Int} (h : fl.length ≠ xs.length) : flowB nodes xs fl = false := by simp [flowB, h]
theorem flowB_yes {nodes : Int} {xs : List ArcR} {fl : List Int} (h : validB nodes xs = true) (h2 : fl.length = xs.length) : flowB nodes xs fl = flowOkTo xs fl xs.length := by simp [flowB, h, h2]

theorem valid_bd {nodes : Int} {xs : List ArcR} (h : validB nodes xs = true) : 2 ≤ nodes ∧ nodes ≤ 16 ∧ xs.length ≤ 48 ∧ ∀ k, k < xs.length → (0 ≤ (xs.getD k default).fr ∧ (xs.getD k default).fr < nodes) ∧ (0 ≤ (xs.getD k default).to_ ∧ (xs.getD k default).to_ < nodes) ∧ (xs.getD k default).fr ≠ (xs.getD k default).to_ ∧ (0 ≤ (xs.getD k default).room ∧ (xs.getD k default).room ≤ 1000000) ∧ (-1000 ≤ (xs.getD k default).cost ∧ (xs.getD k default).cost ≤ 1000) := by
  simp only [validB, Bool.and_eq_true, decide_eq_true_eq, List.all_eq_true] at h
  obtain ⟨h1, h2, h3⟩ := h
  obtain ⟨a, b⟩ := inB_iff.1 h1
  refine ⟨a, b, h2, fun k hk => ?_⟩
  have h4 := h3 (xs.getD k default) (by simp [List.getD, List.getElem?_eq_getElem hk])
  simp only [arcOkB, Bool.and_eq_true, decide_eq_true_eq, inB_iff] at h4
  obtain ⟨e1, e2, e3, e4, e5⟩ := h4
  exact ⟨⟨e1.1, by omega⟩, ⟨e2.1, by omega⟩, e3, e4, e5⟩
theorem flow_bd {nodes : Int} {xs : List ArcR} {fl : List Int} (h : flowB nodes xs fl = true) : validB nodes xs = true ∧ fl.length = xs.length ∧ ∀ k, k < xs.length → 0 ≤ fl.getD k 0 ∧ fl.getD k 0 ≤ (xs.getD k default).room ∧ fl.getD k 0 ≤ 1000000 := by
  simp only [flowB, Bool.and_eq_true, decide_eq_true_eq] at h
  obtain ⟨h1, h2, h3⟩ := h
  refine ⟨h1, h2, fun k hk => ?_⟩
  have h4 := flowOkTo_at h3 hk
  have h5 := ((valid_bd h1).2.2.2 k hk).2.2.2.1
  omega

theorem within_q (n lo hi : Int) (w : World) (m : Nat) :
    Calls Try.prog 52 #[.int .i64 n, .int .i64 lo, .int .i64 hi] (w.drewN m) fun e w'' => e = .returned (.bool (inB n lo hi)) ∧ ∃ q, w'' = w.drewN q := quiet_here (within_any n lo hi _)


end Go.Proofs.Ytpaahjeohigngaa

namespace Go.Proofs.Ytpaahjeohigngaa
open Go.RowKit

/-- 'append(out, v)' of one int. The value v lies in a new block of one cell already. -/
theorem wp_append_int {P : Program} {ops : Array Oper} {rest : List Oper} {o : Oper} {a : Act} {Q : Exit → Act → World → Prop} (w : World) (v : Int)
    (hgd : o.guard = none) (s x : Operand) (t : TypeId) (ho : o.op = .call { callee := .builtin .append, args := #[s, x], argTypes := #[t, t] })
    (T base : Nat) (ht : P.underlying t = some (.slice T)) (hinfo : (P.info? T).map (fun i => (i.zero, i.size, i.bytes)) = some (some (.int .i64 0), 1, 8))
    (A : Option Addr) (n c : Nat) (zs : List Int) (hs : a.eval s = .slice A n c) (hown : OwnI T base w A n c zs) (hx : a.eval x = .slice (some ⟨w.heap.size, 0, none⟩) 1 1)
    (hn : n + 1 ≤ 17592186044416) (hbase : base ≤ w.heap.size)
    (h : ∀ (g c' : Nat) (w' : World), OwnI T base w' (some ⟨g, 0, none⟩) (n + 1) c' (zs ++ [v]) → Upd (blk A) w w' → Below base w w' → (blk A g ∨ w.heap.size ≤ g) → wpList P ops Q rest (a.put o.dst (.slice (some ⟨g, 0, none⟩) (n + 1) c')) w') :
    wpList P ops Q (o :: rest) a (w.alloc (.cells #[.int .i64 v] T)) := by
  obtain ⟨i0, hi, hz0, hz1, hz2⟩ := info_parts hinfo
  have hown1 : (w.alloc (.cells #[.int .i64 v] T)).ownsRow base T 1 (.slice A n c) n (zs.map (Value.int .i64)) := World.ownsRow.alloc hown _
  obtain ⟨v', w', hrun, h2, h3, _, h5⟩ := run_append_own_at (P := P) (w.alloc (.cells #[.int .i64 v] T)) base t o.type T i0 _ 1 8 ht hi hz0 hz1 hz2 rfl (by decide) _ n _ hown1 ⟨w.heap.size, 0, none⟩ 1 1 [.int .i64 v] rfl
    (by
      intro j u hj
      match j, hj with
      | 0, hj => simp at hj; subst hj; simp [Addr.add])
    (by intro u hu; simp at hu; subst hu; rfl) (by simp [maxLen]; omega) (by omega) (by simp; omega)
  have hform : ∃ g c', v' = .slice (some ⟨g, 0, none⟩) (n + 1) c' := by
    rcases h2.2 with ⟨_, h⟩ | ⟨g, cap, cur, h, _⟩
    · omega
    · exact ⟨g, cap, h⟩
  obtain ⟨g, c', rfl⟩ := hform
  have hu : Upd (blk A) (w.alloc (.cells #[.int .i64 v] T)) w' := (Upd.refl _ _).grown h3 (by
    intro k hk
    cases A with
    | none => cases hk
    | some ad => injection hk with hk; exact .inl ⟨ad, rfl, hk⟩)
  have hu' : Upd (blk A) w w' := ((Upd.refl _ w).alloc _).then hu (fun _ _ h => h)
  refine wpList_plain hgd fun _ hK => ?_
  unfold Oper.wp execOp
  simp only [ho, resolve, invoke, builtin, Sem.run_bind, Sem.run_pure, Result.andThen_ok, List.map_toArray, List.map_cons, List.map_nil, hs, hx, hrun]
  refine hK _ _ (h g c' w' ?_ hu' (hu'.toBelow hbase fun k hk ⟨ad, h1, h2⟩ => by have := (hown.lt h1).1; omega) ?_)
  · unfold OwnI
    rw [List.map_append]
    exact h2
  · rcases h5 with h5 | h5
    · left
      cases A with
      | none => cases h5
      | some ad => simp only [Value.ownBlock, Option.some.injEq] at h5; exact ⟨ad, rfl, h5.symm⟩
    · right
      simp only [Value.ownBlock, Option.some.injEq] at h5
      rw [h5]; simp

theorem ofInt_i64 (a : Nat) (ha : a < 9223372036854775808) : (BitVec.ofInt 64 (a : Int)).toNat = a := by
  rw [BitVec.ofInt_natCast, BitVec.toNat_ofNat]; exact Nat.mod_eq_of_lt (by omega)
theorem i64_and_nat (a b : Nat) (ha : a < 9223372036854775808) (hb : b < 9223372036854775808) : bits .and .i64 (a : Int) (b : Int) = ((a &&& b : Nat) : Int) := by
  have hx : a &&& b < 2 ^ 63 := Nat.and_lt_two_pow _ (by omega)
  show IntKind.i64.wrap ((BitVec.ofInt 64 (a : Int) &&& BitVec.ofInt 64 (b : Int)).toNat : Int) = _
  rw [BitVec.toNat_and, ofInt_i64 a ha, ofInt_i64 b hb, IntKind.wrap_i64]
  omega
theorem i64_or_nat (a b : Nat) (ha : a < 9223372036854775808) (hb : b < 9223372036854775808) : bits .or .i64 (a : Int) (b : Int) = ((a ||| b : Nat) : Int) := by
  have hx : a ||| b < 2 ^ 63 := Nat.or_lt_two_pow (by omega) (by omega)
  show IntKind.i64.wrap ((BitVec.ofInt 64 (a : Int) ||| BitVec.ofInt 64 (b : Int)).toNat : Int) = _
  rw [BitVec.toNat_or, ofInt_i64 a ha, ofInt_i64 b hb, IntKind.wrap_i64]
  omega
theorem i64_xor_nat (a b : Nat) (ha : a < 9223372036854775808) (hb : b < 9223372036854775808) : bits .xor .i64 (a : Int) (b : Int) = ((a ^^^ b : Nat) : Int) := by
  have hx : a ^^^ b < 2 ^ 63 := Nat.xor_lt_two_pow (by omega) (by omega)
  show IntKind.i64.wrap ((BitVec.ofInt 64 (a : Int) ^^^ BitVec.ofInt 64 (b : Int)).toNat : Int) = _
  rw [BitVec.toNat_xor, ofInt_i64 a ha, ofInt_i64 b hb, IntKind.wrap_i64]
  omega
theorem div_pow_cast (m k : Nat) : (m : Int) / 2 ^ k = ((m / 2 ^ k : Nat) : Int) := by
  rw [Int.natCast_ediv]; simp
theorem bit_test (m k : Nat) (hm : m < 9223372036854775808) : (bits .and .i64 ((m : Int) / 2 ^ k) 1 == 1) = m.testBit k := by
  rw [div_pow_cast, show (1 : Int) = ((1 : Nat) : Int) from rfl, i64_and_nat _ _ (Nat.lt_of_le_of_lt (Nat.div_le_self _ _) hm) (by omega), Nat.and_one_is_mod, Nat.testBit_eq_decide_div_mod_eq]
  by_cases h : m / 2 ^ k % 2 = 1
  · rw [h]; simp
  · have : m / 2 ^ k % 2 = 0 := by omega
    rw [this]; simp

/-- a without b -/
def andN (a b : Nat) : Nat := (BitVec.ofNat 64 a &&& ~~~ (BitVec.ofNat 64 b)).toNat
theorem andN_bit (a b i : Nat) (ha : a < 2 ^ 64) (hb : b < 2 ^ 64) : (andN a b).testBit i = (a.testBit i && !b.testBit i) := by
  unfold andN
  rw [BitVec.testBit_toNat, BitVec.getLsbD_and, BitVec.getLsbD_not, BitVec.getLsbD_ofNat, BitVec.getLsbD_ofNat]
  by_cases h : i < 64
  · simp [h]
  · have : a.testBit i = false := Nat.testBit_lt_two_pow (Nat.lt_of_lt_of_le ha (Nat.pow_le_pow_right (by omega) (by omega)))
    simp [h, this]
theorem andN_le (a b : Nat) : andN a b ≤ a := by
  unfold andN
  rw [BitVec.toNat_and]
  refine Nat.le_trans Nat.and_le_left ?_
  rw [BitVec.toNat_ofNat]
  exact Nat.mod_le _ _
theorem i64_andNot_nat (a b : Nat) (ha : a < 9223372036854775808) (_hb : b < 9223372036854775808) : bits .andNot .i64 (a : Int) (b : Int) = ((andN a b : Nat) : Int) := by
  have hx := andN_le a b
  show IntKind.i64.wrap ((BitVec.ofInt 64 (a : Int) &&& ~~~ BitVec.ofInt 64 (b : Int)).toNat : Int) = _
  rw [BitVec.ofInt_natCast, BitVec.ofInt_natCast]
  show IntKind.i64.wrap ((andN a b : Nat) : Int) = _
  rw [IntKind.wrap_i64]
  omega

def hasB (zs : List Int) (x : Int) : Bool := zs.contains x
theorem hasB_iff {zs : List Int} {x : Int} : hasB zs x = true ↔ x ∈ zs := by simp [hasB]
theorem hasB_not {zs : List Int} {x : Int} : hasB zs x = false ↔ x ∉ zs := by simp [hasB]
theorem hasB_step {zs : List Int} {n k : Nat} {y x : Int} (hl : zs.length = n) (hk : k < n) (hy : zs.getD k 0 = y) (hall : hasB (zs.take k) x = false) (hne : ¬ y = x) : hasB (zs.take (k + 1)) x = false := by
  rw [hasB_not] at hall ⊢
  have hl' : k < zs.length := by omega
  rw [List.take_succ_eq_append_getElem hl', List.mem_append, List.mem_singleton]
  simp [List.getD, List.getElem?_eq_getElem hl'] at hy
  rintro (h3 | h3)
  · exact hall h3
  · exact hne (by rw [← hy, h3])
theorem hasB_stop {zs : List Int} {n k : Nat} {y : Int} (hl : zs.length = n) (hk : k < n) (hy : zs.getD k 0 = y) : hasB zs y = true := by
  rw [hasB_iff, ← hy]
  simp [List.getD, List.getElem?_eq_getElem (show k < zs.length by omega)]
theorem hasB_done {zs : List Int} {n k : Nat} {x : Int} (hl : zs.length = n) (hk : ¬ k < n) (hall : hasB (zs.take k) x = false) : hasB zs x = false := by
  rwa [List.take_of_length_le (by omega)] at hall


end Go.Proofs.Ytpaahjeohigngaa

namespace Go.Proofs.Ytpaahjeohigngaa
open Go.RowKit

/-- 'append(out, src...)' of elements of some cells each: the source nil, empty or not. -/
theorem wp_append_cells {P : Program} {ops : Array Oper} {rest : List Oper} {o : Oper} {a : Act} {Q : Exit → Act → World → Prop} (w : World)
    (hgd : o.guard = none) (s x : Operand) (t : TypeId) (ho : o.op = .call { callee := .builtin .append, args := #[s, x], argTypes := #[t, t] })
    (T base : Nat) (ht : P.underlying t = some (.slice T)) (z : Value) (size bytes : Nat) (hinfo : (P.info? T).map (fun i => (i.zero, i.size, i.bytes)) = some (some z, size, bytes)) (hzc : z.cells.size = size) (hpos : 0 < size) (hby : bytes ≤ 256) (hsz : size ≤ 64)
    (A : Option Addr) (n c : Nat) (vs : List Value) (hs : a.eval s = .slice A n c) (hown : OwnC T base size w A n c vs)
    (B : Option Addr) (m d : Nat) (us : List Value) (hx : a.eval x = .slice B m d) (hul : us.length = m * size) (hr : 0 < m → ∃ bd, B = some bd ∧ ∀ j u, us[j]? = some u → w.cell? (bd.add j) = some u) (h1c : ∀ u ∈ us, u.oneCell' = true)
    (hn : n + m ≤ 17179869184) (hbase : base ≤ w.heap.size)
    (h : ∀ (A' : Option Addr) (c' : Nat) (w' : World), OwnC T base size w' A' (n + m) c' (vs ++ us) → Upd (blk A) w w' → Below base w w' → (∀ ad, A' = some ad → blk A ad.block ∨ w.heap.size ≤ ad.block) → wpList P ops Q rest (a.put o.dst (.slice A' (n + m) c')) w') :
    wpList P ops Q (o :: rest) a w := by
  obtain ⟨i0, hi, hz0, hz1, hz2⟩ := info_parts hinfo
  have hml : (n + m) * size ≤ maxLen := Nat.le_trans (Nat.mul_le_mul hn hsz) (by simp [maxLen])
  have hmb : (n + m) * bytes ≤ 17179869184 * 256 := Nat.mul_le_mul hn hby
  have key : ∃ v' w', (Builtin.append_ #[t, t] o.type #[.slice A n c, .slice B m d]).run P w = .ok v' w' ∧ w'.ownsRow base T size v' (n + m) (vs ++ us) ∧ w.grownBy w' (Value.slice A n c).ownBlock ∧
      (v'.ownBlock = (Value.slice A n c).ownBlock ∨ v'.ownBlock = some w.heap.size) := by
    cases B with
    | none =>
      have hm : m = 0 := by
        rcases Nat.eq_zero_or_pos m with h0 | h0
        · exact h0
        · obtain ⟨ad, h, _⟩ := hr h0; cases h
      subst hm
      have hn : us = [] := List.eq_nil_of_length_eq_zero (by simpa using hul)
      subst hn
      refine ⟨.slice A n c, w, ?_, by simpa [OwnC] using hown, World.grownBy.refl w _, .inl rfl⟩
      rcases hown.2 with ⟨h1, rfl⟩ | ⟨g, cap, cur, h1, _, _, hnc, _⟩
      · rw [h1]
        simp [Builtin.append_, run_underlying ht, sizeOf, typeInfo, hi, Builtin.lenOf, Builtin.firstCells]
      · rw [h1]
        simp [Builtin.append_, run_underlying ht, sizeOf, typeInfo, hi, Builtin.lenOf, Builtin.firstCells, hnc, storeCells]
    | some bd =>
      have hcells : ∀ j u, us[j]? = some u → w.cell? (bd.add j) = some u := by
        intro j u hu
        have hj : j < us.length := by
          rcases Nat.lt_or_ge j us.length with h1 | h1
          · exact h1
          · rw [List.getElem?_eq_none h1] at hu; cases hu
        have hm : 0 < m := by
          rcases Nat.eq_zero_or_pos m with h0 | h0
          · subst h0; omega
          · exact h0
        obtain ⟨ad, e, hc⟩ := hr hm
        injection e with e
        subst e
        exact hc j u hu
      obtain ⟨v', w', hrun, h2, h3, _, h5⟩ := run_append_own_at (P := P) w base t o.type T i0 _ size bytes ht hi hz0 hz1 hz2 hzc hpos (.slice A n c) n _ hown bd m d us hul hcells h1c (by first | exact hml | (simp [maxLen]; omega)) (by omega) hbase
      exact ⟨v', w', hrun, h2, h3, h5⟩
  obtain ⟨v', w', hrun, h2, h3, h5⟩ := key
  have hform : ∃ A' c', v' = .slice A' (n + m) c' := by
    rcases h2.2 with ⟨h, h'⟩ | ⟨g, cap, cur, h, _⟩
    · exact ⟨none, 0, by rw [h, h']⟩
    · exact ⟨_, cap, h⟩
  obtain ⟨A', c', rfl⟩ := hform
  have hu : Upd (blk A) w w' := (Upd.refl _ _).grown h3 (by
    intro k hk
    cases A with
    | none => cases hk
    | some ad => injection hk with hk; exact .inl ⟨ad, rfl, hk⟩)
  refine wpList_plain hgd fun _ hK => ?_
  unfold Oper.wp execOp
  simp only [ho, resolve, invoke, builtin, Sem.run_bind, Sem.run_pure, Result.andThen_ok, List.map_toArray, List.map_cons, List.map_nil, hs, hx, hrun]
  refine hK _ _ (h A' c' w' h2 hu (hu.toBelow hbase fun k hk ⟨ad, h1, h2⟩ => by have := (OwnC.lt hown h1).1; omega) ?_)
  intro ad hA
  subst hA
  rcases h5 with h5 | h5
  · left
    cases A with
    | none => cases h5
    | some ad => simp only [Value.ownBlock, Option.some.injEq] at h5; exact ⟨ad, rfl, h5.symm⟩
  · right
    simp only [Value.ownBlock, Option.some.injEq] at h5
    omega

theorem arcs_cells {w : World} {B : Option Addr} {m : Nat} {xs : List ArcR} (h : ArcsAt w B m xs) : 0 < m → ∃ bd, B = some bd ∧ ∀ j u, (arcsV xs)[j]? = some u → w.cell? (bd.add j) = some u := by
  intro hm
  obtain ⟨bd, e, _, hc⟩ := h.2 hm
  have hl := h.len
  refine ⟨bd, e, fun j u hj => ?_⟩
  have hjl : j < xs.length * 4 := by
    have := (List.getElem?_eq_some_iff.1 hj).1
    rwa [arcsV_len] at this
  have hk : j / 4 < xs.length := by omega
  have h1 := arcsV_get xs (j / 4) (j % 4) hk (by omega)
  rw [show j / 4 * 4 + j % 4 = j from by omega, hj] at h1
  have h2 := hc (j / 4) (by omega)
  obtain ⟨c0, c1, c2, c3⟩ := h2
  have hadd : ∀ i, 0 < i → bd.add (j / 4 * 4 + i) = ⟨(bd.add (j / 4 * 4)).block, (bd.add (j / 4 * 4)).off + i, none⟩ := by
    intro i hi
    unfold Addr.add
    rw [if_neg (by omega)]
    split
    · rename_i h; rw [h]; simp
    · simp [Nat.add_assoc]
  have hj4 : j % 4 = 0 ∨ j % 4 = 1 ∨ j % 4 = 2 ∨ j % 4 = 3 := by omega
  rw [show j = j / 4 * 4 + j % 4 from by omega]
  rcases hj4 with e4 | e4 | e4 | e4 <;> rw [e4] at h1 ⊢
  · rw [Nat.add_zero, c0]; simpa [ArcR.cells] using h1.symm
  · rw [hadd 1 (by omega), c1]; simpa [ArcR.cells] using h1.symm
  · rw [hadd 2 (by omega), c2]; simpa [ArcR.cells] using h1.symm
  · rw [hadd 3 (by omega), c3]; simpa [ArcR.cells] using h1.symm
theorem arcs_one (xs : List ArcR) : ∀ u ∈ arcsV xs, u.oneCell' = true := by
  intro u hu
  simp only [arcsV, List.mem_flatMap, ArcR.cells, List.mem_cons, List.not_mem_nil, or_false] at hu
  obtain ⟨a, _, h⟩ := hu
  rcases h with rfl | rfl | rfl | rfl <;> rfl
theorem arcsV_append (xs ys : List ArcR) : arcsV xs ++ arcsV ys = arcsV (xs ++ ys) := by simp [arcsV]
end Go.Proofs.Ytpaahjeohigngaa

namespace Go.Proofs.Ytpaahjeohigngaa
open Go.RowKit

def costTo (xs : List ArcR) (fl : List Int) (k : Nat) : Int := (List.range k).foldl (fun s i => s + fl.getD i 0 * (xs.getD i default).cost) 0
theorem costTo_succ (xs : List ArcR) (fl : List Int) (k : Nat) : costTo xs fl (k + 1) = costTo xs fl k + fl.getD k 0 * (xs.getD k default).cost := by
  unfold costTo
  rw [List.range_succ, List.foldl_append]; rfl
theorem mul_bd {y q : Int} (h0 : 0 ≤ y) (h1 : y ≤ 1000000) (h2 : -1000 ≤ q) (h3 : q ≤ 1000) : -1000000000 ≤ y * q ∧ y * q ≤ 1000000000 := by
  have a : y * q ≤ 1000000 * 1000 := by
    by_cases hq : 0 ≤ q
    · exact Int.mul_le_mul h1 h3 hq (by omega)
    · have : y * q ≤ 0 := Int.mul_nonpos_of_nonneg_of_nonpos h0 (by omega)
      omega
  have b : y * (-q) ≤ 1000000 * 1000 := by
    by_cases hq : 0 ≤ -q
    · exact Int.mul_le_mul h1 (by omega) hq (by omega)
    · have : y * (-q) ≤ 0 := Int.mul_nonpos_of_nonneg_of_nonpos h0 (by omega)
      omega
  rw [Int.mul_neg] at b
  omega
def outTo (xs : List ArcR) (fl : List Int) (node : Int) (k : Nat) : Int := (List.range k).foldl (fun s i => s + (if (xs.getD i default).fr = node then fl.getD i 0 else 0) - (if (xs.getD i default).to_ = node then fl.getD i 0 else 0)) 0
theorem outTo_succ (xs : List ArcR) (fl : List Int) (node : Int) (k : Nat) : outTo xs fl node (k + 1) = outTo xs fl node k + (if (xs.getD k default).fr = node then fl.getD k 0 else 0) - (if (xs.getD k default).to_ = node then fl.getD k 0 else 0) := by
  unfold outTo
  rw [List.range_succ, List.foldl_append]; rfl
theorem outTo_bd {xs : List ArcR} {fl : List Int} {n : Nat} (node : Int) (hf : ∀ k, k < n → 0 ≤ fl.getD k 0 ∧ fl.getD k 0 ≤ 1000000) : ∀ k, k ≤ n → -1000000 * (k : Int) ≤ outTo xs fl node k ∧ outTo xs fl node k ≤ 1000000 * (k : Int)
  | 0, _ => by simp [outTo]
  | k + 1, h => by
    have := outTo_bd (xs := xs) node hf k (by omega)
    have := hf k (by omega)
    rw [outTo_succ]
    split <;> split <;> omega




end Go.Proofs.Ytpaahjeohigngaa

namespace Go.Proofs.Ytpaahjeohigngaa
open Go.RowKit

/-- walks: the arcs' indices -/
def IsWalk (xs : List ArcR) : Int → List Nat → Int → Prop
  | u, [], v => u = v
  | u, i :: p, v => i < xs.length ∧ (xs.getD i default).fr = u ∧ IsWalk xs (xs.getD i default).to_ p v
def walkCost (xs : List ArcR) : List Nat → Int
  | [] => 0
  | i :: p => (xs.getD i default).cost + walkCost xs p
/-- a walk never comes to a node (its start included) -/
def Avoid (xs : List ArcR) (u : Int) : Int → List Nat → Prop
  | x, [] => x ≠ u
  | x, i :: p => x ≠ u ∧ Avoid xs u (xs.getD i default).to_ p
def Inside (xs : List ArcR) (S : List Int) : Int → List Nat → Prop
  | x, [] => x ∈ S
  | x, i :: p => x ∈ S ∧ Inside xs S (xs.getD i default).to_ p
theorem walkCost_pos {xs : List ArcR} (hc : ∀ i, i < xs.length → 0 ≤ (xs.getD i default).cost) : ∀ (p : List Nat) (u v : Int), IsWalk xs u p v → 0 ≤ walkCost xs p
  | [], _, _, _ => Int.le_refl _
  | i :: p, u, v, h => by
    rw [IsWalk] at h
    have := walkCost_pos hc p _ v h.2.2
    have := hc i h.1
    rw [walkCost]; omega
theorem inside_avoid {xs : List ArcR} {S : List Int} {u : Int} : ∀ (p : List Nat) (x : Int), Inside xs S x p → Avoid xs u x p → Inside xs (S.erase u) x p
  | [], x, h, h2 => by rw [Inside] at *; rw [Avoid] at h2; exact (List.mem_erase_of_ne h2).2 h
  | i :: p, x, h, h2 => by
    rw [Inside] at *; rw [Avoid] at h2
    exact ⟨(List.mem_erase_of_ne h2.1).2 h.1, inside_avoid p _ h.2 h2.2⟩
/-- behind the last time that a walk comes to u -/
theorem last_visit {xs : List ArcR} (hc : ∀ i, i < xs.length → 0 ≤ (xs.getD i default).cost) (S : List Int) (u v : Int) : ∀ (p : List Nat) (x : Int), IsWalk xs x p v → Inside xs S x p →
    Avoid xs u x p ∨ ∃ c, IsWalk xs u c v ∧ walkCost xs c ≤ walkCost xs p ∧ Inside xs S u c ∧ (c = [] ∨ ∃ i c', c = i :: c' ∧ Avoid xs u (xs.getD i default).to_ c')
  | [], x, h, h2 => by
    rw [IsWalk] at h
    by_cases e : x = u
    · subst e
      exact .inr ⟨[], h, Int.le_refl _, h2, .inl rfl⟩
    · exact .inl e
  | i :: p, x, h, h2 => by
    have h' := h
    have h2' := h2
    rw [IsWalk] at h'
    rw [Inside] at h2'
    have hci := hc i h'.1
    rcases last_visit hc S u v p _ h'.2.2 h2'.2 with h3 | ⟨c, c1, c2, c3, c4⟩
    · by_cases e : x = u
      · subst e
        exact .inr ⟨i :: p, h, Int.le_refl _, h2, .inr ⟨i, p, rfl, h3⟩⟩
      · exact .inl ⟨e, h3⟩
    · exact .inr ⟨c, c1, by rw [walkCost]; omega, c3, c4⟩
/-- a walk can be cut short -/
theorem short_walk {xs : List ArcR} (hc : ∀ i, i < xs.length → 0 ≤ (xs.getD i default).cost) (v : Int) : ∀ (b : Nat) (S : List Int) (u : Int) (p : List Nat), S.length ≤ b → IsWalk xs u p v → Inside xs S u p →
    ∃ c, IsWalk xs u c v ∧ walkCost xs c ≤ walkCost xs p ∧ c.length + 1 ≤ S.length
  | 0, S, u, p, hb, h, h2 => by
    have hS : S = [] := List.eq_nil_of_length_eq_zero (by omega)
    subst hS
    cases p with
    | nil => rw [Inside] at h2; cases h2
    | cons i p => rw [Inside] at h2; cases h2.1
  | b + 1, S, u, p, hb, h, h2 => by
    have hu : u ∈ S := by
      cases p with
      | nil => exact h2
      | cons i p => exact h2.1
    have hpos := List.length_pos_of_mem hu
    rcases last_visit hc S u v p u h h2 with h3 | ⟨c, c1, c2, c3, c4⟩
    · exfalso
      cases p with
      | nil => exact h3 rfl
      | cons i p => exact h3.1 rfl
    · rcases c4 with rfl | ⟨i, c', rfl, c5⟩
      · exact ⟨[], c1, c2, by simp; omega⟩
      · rw [IsWalk] at c1
        rw [Inside] at c3
        have hl := List.length_erase_of_mem hu
        obtain ⟨c'', e1, e2, e3⟩ := short_walk hc v b (S.erase u) _ c' (by omega) c1.2.2 (inside_avoid c' _ c3.2 c5)
        rw [walkCost] at c2
        exact ⟨i :: c'', ⟨c1.1, c1.2.1, e1⟩, by rw [walkCost]; omega, by simp; omega⟩
theorem inside_all {xs : List ArcR} {N : Nat} (hx : ∀ i, i < xs.length → 0 ≤ (xs.getD i default).to_ ∧ (xs.getD i default).to_ < N) (v : Int) : ∀ (p : List Nat) (u : Int), 0 ≤ u → u < N → IsWalk xs u p v → Inside xs ((List.range N).map fun (j : Nat) => (j : Int)) u p
  | [], u, h0, h1, _ => by
    rw [Inside, List.mem_map]
    exact ⟨u.toNat, List.mem_range.2 (by omega), by omega⟩
  | i :: p, u, h0, h1, h => by
    rw [IsWalk] at h
    rw [Inside, List.mem_map]
    obtain ⟨a, b⟩ := hx i h.1
    exact ⟨⟨u.toNat, List.mem_range.2 (by omega), by omega⟩, inside_all hx v p _ a b h.2.2⟩
theorem walk_short {xs : List ArcR} {N : Nat} (hc : ∀ i, i < xs.length → 0 ≤ (xs.getD i default).cost) (hx : ∀ i, i < xs.length → 0 ≤ (xs.getD i default).to_ ∧ (xs.getD i default).to_ < N) {u v : Int} (h0 : 0 ≤ u) (h1 : u < N) {p : List Nat} (h : IsWalk xs u p v) :
    ∃ c, IsWalk xs u c v ∧ walkCost xs c ≤ walkCost xs p ∧ c.length + 1 ≤ N := by
  have := short_walk hc v N ((List.range N).map fun (j : Nat) => (j : Int)) u p (by simp) h (inside_all hx v p u h0 h1 h)
  simpa using this

/-- the first k arcs of a round; -1 is unknown -/
def relaxTo (xs : List ArcR) (D : List Int) : Nat → List Int
  | 0 => D
  | k + 1 => if 0 ≤ (relaxTo xs D k).getD (xs.getD k default).fr.toNat 0 ∧ ((relaxTo xs D k).getD (xs.getD k default).to_.toNat 0 < 0 ∨ (relaxTo xs D k).getD (xs.getD k default).fr.toNat 0 + (xs.getD k default).cost < (relaxTo xs D k).getD (xs.getD k default).to_.toNat 0)
      then (relaxTo xs D k).set (xs.getD k default).to_.toNat ((relaxTo xs D k).getD (xs.getD k default).fr.toNat 0 + (xs.getD k default).cost) else relaxTo xs D k
def roundsL (xs : List ArcR) (N f : Nat) : Nat → List Int
  | 0 => (List.replicate N (-1)).set f 0
  | r + 1 => relaxTo xs (roundsL xs N f r) xs.length

/-- a list's numbers are costs of walks -/
def Sound (xs : List ArcR) (N f : Nat) (D : List Int) : Prop := D.length = N ∧ ∀ v, v < N → D.getD v 0 = -1 ∨ (0 ≤ D.getD v 0 ∧ ∃ p, IsWalk xs f p v ∧ walkCost xs p = D.getD v 0)
/-- no walk of at most r arcs costs less -/
def Tight (xs : List ArcR) (N f : Nat) (D : List Int) (r : Nat) : Prop := ∀ v, v < N → ∀ p, IsWalk xs f p v → p.length ≤ r → 0 ≤ D.getD v 0 ∧ D.getD v 0 ≤ walkCost xs p
theorem walk_snoc {xs : List ArcR} : ∀ (p : List Nat) (u : Int) (k : Nat), IsWalk xs u p (xs.getD k default).fr → k < xs.length → IsWalk xs u (p ++ [k]) (xs.getD k default).to_ ∧ walkCost xs (p ++ [k]) = walkCost xs p + (xs.getD k default).cost
  | [], u, k, h, hk => by
    rw [IsWalk] at h
    exact ⟨⟨hk, h.symm, rfl⟩, by simp [walkCost]⟩
  | i :: p, u, k, h, hk => by
    rw [IsWalk] at h
    obtain ⟨a, b⟩ := walk_snoc p _ k h.2.2 hk
    exact ⟨⟨h.1, h.2.1, a⟩, by rw [List.cons_append, walkCost, walkCost, b]; omega⟩
theorem walk_split {xs : List ArcR} : ∀ (p : List Nat) (u v : Int), IsWalk xs u p v → p ≠ [] → ∃ q k, p = q ++ [k] ∧ k < xs.length ∧ IsWalk xs u q (xs.getD k default).fr ∧ (xs.getD k default).to_ = v
  | [], _, _, _, h => absurd rfl h
  | [i], u, v, h, _ => by
    rw [IsWalk, IsWalk] at h
    exact ⟨[], i, rfl, h.1, h.2.1.symm, h.2.2⟩
  | i :: j :: p, u, v, h, _ => by
    have h' := h
    rw [IsWalk] at h'
    obtain ⟨q, k, e1, e2, e3, e4⟩ := walk_split (j :: p) _ v h'.2.2 (List.cons_ne_nil _ _)
    exact ⟨i :: q, k, by rw [e1]; rfl, e2, ⟨h'.1, h'.2.1, e3⟩, e4⟩
theorem getD_setL (zs : List Int) (i j : Nat) (x : Int) (h : i < zs.length) : (zs.set i x).getD j 0 = if i = j then x else zs.getD j 0 := by
  simp only [List.getD, List.getElem?_set]
  by_cases e : i = j
  · subst e; simp [h]
  · simp [e]
section
variable {xs : List ArcR} {N f : Nat}
theorem relax_sound (hc : ∀ i, i < xs.length → 0 ≤ (xs.getD i default).cost) (hx : ∀ i, i < xs.length → (0 ≤ (xs.getD i default).fr ∧ (xs.getD i default).fr < N) ∧ (0 ≤ (xs.getD i default).to_ ∧ (xs.getD i default).to_ < N)) {D : List Int} (h : Sound xs N f D) : ∀ k, k ≤ xs.length → Sound xs N f (relaxTo xs D k) ∧ ∀ v, v < N → 0 ≤ D.getD v 0 → 0 ≤ (relaxTo xs D k).getD v 0 ∧ (relaxTo xs D k).getD v 0 ≤ D.getD v 0
  | 0, _ => ⟨h, fun v _ h0 => ⟨h0, Int.le_refl _⟩⟩
  | k + 1, hk => by
    obtain ⟨⟨hl, hs⟩, hm⟩ := relax_sound hc hx h k (by omega)
    obtain ⟨⟨a0, a1⟩, ⟨b0, b1⟩⟩ := hx k (by omega)
    have hck := hc k (by omega)
    rw [relaxTo]
    split
    · rename_i hcond
      obtain ⟨c1, c2⟩ := hcond
      have hset : ∀ v, ((relaxTo xs D k).set (xs.getD k default).to_.toNat ((relaxTo xs D k).getD (xs.getD k default).fr.toNat 0 + (xs.getD k default).cost)).getD v 0 = if (xs.getD k default).to_.toNat = v then (relaxTo xs D k).getD (xs.getD k default).fr.toNat 0 + (xs.getD k default).cost else (relaxTo xs D k).getD v 0 := fun v => getD_setL _ _ v _ (by rw [hl]; omega)
      refine ⟨⟨by rw [List.length_set]; exact hl, fun v hv => ?_⟩, fun v hv h0 => ?_⟩
      · rw [hset v]
        by_cases e : (xs.getD k default).to_.toNat = v
        · rw [if_pos e]
          refine .inr ⟨by omega, ?_⟩
          rcases hs (xs.getD k default).fr.toNat (by omega) with h1 | ⟨_, p, p1, p2⟩
          · omega
          · rw [show (((xs.getD k default).fr.toNat : Nat) : Int) = (xs.getD k default).fr by omega] at p1
            obtain ⟨q1, q2⟩ := walk_snoc p _ k p1 (by omega)
            refine ⟨p ++ [k], ?_, by rw [q2, p2]⟩
            rw [show (v : Int) = (xs.getD k default).to_ by omega]
            exact q1
        · rw [if_neg e]; exact hs v hv
      · obtain ⟨m1, m2⟩ := hm v hv h0
        rw [hset v]
        by_cases e : (xs.getD k default).to_.toNat = v
        · rw [if_pos e]
          subst e
          rcases c2 with c2 | c2 <;> omega
        · rw [if_neg e]; exact ⟨m1, m2⟩
    · exact ⟨⟨hl, hs⟩, hm⟩
theorem relax_step (hx : ∀ i, i < xs.length → (0 ≤ (xs.getD i default).fr ∧ (xs.getD i default).fr < N) ∧ (0 ≤ (xs.getD i default).to_ ∧ (xs.getD i default).to_ < N)) {D : List Int} {k : Nat} (hk : k < xs.length) (hl : (relaxTo xs D k).length = N) (hc0 : 0 ≤ (xs.getD k default).cost) {v : Nat} (h0 : 0 ≤ (relaxTo xs D k).getD v 0) :
    0 ≤ (relaxTo xs D (k + 1)).getD v 0 ∧ (relaxTo xs D (k + 1)).getD v 0 ≤ (relaxTo xs D k).getD v 0 := by
  obtain ⟨⟨a0, a1⟩, ⟨b0, b1⟩⟩ := hx k hk
  rw [relaxTo]
  split
  · rename_i hcond
    obtain ⟨c1, c2⟩ := hcond
    rw [getD_setL _ _ v _ (by rw [hl]; omega)]
    by_cases e : (xs.getD k default).to_.toNat = v
    · rw [if_pos e]
      subst e
      rcases c2 with c2 | c2 <;> omega
    · rw [if_neg e]; exact ⟨h0, Int.le_refl _⟩
  · exact ⟨h0, Int.le_refl _⟩
theorem relax_done (hc : ∀ i, i < xs.length → 0 ≤ (xs.getD i default).cost) (hx : ∀ i, i < xs.length → (0 ≤ (xs.getD i default).fr ∧ (xs.getD i default).fr < N) ∧ (0 ≤ (xs.getD i default).to_ ∧ (xs.getD i default).to_ < N)) {D : List Int} (h : Sound xs N f D) : ∀ k, k ≤ xs.length → ∀ j, j < k → 0 ≤ D.getD (xs.getD j default).fr.toNat 0 →
    0 ≤ (relaxTo xs D k).getD (xs.getD j default).to_.toNat 0 ∧ (relaxTo xs D k).getD (xs.getD j default).to_.toNat 0 ≤ D.getD (xs.getD j default).fr.toNat 0 + (xs.getD j default).cost
  | 0, _, j, hj, _ => by omega
  | k + 1, hk, j, hj, h0 => by
    obtain ⟨⟨hl, _⟩, hm⟩ := relax_sound hc hx h k (by omega)
    by_cases e : j = k
    · subst e
      obtain ⟨⟨a0, a1⟩, ⟨b0, b1⟩⟩ := hx j (by omega)
      obtain ⟨m1, m2⟩ := hm (xs.getD j default).fr.toNat (by omega) h0
      have hcj := hc j (by omega)
      rw [relaxTo]
      split
      · rename_i hcond
        rw [getD_setL _ _ _ _ (by rw [hl]; omega), if_pos rfl]
        omega
      · rename_i hcond
        by_cases c2 : (relaxTo xs D j).getD (xs.getD j default).to_.toNat 0 < 0
        · exact absurd ⟨m1, .inl c2⟩ hcond
        · by_cases c3 : (relaxTo xs D j).getD (xs.getD j default).fr.toNat 0 + (xs.getD j default).cost < (relaxTo xs D j).getD (xs.getD j default).to_.toNat 0
          · exact absurd ⟨m1, .inr c3⟩ hcond
          · omega
    · obtain ⟨i1, i2⟩ := relax_done hc hx h k (by omega) j (by omega) h0
      obtain ⟨j1, j2⟩ := relax_step hx (by omega) hl (hc k (by omega)) i1
      exact ⟨j1, by omega⟩
theorem relax_tight (hc : ∀ i, i < xs.length → 0 ≤ (xs.getD i default).cost) (hx : ∀ i, i < xs.length → (0 ≤ (xs.getD i default).fr ∧ (xs.getD i default).fr < N) ∧ (0 ≤ (xs.getD i default).to_ ∧ (xs.getD i default).to_ < N)) {D : List Int} {r : Nat} (h : Sound xs N f D) (ht : Tight xs N f D r) : Tight xs N f (relaxTo xs D xs.length) (r + 1) := by
  intro v hv p hp hlen
  have hm := (relax_sound hc hx h xs.length (Nat.le_refl _)).2
  by_cases e : p = []
  · subst e
    obtain ⟨t1, t2⟩ := ht v hv [] hp (Nat.zero_le _)
    obtain ⟨m1, m2⟩ := hm v hv t1
    exact ⟨m1, by omega⟩
  · obtain ⟨q, k, e1, e2, e3, e4⟩ := walk_split p _ _ hp e
    subst e1
    obtain ⟨⟨a0, a1⟩, ⟨b0, b1⟩⟩ := hx k e2
    have hq : IsWalk xs f q (((xs.getD k default).fr.toNat : Nat) : Int) := by rw [show (((xs.getD k default).fr.toNat : Nat) : Int) = (xs.getD k default).fr by omega]; exact e3
    obtain ⟨t1, t2⟩ := ht (xs.getD k default).fr.toNat (by omega) q hq (by simp at hlen; omega)
    obtain ⟨d1, d2⟩ := relax_done hc hx h xs.length (Nat.le_refl _) k e2 t1
    have hcost := (walk_snoc q f k e3 e2).2
    rw [show (xs.getD k default).to_.toNat = v by omega] at d1 d2
    rw [hcost]
    exact ⟨d1, by omega⟩
theorem relax_idle (hc : ∀ i, i < xs.length → 0 ≤ (xs.getD i default).cost) (hx : ∀ i, i < xs.length → (0 ≤ (xs.getD i default).fr ∧ (xs.getD i default).fr < N) ∧ (0 ≤ (xs.getD i default).to_ ∧ (xs.getD i default).to_ < N)) (hf : f < N) {D : List Int} (h : Sound xs N f D) (ht : Tight xs N f D (N - 1)) : ∀ k, k ≤ xs.length → relaxTo xs D k = D
  | 0, _ => rfl
  | k + 1, hk => by
    have ih := relax_idle hc hx hf h ht k (by omega)
    obtain ⟨⟨a0, a1⟩, ⟨b0, b1⟩⟩ := hx k (by omega)
    rw [relaxTo, ih, if_neg]
    rintro ⟨c1, c2⟩
    rcases h.2 (xs.getD k default).fr.toNat (by omega) with h1 | ⟨_, p, p1, p2⟩
    · omega
    · rw [show (((xs.getD k default).fr.toNat : Nat) : Int) = (xs.getD k default).fr by omega] at p1
      obtain ⟨q1, q2⟩ := walk_snoc p _ k p1 (by omega)
      obtain ⟨c, w1, w2, w3⟩ := walk_short hc (fun i hi => (hx i hi).2) (show 0 ≤ (f : Int) by omega) (by omega) q1
      obtain ⟨t1, t2⟩ := ht (xs.getD k default).to_.toNat (by omega) c (by rw [show (((xs.getD k default).to_.toNat : Nat) : Int) = (xs.getD k default).to_ by omega]; exact w1) (by omega)
      rcases c2 with c2 | c2 <;> omega
theorem rounds_ok (hc : ∀ i, i < xs.length → 0 ≤ (xs.getD i default).cost) (hx : ∀ i, i < xs.length → (0 ≤ (xs.getD i default).fr ∧ (xs.getD i default).fr < N) ∧ (0 ≤ (xs.getD i default).to_ ∧ (xs.getD i default).to_ < N)) (hf : f < N) : ∀ r, Sound xs N f (roundsL xs N f r) ∧ Tight xs N f (roundsL xs N f r) r
  | 0 => by
    have hg : ∀ v, v < N → ((List.replicate N (-1 : Int)).set f 0).getD v 0 = if f = v then 0 else -1 := fun v hv => by
      rw [getD_setL _ f v _ (by simpa using hf)]
      split
      · rfl
      · simp [List.getD, hv]
    refine ⟨⟨by simp [roundsL], fun v hv => ?_⟩, fun v hv p hp hl => ?_⟩
    · rw [roundsL, hg v hv]
      by_cases e : f = v
      · rw [if_pos e]
        exact .inr ⟨Int.le_refl _, [], by rw [IsWalk]; omega, rfl⟩
      · rw [if_neg e]; exact .inl rfl
    · have hp0 : p = [] := List.eq_nil_of_length_eq_zero (by omega)
      subst hp0
      rw [IsWalk] at hp
      rw [roundsL, hg v hv, if_pos (by omega)]
      exact ⟨Int.le_refl _, Int.le_refl _⟩
  | r + 1 => by
    obtain ⟨h1, h2⟩ := rounds_ok hc hx hf r
    exact ⟨(relax_sound hc hx h1 xs.length (Nat.le_refl _)).1, relax_tight hc hx h1 h2⟩
/-- one round more changes nothing -/
theorem rounds_settled (hc : ∀ i, i < xs.length → 0 ≤ (xs.getD i default).cost) (hx : ∀ i, i < xs.length → (0 ≤ (xs.getD i default).fr ∧ (xs.getD i default).fr < N) ∧ (0 ≤ (xs.getD i default).to_ ∧ (xs.getD i default).to_ < N)) (hf : f < N) : roundsL xs N f N = roundsL xs N f (N - 1) := by
  obtain ⟨h1, h2⟩ := rounds_ok (f := f) hc hx hf (N - 1)
  have := relax_idle hc hx hf h1 h2 xs.length (Nat.le_refl _)
  conv => lhs; rw [show N = N - 1 + 1 by omega, roundsL]
  rw [show N - 1 + 1 = N by omega]
  exact this
end
end Go.Proofs.Ytpaahjeohigngaa

namespace Go.Proofs.Ytpaahjeohigngaa
open Go.RowKit

def RetLLB (T : Nat) (zs ys : List Int) (b : Bool) (w : World) (e : Ending) (w' : World) : Prop :=
  ∃ (A : Option Addr) (n c : Nat) (A' : Option Addr) (n' c' : Nat), e = .returned (.tuple #[.slice A n c, .slice A' n' c', .bool b]) ∧ OwnI T w.heap.size w' A n c zs ∧ OwnI T w.heap.size w' A' n' c' ys ∧ Sep A A' ∧ Below w.heap.size w w'
theorem ret_LLB {A : Option Addr} {n c : Nat} {A' : Option Addr} {n' c' : Nat} {a b : Bool} (h : a = b) : Ending.returned (.tuple #[.slice A n c, .slice A' n' c', .bool a]) = .returned (.tuple #[.slice A n c, .slice A' n' c', .bool b]) := by rw [h]
theorem sep_none {A : Option Addr} : Sep none A := fun _ _ h => by cases h
theorem sep_ne {g h : Nat} {i j : Nat} (hn : g ≠ h) : Sep (some ⟨g, i, none⟩) (some ⟨h, j, none⟩) := by
  intro a b ha hb
  injection ha with ha; injection hb with hb
  subst ha; subst hb
  exact hn
end Go.Proofs.Ytpaahjeohigngaa
