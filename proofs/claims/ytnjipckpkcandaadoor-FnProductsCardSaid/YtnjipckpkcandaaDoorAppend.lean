/- append of one int to a slice of the call's own; has; digits. -/
import Derived.Test.YtnjipckpkcandaaDoorLaw
import Derived.Test.YtnjipckpkcandaaDoorMark
import Derived.Maps.AppendAt
namespace Go.Proofs.YtnjipckpkcandaaDoor
open Go.RowKit

/-- 'append(out, v)' of one int. The value v lies in a new block of one cell already. -/
theorem wp_append_int {P : Program} {ops : Array Oper} {rest : List Oper} {o : Oper} {a : Act} {Q : Exit → Act → World → Prop} (w : World) (v : Int)
    (hgd : o.guard = none) (s x : Operand) (t : TypeId) (ho : o.op = .call { callee := .builtin .append, args := #[s, x], argTypes := #[t, t] })
    (T base : Nat) (ht : P.underlying t = some (.slice T)) (hinfo : (P.info? T).map (fun i => (i.zero, i.size, i.bytes)) = some (some (.int .i64 0), 1, 8))
    (A : Option Addr) (n c : Nat) (zs : List Int) (hs : a.eval s = .slice A n c) (hown : OwnI T base w A n c zs) (hx : a.eval x = .slice (some ⟨w.heap.size, 0, none⟩) 1 1)
    (hn : n + 1 ≤ 17592186044416) (hbase : base ≤ w.heap.size)
    (h : ∀ (g c' : Nat) (w' : World), OwnI T base w' (some ⟨g, 0, none⟩) (n + 1) c' (zs ++ [v]) → Upd (blk A) w w' → Below base w w' → (blk A g ∨ w.heap.size ≤ g) → wpList P ops Q rest (a.put o.dst (.slice (some ⟨g, 0, none⟩) (n + 1) c')) w') :
    wpList P ops Q (o :: rest) a (w.alloc (.cells #[.int .i64 v] T)) := by
  obtain ⟨i0, hi, hz0, hz1, hz2⟩ := info_parts hinfo
  have hown1 : (w.alloc (.cells #[.int .i64 v] T)).ownsRow base T 1 (.slice A n c) n (zs.map (Value.int .i64)) := World.ownsRow.alloc hown _
  obtain ⟨v', w', hrun, h2, h3, _, h5⟩ := run_append_own_at (P := P) (w.alloc (.cells #[.int .i64 v] T)) base t o.type T i0 _ 1 8 ht hi hz0 hz1 hz2 rfl (by decide) _ n _ hown1 ⟨w.heap.size, 0, none⟩ 1 1 [.int .i64 v] rfl
    (by
      intro j u hj
      match j, hj with
      | 0, hj => simp at hj; subst hj; simp [Addr.add])
    (by intro u hu; simp at hu; subst hu; rfl) (by simp [maxLen]; omega) (by omega) (by simp; omega)
  have hform : ∃ g c', v' = .slice (some ⟨g, 0, none⟩) (n + 1) c' := by
    rcases h2.2 with ⟨_, h⟩ | ⟨g, cap, cur, h, _⟩
    · omega
    · exact ⟨g, cap, h⟩
  obtain ⟨g, c', rfl⟩ := hform
  have hu : Upd (blk A) (w.alloc (.cells #[.int .i64 v] T)) w' := (Upd.refl _ _).grown h3 (by
    intro k hk
    cases A with
    | none => cases hk
    | some ad => injection hk with hk; exact .inl ⟨ad, rfl, hk⟩)
  have hu' : Upd (blk A) w w' := ((Upd.refl _ w).alloc _).then hu (fun _ _ h => h)
  refine wpList_plain hgd fun _ hK => ?_
  unfold Oper.wp execOp
  simp only [ho, resolve, invoke, builtin, Sem.run_bind, Sem.run_pure, Result.andThen_ok, List.map_toArray, List.map_cons, List.map_nil, hs, hx, hrun]
  refine hK _ _ (h g c' w' ?_ hu' (hu'.toBelow hbase fun k hk ⟨ad, h1, h2⟩ => by have := (hown.lt h1).1; omega) ?_)
  · unfold OwnI
    rw [List.map_append]
    exact h2
  · rcases h5 with h5 | h5
    · left
      cases A with
      | none => cases h5
      | some ad => simp only [Value.ownBlock, Option.some.injEq] at h5; exact ⟨ad, rfl, h5.symm⟩
    · right
      simp only [Value.ownBlock, Option.some.injEq] at h5
      rw [h5]; simp

theorem ofInt_i64 (a : Nat) (ha : a < 9223372036854775808) : (BitVec.ofInt 64 (a : Int)).toNat = a := by
  rw [BitVec.ofInt_natCast, BitVec.toNat_ofNat]; exact Nat.mod_eq_of_lt (by omega)
theorem i64_and_nat (a b : Nat) (ha : a < 9223372036854775808) (hb : b < 9223372036854775808) : bits .and .i64 (a : Int) (b : Int) = ((a &&& b : Nat) : Int) := by
  have hx : a &&& b < 2 ^ 63 := Nat.and_lt_two_pow _ (by omega)
  show IntKind.i64.wrap ((BitVec.ofInt 64 (a : Int) &&& BitVec.ofInt 64 (b : Int)).toNat : Int) = _
  rw [BitVec.toNat_and, ofInt_i64 a ha, ofInt_i64 b hb, IntKind.wrap_i64]
  omega
theorem i64_or_nat (a b : Nat) (ha : a < 9223372036854775808) (hb : b < 9223372036854775808) : bits .or .i64 (a : Int) (b : Int) = ((a ||| b : Nat) : Int) := by
  have hx : a ||| b < 2 ^ 63 := Nat.or_lt_two_pow (by omega) (by omega)
  show IntKind.i64.wrap ((BitVec.ofInt 64 (a : Int) ||| BitVec.ofInt 64 (b : Int)).toNat : Int) = _
  rw [BitVec.toNat_or, ofInt_i64 a ha, ofInt_i64 b hb, IntKind.wrap_i64]
  omega
theorem i64_xor_nat (a b : Nat) (ha : a < 9223372036854775808) (hb : b < 9223372036854775808) : bits .xor .i64 (a : Int) (b : Int) = ((a ^^^ b : Nat) : Int) := by
  have hx : a ^^^ b < 2 ^ 63 := Nat.xor_lt_two_pow (by omega) (by omega)
  show IntKind.i64.wrap ((BitVec.ofInt 64 (a : Int) ^^^ BitVec.ofInt 64 (b : Int)).toNat : Int) = _
  rw [BitVec.toNat_xor, ofInt_i64 a ha, ofInt_i64 b hb, IntKind.wrap_i64]
  omega
theorem div_pow_cast (m k : Nat) : (m : Int) / 2 ^ k = ((m / 2 ^ k : Nat) : Int) := by
  rw [Int.natCast_ediv]; simp
theorem bit_test (m k : Nat) (hm : m < 9223372036854775808) : (bits .and .i64 ((m : Int) / 2 ^ k) 1 == 1) = m.testBit k := by
  rw [div_pow_cast, show (1 : Int) = ((1 : Nat) : Int) from rfl, i64_and_nat _ _ (Nat.lt_of_le_of_lt (Nat.div_le_self _ _) hm) (by omega), Nat.and_one_is_mod, Nat.testBit_eq_decide_div_mod_eq]
  by_cases h : m / 2 ^ k % 2 = 1
  · rw [h]; simp
  · have : m / 2 ^ k % 2 = 0 := by omega
    rw [this]; simp

/-- a without b -/
def andN (a b : Nat) : Nat := (BitVec.ofNat 64 a &&& ~~~ (BitVec.ofNat 64 b)).toNat
theorem andN_bit (a b i : Nat) (ha : a < 2 ^ 64) (hb : b < 2 ^ 64) : (andN a b).testBit i = (a.testBit i && !b.testBit i) := by
  unfold andN
  rw [BitVec.testBit_toNat, BitVec.getLsbD_and, BitVec.getLsbD_not, BitVec.getLsbD_ofNat, BitVec.getLsbD_ofNat]
  by_cases h : i < 64
  · simp [h]
  · have : a.testBit i = false := Nat.testBit_lt_two_pow (Nat.lt_of_lt_of_le ha (Nat.pow_le_pow_right (by omega) (by omega)))
    simp [h, this]
theorem andN_le (a b : Nat) : andN a b ≤ a := by
  unfold andN
  rw [BitVec.toNat_and]
  refine Nat.le_trans Nat.and_le_left ?_
  rw [BitVec.toNat_ofNat]
  exact Nat.mod_le _ _
theorem i64_andNot_nat (a b : Nat) (ha : a < 9223372036854775808) (_hb : b < 9223372036854775808) : bits .andNot .i64 (a : Int) (b : Int) = ((andN a b : Nat) : Int) := by
  have hx := andN_le a b
  show IntKind.i64.wrap ((BitVec.ofInt 64 (a : Int) &&& ~~~ BitVec.ofInt 64 (b : Int)).toNat : Int) = _
  rw [BitVec.ofInt_natCast, BitVec.ofInt_natCast]
  show IntKind.i64.wrap ((andN a b : Nat) : Int) = _
  rw [IntKind.wrap_i64]
  omega

def hasB (zs : List Int) (x : Int) : Bool := zs.contains x
theorem hasB_iff {zs : List Int} {x : Int} : hasB zs x = true ↔ x ∈ zs := by simp [hasB]
theorem hasB_not {zs : List Int} {x : Int} : hasB zs x = false ↔ x ∉ zs := by simp [hasB]
theorem hasB_step {zs : List Int} {n k : Nat} {y x : Int} (hl : zs.length = n) (hk : k < n) (hy : zs.getD k 0 = y) (hall : hasB (zs.take k) x = false) (hne : ¬ y = x) : hasB (zs.take (k + 1)) x = false := by
  rw [hasB_not] at hall ⊢
  have hl' : k < zs.length := by omega
  rw [List.take_succ_eq_append_getElem hl', List.mem_append, List.mem_singleton]
  simp [List.getD, List.getElem?_eq_getElem hl'] at hy
  rintro (h3 | h3)
  · exact hall h3
  · exact hne (by rw [← hy, h3])
theorem hasB_stop {zs : List Int} {n k : Nat} {y : Int} (hl : zs.length = n) (hk : k < n) (hy : zs.getD k 0 = y) : hasB zs y = true := by
  rw [hasB_iff, ← hy]
  simp [List.getD, List.getElem?_eq_getElem (show k < zs.length by omega)]
theorem hasB_done {zs : List Int} {n k : Nat} {x : Int} (hl : zs.length = n) (hk : ¬ k < n) (hall : hasB (zs.take k) x = false) : hasB zs x = false := by
  rwa [List.take_of_length_le (by omega)] at hall


end Go.Proofs.YtnjipckpkcandaaDoor
