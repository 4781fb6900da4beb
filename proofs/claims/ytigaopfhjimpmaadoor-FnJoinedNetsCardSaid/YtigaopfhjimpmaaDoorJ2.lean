/- Joined texts: Append, MatP, MatQ, MatF, More, Flow, SortPlain, StabP, StabP2, KirP, KirQ, RootPlain, AppC, Flow2, Flow3, KirM. -/
import Derived.Test.YtigaopfhjimpmaaDoorZLaw
import Derived.Test.YtigaopfhjimpmaaDoorZMark
import Derived.Maps.AppendAt
import Derived.Test.YtigaopfhjimpmaaDoorZNetMem
import Derived.Test.YtigaopfhjimpmaaDoorZValid2
import Derived.Test.YtigaopfhjimpmaaDoorJ1
import Derived.Test.YtigaopfhjimpmaaDoorZValid
namespace Go.Proofs.YtigaopfhjimpmaaDoor
open Go.RowKit

/-- 'append(out, v)' of one int. The value v lies in a new block of one cell already. -/
theorem wp_append_int {P : Program} {ops : Array Oper} {rest : List Oper} {o : Oper} {a : Act} {Q : Exit → Act → World → Prop} (w : World) (v : Int)
    (hgd : o.guard = none) (s x : Operand) (t : TypeId) (ho : o.op = .call { callee := .builtin .append, args := #[s, x], argTypes := #[t, t] })
    (T base : Nat) (ht : P.underlying t = some (.slice T)) (hinfo : (P.info? T).map (fun i => (i.zero, i.size, i.bytes)) = some (some (.int .i64 0), 1, 8))
    (A : Option Addr) (n c : Nat) (zs : List Int) (hs : a.eval s = .slice A n c) (hown : OwnI T base w A n c zs) (hx : a.eval x = .slice (some ⟨w.heap.size, 0, none⟩) 1 1)
    (hn : n + 1 ≤ 17592186044416) (hbase : base ≤ w.heap.size)
    (h : ∀ (g c' : Nat) (w' : World), OwnI T base w' (some ⟨g, 0, none⟩) (n + 1) c' (zs ++ [v]) → Upd (blk A) w w' → Below base w w' → (blk A g ∨ w.heap.size ≤ g) → wpList P ops Q rest (a.put o.dst (.slice (some ⟨g, 0, none⟩) (n + 1) c')) w') :
    wpList P ops Q (o :: rest) a (w.alloc (.cells #[.int .i64 v] T)) := by
  obtain ⟨i0, hi, hz0, hz1, hz2⟩ := info_parts hinfo
  have hown1 : (w.alloc (.cells #[.int .i64 v] T)).ownsRow base T 1 (.slice A n c) n (zs.map (Value.int .i64)) := World.ownsRow.alloc hown _
  obtain ⟨v', w', hrun, h2, h3, _, h5⟩ := run_append_own_at (P := P) (w.alloc (.cells #[.int .i64 v] T)) base t o.type T i0 _ 1 8 ht hi hz0 hz1 hz2 rfl (by decide) _ n _ hown1 ⟨w.heap.size, 0, none⟩ 1 1 [.int .i64 v] rfl
    (by
      intro j u hj
      match j, hj with
      | 0, hj => simp at hj; subst hj; simp [Addr.add])
    (by intro u hu; simp at hu; subst hu; rfl) (by simp [maxLen]; omega) (by omega) (by simp; omega)
  have hform : ∃ g c', v' = .slice (some ⟨g, 0, none⟩) (n + 1) c' := by
    rcases h2.2 with ⟨_, h⟩ | ⟨g, cap, cur, h, _⟩
    · omega
    · exact ⟨g, cap, h⟩
  obtain ⟨g, c', rfl⟩ := hform
  have hu : Upd (blk A) (w.alloc (.cells #[.int .i64 v] T)) w' := (Upd.refl _ _).grown h3 (by
    intro k hk
    cases A with
    | none => cases hk
    | some ad => injection hk with hk; exact .inl ⟨ad, rfl, hk⟩)
  have hu' : Upd (blk A) w w' := ((Upd.refl _ w).alloc _).then hu (fun _ _ h => h)
  refine wpList_plain hgd fun _ hK => ?_
  unfold Oper.wp execOp
  simp only [ho, resolve, invoke, builtin, Sem.run_bind, Sem.run_pure, Result.andThen_ok, List.map_toArray, List.map_cons, List.map_nil, hs, hx, hrun]
  refine hK _ _ (h g c' w' ?_ hu' (hu'.toBelow hbase fun k hk ⟨ad, h1, h2⟩ => by have := (hown.lt h1).1; omega) ?_)
  · unfold OwnI
    rw [List.map_append]
    exact h2
  · rcases h5 with h5 | h5
    · left
      cases A with
      | none => cases h5
      | some ad => simp only [Value.ownBlock, Option.some.injEq] at h5; exact ⟨ad, rfl, h5.symm⟩
    · right
      simp only [Value.ownBlock, Option.some.injEq] at h5
      rw [h5]; simp

theorem ofInt_i64 (a : Nat) (ha : a < 9223372036854775808) : (BitVec.ofInt 64 (a : Int)).toNat = a := by
  rw [BitVec.ofInt_natCast, BitVec.toNat_ofNat]; exact Nat.mod_eq_of_lt (by omega)
theorem i64_and_nat (a b : Nat) (ha : a < 9223372036854775808) (hb : b < 9223372036854775808) : bits .and .i64 (a : Int) (b : Int) = ((a &&& b : Nat) : Int) := by
  have hx : a &&& b < 2 ^ 63 := Nat.and_lt_two_pow _ (by omega)
  show IntKind.i64.wrap ((BitVec.ofInt 64 (a : Int) &&& BitVec.ofInt 64 (b : Int)).toNat : Int) = _
  rw [BitVec.toNat_and, ofInt_i64 a ha, ofInt_i64 b hb, IntKind.wrap_i64]
  omega
theorem i64_or_nat (a b : Nat) (ha : a < 9223372036854775808) (hb : b < 9223372036854775808) : bits .or .i64 (a : Int) (b : Int) = ((a ||| b : Nat) : Int) := by
  have hx : a ||| b < 2 ^ 63 := Nat.or_lt_two_pow (by omega) (by omega)
  show IntKind.i64.wrap ((BitVec.ofInt 64 (a : Int) ||| BitVec.ofInt 64 (b : Int)).toNat : Int) = _
  rw [BitVec.toNat_or, ofInt_i64 a ha, ofInt_i64 b hb, IntKind.wrap_i64]
  omega
theorem i64_xor_nat (a b : Nat) (ha : a < 9223372036854775808) (hb : b < 9223372036854775808) : bits .xor .i64 (a : Int) (b : Int) = ((a ^^^ b : Nat) : Int) := by
  have hx : a ^^^ b < 2 ^ 63 := Nat.xor_lt_two_pow (by omega) (by omega)
  show IntKind.i64.wrap ((BitVec.ofInt 64 (a : Int) ^^^ BitVec.ofInt 64 (b : Int)).toNat : Int) = _
  rw [BitVec.toNat_xor, ofInt_i64 a ha, ofInt_i64 b hb, IntKind.wrap_i64]
  omega
theorem div_pow_cast (m k : Nat) : (m : Int) / 2 ^ k = ((m / 2 ^ k : Nat) : Int) := by
  rw [Int.natCast_ediv]; simp
theorem bit_test (m k : Nat) (hm : m < 9223372036854775808) : (bits .and .i64 ((m : Int) / 2 ^ k) 1 == 1) = m.testBit k := by
  rw [div_pow_cast, show (1 : Int) = ((1 : Nat) : Int) from rfl, i64_and_nat _ _ (Nat.lt_of_le_of_lt (Nat.div_le_self _ _) hm) (by omega), Nat.and_one_is_mod, Nat.testBit_eq_decide_div_mod_eq]
  by_cases h : m / 2 ^ k % 2 = 1
  · rw [h]; simp
  · have : m / 2 ^ k % 2 = 0 := by omega
    rw [this]; simp

/-- a without b -/
def andN (a b : Nat) : Nat := (BitVec.ofNat 64 a &&& ~~~ (BitVec.ofNat 64 b)).toNat
theorem andN_bit (a b i : Nat) (ha : a < 2 ^ 64) (hb : b < 2 ^ 64) : (andN a b).testBit i = (a.testBit i && !b.testBit i) := by
  unfold andN
  rw [BitVec.testBit_toNat, BitVec.getLsbD_and, BitVec.getLsbD_not, BitVec.getLsbD_ofNat, BitVec.getLsbD_ofNat]
  by_cases h : i < 64
  · simp [h]
  · have : a.testBit i = false := Nat.testBit_lt_two_pow (Nat.lt_of_lt_of_le ha (Nat.pow_le_pow_right (by omega) (by omega)))
    simp [h, this]
theorem andN_le (a b : Nat) : andN a b ≤ a := by
  unfold andN
  rw [BitVec.toNat_and]
  refine Nat.le_trans Nat.and_le_left ?_
  rw [BitVec.toNat_ofNat]
  exact Nat.mod_le _ _
theorem i64_andNot_nat (a b : Nat) (ha : a < 9223372036854775808) (_hb : b < 9223372036854775808) : bits .andNot .i64 (a : Int) (b : Int) = ((andN a b : Nat) : Int) := by
  have hx := andN_le a b
  show IntKind.i64.wrap ((BitVec.ofInt 64 (a : Int) &&& ~~~ BitVec.ofInt 64 (b : Int)).toNat : Int) = _
  rw [BitVec.ofInt_natCast, BitVec.ofInt_natCast]
  show IntKind.i64.wrap ((andN a b : Nat) : Int) = _
  rw [IntKind.wrap_i64]
  omega

def hasB (zs : List Int) (x : Int) : Bool := zs.contains x
theorem hasB_iff {zs : List Int} {x : Int} : hasB zs x = true ↔ x ∈ zs := by simp [hasB]
theorem hasB_not {zs : List Int} {x : Int} : hasB zs x = false ↔ x ∉ zs := by simp [hasB]
theorem hasB_step {zs : List Int} {n k : Nat} {y x : Int} (hl : zs.length = n) (hk : k < n) (hy : zs.getD k 0 = y) (hall : hasB (zs.take k) x = false) (hne : ¬ y = x) : hasB (zs.take (k + 1)) x = false := by
  rw [hasB_not] at hall ⊢
  have hl' : k < zs.length := by omega
  rw [List.take_succ_eq_append_getElem hl', List.mem_append, List.mem_singleton]
  simp [List.getD, List.getElem?_eq_getElem hl'] at hy
  rintro (h3 | h3)
  · exact hall h3
  · exact hne (by rw [← hy, h3])
theorem hasB_stop {zs : List Int} {n k : Nat} {y : Int} (hl : zs.length = n) (hk : k < n) (hy : zs.getD k 0 = y) : hasB zs y = true := by
  rw [hasB_iff, ← hy]
  simp [List.getD, List.getElem?_eq_getElem (show k < zs.length by omega)]
theorem hasB_done {zs : List Int} {n k : Nat} {x : Int} (hl : zs.length = n) (hk : ¬ k < n) (hall : hasB (zs.take k) x = false) : hasB zs x = false := by
  rwa [List.take_of_length_le (by omega)] at hall


end Go.Proofs.YtigaopfhjimpmaaDoor

namespace Go.Proofs.YtigaopfhjimpmaaDoor
open Go.RowKit

/-- a set without a node -/
def rm (S k : Nat) : Nat := andN S (2 ^ k)
theorem pow12 {N : Nat} (hN : N ≤ 12) : 2 ^ N ≤ 4096 := Nat.pow_le_pow_right (n := 2) (by omega) hN
theorem rm_bit {S k j N : Nat} (hS : S < 2 ^ N) (hN : N ≤ 12) (hk : k < N) : (rm S k).testBit j = (S.testBit j && decide (j ≠ k)) := by
  have h1 := pow12 hN
  have h2 : 2 ^ k < 2 ^ N := Nat.pow_lt_pow_right (by omega) hk
  unfold rm
  rw [andN_bit S (2 ^ k) j (by omega) (by omega), Nat.testBit_two_pow]
  by_cases e : k = j
  · subst e; simp
  · have : ¬ j = k := fun e2 => e e2.symm
    simp [e, this]
theorem rm_lt {S k N : Nat} (hS : S < 2 ^ N) (hN : N ≤ 12) (hk : k < N) (h : S.testBit k = true) : rm S k < S := by
  have h1 : rm S k ≤ S := andN_le _ _
  rcases Nat.lt_or_eq_of_le h1 with h2 | h2
  · exact h2
  · have h3 := rm_bit (j := k) hS hN hk
    rw [h2, h] at h3
    simp at h3
theorem rm_le (S k : Nat) : rm S k ≤ S := andN_le _ _
/-- the lowest node -/
def lowF (S : Nat) : Nat → Nat → Nat
  | 0, i => i
  | f + 1, i => if S.testBit i = true then i else lowF S f (i + 1)
def lowN (S : Nat) : Nat := lowF S 12 0
theorem lowF_ok {S : Nat} : ∀ f i, (∃ j, i ≤ j ∧ j < i + f ∧ S.testBit j = true) → S.testBit (lowF S f i) = true ∧ i ≤ lowF S f i ∧ ∀ j, i ≤ j → j < lowF S f i → S.testBit j = false
  | 0, i, ⟨j, h1, h2, _⟩ => by omega
  | f + 1, i, ⟨j, h1, h2, h3⟩ => by
    rw [lowF]
    by_cases h : S.testBit i = true
    · rw [if_pos h]; exact ⟨h, Nat.le_refl _, fun j a b => by omega⟩
    · rw [if_neg h]
      have : j ≠ i := fun e => by subst e; exact h h3
      obtain ⟨a, b, c⟩ := lowF_ok f (i + 1) ⟨j, by omega, by omega, h3⟩
      refine ⟨a, by omega, fun k k1 k2 => ?_⟩
      by_cases e : k = i
      · subst e; rw [Bool.not_eq_true] at h; exact h
      · exact c k (by omega) k2
theorem bit_in {S N j : Nat} (hS : S < 2 ^ N) (h : S.testBit j = true) : j < N := by
  rcases Nat.lt_or_ge j N with h1 | h1
  · exact h1
  · rw [Nat.testBit_lt_two_pow (Nat.lt_of_lt_of_le hS (Nat.pow_le_pow_right (by omega) h1))] at h
    cases h
theorem low_ok {S N : Nat} (h0 : S ≠ 0) (hS : S < 2 ^ N) (hN : N ≤ 12) : lowN S < N ∧ S.testBit (lowN S) = true ∧ ∀ j, j < lowN S → S.testBit j = false := by
  obtain ⟨j, hj⟩ := Nat.exists_testBit_of_ne_zero h0
  have h1 := bit_in hS hj
  obtain ⟨a, b, c⟩ := lowF_ok (S := S) 12 0 ⟨j, by omega, by omega, hj⟩
  exact ⟨bit_in hS a, a, fun j hj => c j (by omega) hj⟩
section dp
variable (J : Nat → Nat → Bool) (N : Nat)
/-- the most pairs of a set, out of a table for smaller ones -/
def vT (T : Nat → Nat) (S : Nat) : Nat → Nat
  | 0 => T (rm S (lowN S))
  | k + 1 => if ((rm S (lowN S)).testBit k && J (lowN S) k) = true then max (vT T S k) (1 + T (rm (rm S (lowN S)) k)) else vT T S k
def pmT : Nat → List Nat
  | 0 => []
  | S + 1 => pmT S ++ [if S = 0 then 0 else vT J (fun j => (pmT S).getD j 0) S N]
def pm (S : Nat) : Nat := (pmT J N (S + 1)).getD S 0
theorem pmT_len : ∀ m, (pmT J N m).length = m
  | 0 => rfl
  | m + 1 => by rw [pmT, List.length_append, pmT_len m]; rfl
theorem pmT_get : ∀ m j, j < m → (pmT J N m).getD j 0 = pm J N j
  | m + 1, j, h => by
    by_cases e : j = m
    · subst e; rfl
    · rw [pmT]
      simp only [List.getD]
      rw [List.getElem?_append_left (by rw [pmT_len]; omega)]
      exact pmT_get m j (by omega)
theorem vT_congr {T T' : Nat → Nat} {S : Nat} (hN : N ≤ 12) (h0 : S ≠ 0) (hS : S < 2 ^ N) (h : ∀ j, j < S → T j = T' j) : ∀ k, k ≤ N → vT J T S k = vT J T' S k
  | 0, _ => by
    obtain ⟨a, b, _⟩ := low_ok h0 hS hN
    rw [vT, vT, h _ (rm_lt hS hN a b)]
  | k + 1, hk => by
    obtain ⟨a, b, _⟩ := low_ok h0 hS hN
    have h1 := rm_lt hS hN a b
    have h2 := rm_le (rm S (lowN S)) k
    rw [vT, vT, vT_congr hN h0 hS h k (by omega), h _ (by omega)]
theorem pm_zero : pm J N 0 = 0 := rfl
theorem pm_eq {S : Nat} (hN : N ≤ 12) (h0 : S ≠ 0) (hS : S < 2 ^ N) : pm J N S = vT J (pm J N) S N := by
  unfold pm
  rw [pmT]
  simp only [List.getD]
  rw [List.getElem?_append_right (by rw [pmT_len]; exact Nat.le_refl _), pmT_len, Nat.sub_self]
  show (if S = 0 then 0 else vT J _ S N) = _
  rw [if_neg h0]
  exact vT_congr J N hN h0 hS (fun j hj => pmT_get J N S j hj) N (Nat.le_refl _)
theorem vT_le {S : Nat} (hN : N ≤ 12) (h0 : S ≠ 0) (hS : S < 2 ^ N) (h : ∀ j, j < S → pm J N j ≤ j) : ∀ k, k ≤ N → vT J (pm J N) S k ≤ S
  | 0, _ => by
    obtain ⟨a, b, _⟩ := low_ok h0 hS hN
    have h1 := rm_lt hS hN a b
    have := h _ h1
    rw [vT]; omega
  | k + 1, hk => by
    obtain ⟨a, b, _⟩ := low_ok h0 hS hN
    have h1 := rm_lt hS hN a b
    have h2 := rm_le (rm S (lowN S)) k
    have ih := vT_le hN h0 hS h k (by omega)
    have h3 := h (rm (rm S (lowN S)) k) (by omega)
    rw [vT]
    split
    · omega
    · exact ih
theorem pm_le (hN : N ≤ 12) : ∀ b S, S ≤ b → S < 2 ^ N → pm J N S ≤ S
  | 0, S, h, _ => by have : S = 0 := by omega
                     subst this; rw [pm_zero]; exact Nat.le_refl _
  | b + 1, S, h, hS => by
    by_cases h0 : S = 0
    · subst h0; rw [pm_zero]; exact Nat.le_refl _
    · rw [pm_eq J N hN h0 hS]
      exact vT_le J N hN h0 hS (fun j hj => pm_le hN b j (by omega) (by omega)) N (Nat.le_refl _)
/-- with which node the lowest one is paired: the first that loses nothing; N: none -/
def cnd (S k : Nat) : Bool := (rm S (lowN S)).testBit k && J (lowN S) k && decide (1 + pm J N (rm (rm S (lowN S)) k) = pm J N S)
def fnd (S : Nat) : Nat → Nat → Nat
  | 0, k => k
  | f + 1, k => if cnd J N S k = true then k else fnd S f (k + 1)
def mat : Nat → Nat → List Int → List Int
  | 0, _, o => o
  | f + 1, S, o => if S = 0 then o else if fnd J N S N 0 < N then mat f (rm (rm S (lowN S)) (fnd J N S N 0)) ((o.set (lowN S) (fnd J N S N 0 : Nat)).set (fnd J N S N 0) (lowN S : Nat)) else mat f (rm S (lowN S)) (o.set (lowN S) (-1))
theorem fnd_ok {S : Nat} : ∀ f k, k ≤ fnd J N S f k ∧ fnd J N S f k ≤ k + f ∧ (∀ j, k ≤ j → j < fnd J N S f k → cnd J N S j = false) ∧ (fnd J N S f k < k + f → cnd J N S (fnd J N S f k) = true)
  | 0, k => by rw [fnd]; exact ⟨Nat.le_refl _, Nat.le_refl _, fun j a b => by omega, fun h => by omega⟩
  | f + 1, k => by
    rw [fnd]
    by_cases h : cnd J N S k = true
    · rw [if_pos h]; exact ⟨Nat.le_refl _, by omega, fun j a b => by omega, fun _ => h⟩
    · rw [if_neg h]
      obtain ⟨a, b, c, d⟩ := fnd_ok (S := S) f (k + 1)
      refine ⟨by omega, by omega, fun j j1 j2 => ?_, fun hlt => d (by omega)⟩
      by_cases e : j = k
      · subst e; rw [Bool.not_eq_true] at h; exact h
      · exact c j (by omega) j2
theorem fnd_hit {S k : Nat} (hk : k < N) (h : cnd J N S k = true) (hb : ∀ j, j < k → cnd J N S j = false) : fnd J N S N 0 = k := by
  obtain ⟨_, b, c, d⟩ := fnd_ok J N (S := S) N 0
  rcases Nat.lt_trichotomy (fnd J N S N 0) k with h1 | h1 | h1
  · have := d (by omega); rw [hb _ h1] at this; cases this
  · exact h1
  · have := c k (by omega) h1; rw [h] at this; cases this
theorem fnd_miss {S : Nat} (hb : ∀ j, j < N → cnd J N S j = false) : ¬ fnd J N S N 0 < N := by
  intro h
  obtain ⟨_, _, _, d⟩ := fnd_ok J N (S := S) N 0
  have := d (by omega); rw [hb _ h] at this; cases this
theorem cnd_in {S k : Nat} (hN : N ≤ 12) (h0 : S ≠ 0) (hS : S < 2 ^ N) (h : cnd J N S k = true) : S.testBit k = true ∧ k ≠ lowN S := by
  unfold cnd at h
  rw [Bool.and_eq_true, Bool.and_eq_true] at h
  obtain ⟨a, _, _⟩ := low_ok h0 hS hN
  rw [rm_bit hS hN a, Bool.and_eq_true, decide_eq_true_eq] at h
  exact h.1.1
theorem mat_fuel {S : Nat} (hN : N ≤ 12) : ∀ f f' S o, S ≤ f → S ≤ f' → S < 2 ^ N → mat J N f S o = mat J N f' S o
  | 0, 0, S, o, _, _, _ => rfl
  | 0, f' + 1, S, o, h, _, _ => by
    have : S = 0 := by omega
    subst this
    rw [mat, mat, if_pos rfl]
  | f + 1, 0, S, o, _, h, _ => by
    have : S = 0 := by omega
    subst this
    rw [mat, mat, if_pos rfl]
  | f + 1, f' + 1, S, o, h1, h2, hS => by
    rw [mat, mat]
    by_cases h0 : S = 0
    · rw [if_pos h0, if_pos h0]
    · obtain ⟨a, b, _⟩ := low_ok h0 hS hN
      have h3 := rm_lt hS hN a b
      have h4 := rm_le (rm S (lowN S)) (fnd J N S N 0)
      rw [if_neg h0, if_neg h0]
      split
      · exact mat_fuel (S := S) hN f f' _ _ (by omega) (by omega) (by omega)
      · exact mat_fuel (S := S) hN f f' _ _ (by omega) (by omega) (by omega)
/-- the pairs of a set, laid into a list -/
def matW (S : Nat) (o : List Int) : List Int := mat J N S S o
theorem matW_zero (o : List Int) : matW J N 0 o = o := rfl
theorem matW_hit {S k : Nat} {o : List Int} (hN : N ≤ 12) (h0 : S ≠ 0) (hS : S < 2 ^ N) (hk : k < N) (h : cnd J N S k = true) (hb : ∀ j, j < k → cnd J N S j = false) : matW J N S o = matW J N (rm (rm S (lowN S)) k) ((o.set (lowN S) (k : Int)).set k (lowN S : Int)) := by
  obtain ⟨a, b, _⟩ := low_ok h0 hS hN
  have h3 := rm_lt hS hN a b
  have h4 := rm_le (rm S (lowN S)) k
  unfold matW
  obtain ⟨S', rfl⟩ : ∃ S', S = S' + 1 := ⟨S - 1, by omega⟩
  conv => lhs; rw [mat]
  rw [if_neg h0, fnd_hit J N hk h hb, if_pos hk]
  exact mat_fuel J N (S := 0) hN _ _ _ _ (by omega) (Nat.le_refl _) (by omega)
theorem matW_miss {S : Nat} {o : List Int} (hN : N ≤ 12) (h0 : S ≠ 0) (hS : S < 2 ^ N) (hb : ∀ j, j < N → cnd J N S j = false) : matW J N S o = matW J N (rm S (lowN S)) (o.set (lowN S) (-1)) := by
  obtain ⟨a, b, _⟩ := low_ok h0 hS hN
  have h3 := rm_lt hS hN a b
  unfold matW
  obtain ⟨S', rfl⟩ : ∃ S', S = S' + 1 := ⟨S - 1, by omega⟩
  conv => lhs; rw [mat]
  rw [if_neg h0, if_neg (fnd_miss J N hb)]
  exact mat_fuel J N (S := 0) hN _ _ _ _ (by omega) (Nat.le_refl _) (by omega)
theorem getD_setM (zs : List Int) (i j : Nat) (x : Int) (h : i < zs.length) : (zs.set i x).getD j 0 = if i = j then x else zs.getD j 0 := by
  simp only [List.getD, List.getElem?_set]
  by_cases e : i = j
  · subst e; simp [h]
  · simp [e]
theorem ext_getD {a b : List Int} {n : Nat} (ha : a.length = n) (hb : b.length = n) (h : ∀ v, v < n → a.getD v 0 = b.getD v 0) : a = b := by
  apply List.ext_getElem (by omega)
  intro i h1 h2
  have := h i (by omega)
  simpa [List.getD, List.getElem?_eq_getElem h1, List.getElem?_eq_getElem h2] using this
/-- what stood at the nodes of the set before does not matter -/
theorem matW_agree (hN : N ≤ 12) : ∀ b S (o o' : List Int), S ≤ b → S < 2 ^ N → o.length = N → o'.length = N → (∀ v, v < N → S.testBit v = false → o.getD v 0 = o'.getD v 0) → matW J N S o = matW J N S o'
  | 0, S, o, o', hb, hS, l1, l2, h => by
    have : S = 0 := by omega
    subst this
    exact ext_getD l1 l2 fun v hv => h v hv (by simp)
  | b + 1, S, o, o', hb, hS, l1, l2, h => by
    by_cases h0 : S = 0
    · subst h0
      exact ext_getD l1 l2 fun v hv => h v hv (by simp)
    · obtain ⟨a, a2, _⟩ := low_ok h0 hS hN
      have h3 := rm_lt hS hN a a2
      obtain ⟨_, f2, f3, f4⟩ := fnd_ok J N (S := S) N 0
      by_cases hf : fnd J N S N 0 < N
      · have hc := f4 (by omega)
        obtain ⟨c1, c2⟩ := cnd_in J N hN h0 hS hc
        have h4 := rm_le (rm S (lowN S)) (fnd J N S N 0)
        rw [matW_hit J N hN h0 hS hf hc (fun j hj => f3 j (by omega) hj), matW_hit J N hN h0 hS hf hc (fun j hj => f3 j (by omega) hj)]
        refine matW_agree hN b _ _ _ (by omega) (by omega) (by simp [l1]) (by simp [l2]) fun v hv hnb => ?_
        have g2 : ∀ q : List Int, q.length = N → ((q.set (lowN S) (fnd J N S N 0 : Int)).set (fnd J N S N 0) (lowN S : Int)).getD v 0 = if fnd J N S N 0 = v then (lowN S : Int) else if lowN S = v then (fnd J N S N 0 : Int) else q.getD v 0 := fun q hq => by
          rw [getD_setM _ _ _ _ (by rw [List.length_set]; omega), getD_setM _ _ _ _ (by omega)]
        rw [g2 o l1, g2 o' l2]
        by_cases e1 : fnd J N S N 0 = v
        · rw [if_pos e1, if_pos e1]
        · rw [if_neg e1, if_neg e1]
          by_cases e2 : lowN S = v
          · rw [if_pos e2, if_pos e2]
          · rw [if_neg e2, if_neg e2]
            rw [rm_bit (Nat.lt_of_le_of_lt (rm_le _ _) hS) hN hf, rm_bit hS hN a] at hnb
            have e3 : ¬ v = lowN S := fun e => e2 e.symm
            have e4 : ¬ v = fnd J N S N 0 := fun e => e1 e.symm
            simp [e3, e4] at hnb
            exact h v hv hnb
      · have hm : ∀ j, j < N → cnd J N S j = false := fun j hj => f3 j (by omega) (by omega)
        rw [matW_miss J N hN h0 hS hm, matW_miss J N hN h0 hS hm]
        refine matW_agree hN b _ _ _ (by omega) (by omega) (by simp [l1]) (by simp [l2]) fun v hv hnb => ?_
        rw [getD_setM _ _ _ _ (by omega), getD_setM _ _ _ _ (by omega)]
        by_cases e2 : lowN S = v
        · rw [if_pos e2, if_pos e2]
        · rw [if_neg e2, if_neg e2]
          rw [rm_bit hS hN a] at hnb
          have e3 : ¬ v = lowN S := fun e => e2 e.symm
          simp [e3] at hnb
          exact h v hv hnb
end dp
end Go.Proofs.YtigaopfhjimpmaaDoor

namespace Go.Proofs.YtigaopfhjimpmaaDoor
open Go.RowKit

theorem map_range_get {M j : Nat} (f : Nat → Int) (h : j < M) : ((List.range M).map f).getD j 0 = f j := by simp [List.getD, h]
theorem map_range_set {M S : Nat} (f g : Nat → Int) (h : S < M) (hg : ∀ j, j < M → j ≠ S → f j = g j) : ((List.range M).map f).set S (g S) = (List.range M).map g := by
  refine ext_getD (n := M) (by simp) (by simp) fun v hv => ?_
  rw [getD_setM _ _ _ _ (by simpa using h), map_range_get g hv, map_range_get f hv]
  by_cases e : S = v
  · rw [if_pos e, e]
  · rw [if_neg e, hg v hv (fun e2 => e e2.symm)]
section lists
variable (J : Nat → Nat → Bool) (N : Nat)
/-- the program's table: all sets below S -/
def mI (S : Nat) : List Int := (List.range (2 ^ N)).map fun j => if j < S then (pm J N j : Int) else 0
theorem mI_len (S : Nat) : (mI J N S).length = 2 ^ N := by simp [mI]
theorem mI_lo {S j : Nat} (hj : j < 2 ^ N) (h : j < S) : (mI J N S).getD j 0 = (pm J N j : Int) := by
  unfold mI; rw [map_range_get _ hj, if_pos h]
theorem mI_one : mI J N 1 = List.replicate (2 ^ N) 0 := by
  refine ext_getD (n := 2 ^ N) (mI_len J N 1) (by simp) fun v hv => ?_
  unfold mI
  rw [map_range_get _ hv]
  have : (List.replicate (2 ^ N) (0 : Int)).getD v 0 = 0 := by simp [List.getD, hv]
  rw [this]
  by_cases e : v < 1
  · have : v = 0 := by omega
    subst this
    rw [if_pos e, pm_zero]; rfl
  · rw [if_neg e]
theorem mI_next {S : Nat} (h : S < 2 ^ N) : (mI J N S).set S (pm J N S : Int) = mI J N (S + 1) := by
  have e := map_range_set (M := 2 ^ N) (S := S) (fun j => if j < S then (pm J N j : Int) else 0) (fun j => if j < S + 1 then (pm J N j : Int) else 0) h (fun j _ hne => by
    by_cases h1 : j < S
    · rw [if_pos h1, if_pos (by omega)]
    · rw [if_neg h1, if_neg (by omega)])
  rw [if_pos (Nat.lt_succ_self S)] at e
  exact e
theorem mI_mid {S j : Nat} (x : Int) (hj : j < 2 ^ N) (h : j < S) : ((mI J N S).set S x).getD j 0 = (pm J N j : Int) := by
  rw [← mI_lo J N hj h]
  simp only [List.getD]
  rw [List.getElem?_set_ne (by omega)]
theorem mI_at {S : Nat} (x : Int) (hS : S < 2 ^ N) : ((mI J N S).set S x).getD S 0 = x := by
  rw [getD_setM _ _ _ _ (by rw [mI_len]; exact hS), if_pos rfl]
/-- the reference's table: all masks from c on -/
def mS (c : Nat) : List Int := (List.range (2 ^ N)).map fun j => if c ≤ j then (pm J N ((2 ^ N - 1) ^^^ j) : Int) else 0
theorem mS_len (c : Nat) : (mS J N c).length = 2 ^ N := by simp [mS]
theorem mS_hi {c j : Nat} (hj : j < 2 ^ N) (h : c ≤ j) : (mS J N c).getD j 0 = (pm J N ((2 ^ N - 1) ^^^ j) : Int) := by
  unfold mS; rw [map_range_get _ hj, if_pos h]
theorem mS_full : mS J N (2 ^ N - 1) = List.replicate (2 ^ N) 0 := by
  refine ext_getD (n := 2 ^ N) (mS_len J N _) (by simp) fun v hv => ?_
  unfold mS
  rw [map_range_get _ hv]
  have : (List.replicate (2 ^ N) (0 : Int)).getD v 0 = 0 := by simp [List.getD, hv]
  rw [this]
  by_cases e : 2 ^ N - 1 ≤ v
  · have : v = 2 ^ N - 1 := by omega
    subst this
    rw [if_pos e, Nat.xor_self, pm_zero]; rfl
  · rw [if_neg e]
theorem mS_next {c : Nat} (h : c < 2 ^ N) : (mS J N (c + 1)).set c (pm J N ((2 ^ N - 1) ^^^ c) : Int) = mS J N c := by
  have e := map_range_set (M := 2 ^ N) (S := c) (fun j => if c + 1 ≤ j then (pm J N ((2 ^ N - 1) ^^^ j) : Int) else 0) (fun j => if c ≤ j then (pm J N ((2 ^ N - 1) ^^^ j) : Int) else 0) h (fun j _ hne => by
    by_cases h1 : c + 1 ≤ j
    · rw [if_pos h1, if_pos (by omega)]
    · rw [if_neg h1, if_neg (by omega)])
  rw [if_pos (Nat.le_refl c)] at e
  exact e
theorem mS_mid {c j : Nat} (x : Int) (hj : j < 2 ^ N) (h : c < j) : ((mS J N (c + 1)).set c x).getD j 0 = (pm J N ((2 ^ N - 1) ^^^ j) : Int) := by
  rw [← mS_hi J N hj (show c + 1 ≤ j by omega)]
  simp only [List.getD]
  rw [List.getElem?_set_ne (by omega)]
theorem mS_at {c : Nat} (x : Int) (hc : c < 2 ^ N) : ((mS J N (c + 1)).set c x).getD c 0 = x := by
  rw [getD_setM _ _ _ _ (by rw [mS_len]; exact hc), if_pos rfl]
end lists
/-- the other nodes -/
theorem cmp_bit {N c j : Nat} (hj : j < N) : ((2 ^ N - 1) ^^^ c).testBit j = !c.testBit j := by
  rw [Nat.testBit_xor, Nat.testBit_two_pow_sub_one, decide_eq_true hj, Bool.true_xor]
theorem cmp_lt {N c : Nat} (hc : c < 2 ^ N) : (2 ^ N - 1) ^^^ c < 2 ^ N := Nat.xor_lt_two_pow (by have := Nat.two_pow_pos N; omega) hc
theorem cmp_or {N c a : Nat} (hN : N ≤ 12) (hc : c < 2 ^ N) (ha : a < N) : (2 ^ N - 1) ^^^ (c ||| 2 ^ a) = rm ((2 ^ N - 1) ^^^ c) a := by
  apply Nat.eq_of_testBit_eq
  intro j
  rw [rm_bit (cmp_lt hc) hN ha]
  by_cases hj : j < N
  · rw [cmp_bit hj, cmp_bit hj, Nat.testBit_or, Nat.testBit_two_pow]
    by_cases e : a = j
    · subst e; simp
    · have : ¬ j = a := fun e2 => e e2.symm
      simp [e, this]
  · have h1 : (2 ^ N - 1 ^^^ (c ||| 2 ^ a)) < 2 ^ N := cmp_lt (Nat.or_lt_two_pow hc (Nat.pow_lt_pow_right (by omega) ha))
    have h2 := cmp_lt hc
    rw [Nat.testBit_lt_two_pow (Nat.lt_of_lt_of_le h1 (Nat.pow_le_pow_right (by omega) (by omega))), Nat.testBit_lt_two_pow (Nat.lt_of_lt_of_le h2 (Nat.pow_le_pow_right (by omega) (by omega)))]
    rfl
theorem cmp_zero {N c : Nat} (hc : c < 2 ^ N) : (2 ^ N - 1) ^^^ c = 0 ↔ c = 2 ^ N - 1 := by
  constructor
  · intro h
    have := congrArg (fun z => (2 ^ N - 1) ^^^ z) h
    simp only [← Nat.xor_assoc, Nat.xor_self, Nat.zero_xor, Nat.xor_zero] at this
    exact this
  · intro h; rw [h, Nat.xor_self]
theorem low_is {S N a : Nat} (hS : S < 2 ^ N) (hN : N ≤ 12) (ha : a < N) (h1 : S.testBit a = true) (h2 : ∀ j, j < a → S.testBit j = false) : lowN S = a := by
  have h0 : S ≠ 0 := fun e => by subst e; simp at h1
  obtain ⟨_, b, c⟩ := low_ok h0 hS hN
  rcases Nat.lt_trichotomy (lowN S) a with h | h | h
  · rw [h2 _ h] at b; cases b
  · exact h
  · rw [c _ h] at h1; cases h1
/-- which nodes are joined by the first k arcs -/
def frN (xs : List ArcR) (i : Nat) : Nat := (xs.getD i default).fr.toNat
def toN (xs : List ArcR) (i : Nat) : Nat := (xs.getD i default).to_.toNat
def adjT (xs : List ArcR) (k u v : Nat) : Bool := (List.range k).any fun i => (decide (frN xs i = u) && decide (toN xs i = v)) || (decide (frN xs i = v) && decide (toN xs i = u))
theorem adjT_succ (xs : List ArcR) (k u v : Nat) : adjT xs (k + 1) u v = (adjT xs k u v || ((decide (frN xs k = u) && decide (toN xs k = v)) || (decide (frN xs k = v) && decide (toN xs k = u)))) := by
  unfold adjT
  rw [List.range_succ, List.any_append]; simp
/-- the program's lists of neighbours -/
def jL (xs : List ArcR) (N : Nat) : Nat → List Int
  | 0 => List.replicate N 0
  | k + 1 => ((jL xs N k).set (frN xs k) (((jL xs N k).getD (frN xs k) 0).toNat ||| 2 ^ toN xs k : Nat)).set (toN xs k) ((((jL xs N k).set (frN xs k) (((jL xs N k).getD (frN xs k) 0).toNat ||| 2 ^ toN xs k : Nat)).getD (toN xs k) 0).toNat ||| 2 ^ frN xs k : Nat)
def JOk (xs : List ArcR) (N k : Nat) (l : List Int) : Prop := l.length = N ∧ ∀ u, u < N → ∃ m : Nat, l.getD u 0 = (m : Int) ∧ m < 2 ^ N ∧ ∀ v, v < N → m.testBit v = adjT xs k u v
theorem jL_ok {xs : List ArcR} {N : Nat} (hx : ∀ i, i < xs.length → frN xs i < N ∧ toN xs i < N ∧ frN xs i ≠ toN xs i) : ∀ k, k ≤ xs.length → JOk xs N k (jL xs N k)
  | 0, _ => ⟨by simp [jL], fun u hu => ⟨0, by simp [jL, List.getD, hu], Nat.two_pow_pos N, fun v _ => by simp [adjT]⟩⟩
  | k + 1, hk => by
    obtain ⟨h1, h2⟩ := jL_ok hx k (by omega)
    obtain ⟨f1, f2, f3⟩ := hx k (by omega)
    obtain ⟨mf, a1, a2, a3⟩ := h2 _ f1
    obtain ⟨mt, b1, b2, b3⟩ := h2 _ f2
    rw [jL, a1, getD_setM _ _ _ _ (by omega), if_neg f3, b1, Int.toNat_natCast, Int.toNat_natCast]
    refine ⟨by rw [List.length_set, List.length_set]; exact h1, fun u hu => ?_⟩
    rw [getD_setM _ _ _ _ (by rw [List.length_set]; omega)]
    by_cases e1 : toN xs k = u
    · rw [if_pos e1]
      refine ⟨_, rfl, Nat.or_lt_two_pow b2 (Nat.pow_lt_pow_right (by omega) f1), fun v hv => ?_⟩
      rw [Nat.testBit_or, Nat.testBit_two_pow, b3 v hv, adjT_succ, e1]
      have : ¬ frN xs k = u := fun e => f3 (by rw [e, e1])
      simp [this]
    · rw [if_neg e1, getD_setM _ _ _ _ (by omega)]
      by_cases e2 : frN xs k = u
      · rw [if_pos e2]
        refine ⟨_, rfl, Nat.or_lt_two_pow a2 (Nat.pow_lt_pow_right (by omega) f2), fun v hv => ?_⟩
        rw [Nat.testBit_or, Nat.testBit_two_pow, a3 v hv, adjT_succ, e2]
        simp [e1]
      · rw [if_neg e2]
        obtain ⟨m, c1, c2, c3⟩ := h2 u hu
        refine ⟨m, c1, c2, fun v hv => ?_⟩
        rw [c3 v hv, adjT_succ]
        simp [e1, e2]
/-- the reference's table of neighbours -/
def bL (xs : List ArcR) (N : Nat) : Nat → List Bool
  | 0 => List.replicate (N * N) false
  | k + 1 => ((bL xs N k).set (frN xs k * N + toN xs k) true).set (toN xs k * N + frN xs k) true
theorem cell_idx {N u v u' v' : Nat} (hv : v < N) (hv' : v' < N) : u * N + v = u' * N + v' ↔ u = u' ∧ v = v' := by
  constructor
  · intro h
    have h1 : (u * N + v) / N = (u' * N + v') / N := by rw [h]
    rw [Nat.mul_comm u, Nat.mul_comm u', Nat.mul_add_div (by omega), Nat.mul_add_div (by omega), Nat.div_eq_of_lt hv, Nat.div_eq_of_lt hv'] at h1
    have h2 : u = u' := by omega
    subst h2
    exact ⟨rfl, by omega⟩
  · rintro ⟨rfl, rfl⟩; rfl
theorem cell_lt {N u v : Nat} (hu : u < N) (hv : v < N) : u * N + v < N * N := by
  have : (u + 1) * N ≤ N * N := Nat.mul_le_mul_right _ hu
  rw [Nat.succ_mul] at this
  omega
theorem getD_setB' (zs : List Bool) (i j : Nat) (x : Bool) (h : i < zs.length) : (zs.set i x).getD j false = if i = j then x else zs.getD j false := by
  simp only [List.getD, List.getElem?_set]
  by_cases e : i = j
  · subst e; simp [h]
  · simp [e]
theorem bL_ok {xs : List ArcR} {N : Nat} (hx : ∀ i, i < xs.length → frN xs i < N ∧ toN xs i < N ∧ frN xs i ≠ toN xs i) : ∀ k, k ≤ xs.length → (bL xs N k).length = N * N ∧ ∀ u v, u < N → v < N → (bL xs N k).getD (u * N + v) false = adjT xs k u v
  | 0, _ => ⟨by simp [bL], fun u v hu hv => by
    have := cell_lt hu hv
    simp [bL, adjT, List.getD, this]⟩
  | k + 1, hk => by
    obtain ⟨h1, h2⟩ := bL_ok hx k (by omega)
    obtain ⟨f1, f2, _⟩ := hx k (by omega)
    rw [bL]
    refine ⟨by rw [List.length_set, List.length_set]; exact h1, fun u v hu hv => ?_⟩
    rw [getD_setB' _ _ _ _ (by rw [List.length_set, h1]; exact cell_lt f2 f1), getD_setB' _ _ _ _ (by rw [h1]; exact cell_lt f1 f2), h2 u v hu hv, adjT_succ]
    have i1 := cell_idx (u := toN xs k) (u' := u) f1 hv
    have i2 := cell_idx (u := frN xs k) (u' := u) f2 hv
    by_cases e1 : toN xs k * N + frN xs k = u * N + v
    · obtain ⟨a, b⟩ := i1.1 e1
      rw [if_pos e1, a, b]; simp
    · rw [if_neg e1]
      by_cases e2 : frN xs k * N + toN xs k = u * N + v
      · obtain ⟨a, b⟩ := i2.1 e2
        rw [if_pos e2, a, b]; simp
      · rw [if_neg e2]
        have n1 : ¬ (toN xs k = u ∧ frN xs k = v) := fun h => e1 (i1.2 h)
        have n2 : ¬ (frN xs k = u ∧ toN xs k = v) := fun h => e2 (i2.2 h)
        have m1 : (decide (frN xs k = v) && decide (toN xs k = u)) = false := by
          rw [Bool.and_eq_false_iff, decide_eq_false_iff_not, decide_eq_false_iff_not]
          by_cases h : frN xs k = v
          · right; exact fun h3 => n1 ⟨h3, h⟩
          · left; exact h
        have m2 : (decide (frN xs k = u) && decide (toN xs k = v)) = false := by
          rw [Bool.and_eq_false_iff, decide_eq_false_iff_not, decide_eq_false_iff_not]
          by_cases h : frN xs k = u
          · right; exact fun h3 => n2 ⟨h, h3⟩
          · left; exact h
        rw [m1, m2]; simp
end Go.Proofs.YtigaopfhjimpmaaDoor

namespace Go.Proofs.YtigaopfhjimpmaaDoor
open Go.RowKit

section facts
variable {J : Nat → Nat → Bool} {N : Nat}
theorem rm_lt2 {S k : Nat} (hS : S < 2 ^ N) : rm S k < 2 ^ N := Nat.lt_of_le_of_lt (rm_le S k) hS
theorem rm_not {S k : Nat} (hS : S < 2 ^ N) (hN : N ≤ 12) (hk : k < N) (h : S.testBit k = false) : rm S k = S := by
  apply Nat.eq_of_testBit_eq
  intro j
  rw [rm_bit hS hN hk]
  by_cases e : j = k
  · subst e; rw [h]; rfl
  · simp [e]
theorem rm_comm {S a b : Nat} (hS : S < 2 ^ N) (hN : N ≤ 12) (ha : a < N) (hb : b < N) : rm (rm S a) b = rm (rm S b) a := by
  apply Nat.eq_of_testBit_eq
  intro j
  rw [rm_bit (rm_lt2 hS) hN hb, rm_bit hS hN ha, rm_bit (rm_lt2 hS) hN ha, rm_bit hS hN hb]
  cases S.testBit j <;> by_cases e1 : j = a <;> by_cases e2 : j = b <;> simp [e1, e2]
theorem low_rm {S k : Nat} (hS : S < 2 ^ N) (hN : N ≤ 12) (h0 : S ≠ 0) (hk : k < N) (hne : k ≠ lowN S) : rm S k ≠ 0 ∧ lowN (rm S k) = lowN S := by
  obtain ⟨a, b, c⟩ := low_ok h0 hS hN
  have h1 : (rm S k).testBit (lowN S) = true := by rw [rm_bit hS hN hk, b]; simp; exact fun e => hne e.symm
  exact ⟨fun e => by rw [e] at h1; simp at h1, low_is (rm_lt2 hS) hN a h1 (fun j hj => by rw [rm_bit hS hN hk, c j hj]; rfl)⟩
def pairK (J : Nat → Nat → Bool) (S k : Nat) : Bool := (rm S (lowN S)).testBit k && J (lowN S) k
theorem vT_base {T : Nat → Nat} {S : Nat} : ∀ k, T (rm S (lowN S)) ≤ vT J T S k
  | 0 => Nat.le_refl _
  | k + 1 => by
    have := vT_base (T := T) (S := S) k
    rw [vT]; split <;> omega
theorem vT_ge {T : Nat → Nat} {S j : Nat} (hj : pairK J S j = true) : ∀ k, j < k → 1 + T (rm (rm S (lowN S)) j) ≤ vT J T S k
  | 0, h => by omega
  | k + 1, h => by
    rw [vT]
    by_cases e : j = k
    · subst e
      unfold pairK at hj
      rw [if_pos hj]; omega
    · have := vT_ge (T := T) hj k (by omega)
      split <;> omega
theorem vT_or {T : Nat → Nat} {S : Nat} : ∀ k, vT J T S k = T (rm S (lowN S)) ∨ ∃ j, j < k ∧ pairK J S j = true ∧ vT J T S k = 1 + T (rm (rm S (lowN S)) j)
  | 0 => .inl rfl
  | k + 1 => by
    have ih := vT_or (T := T) (S := S) k
    rw [vT]
    by_cases h : ((rm S (lowN S)).testBit k && J (lowN S) k) = true
    · rw [if_pos h]
      by_cases e : 1 + T (rm (rm S (lowN S)) k) ≤ vT J T S k
      · rw [Nat.max_eq_left e]
        rcases ih with ih | ⟨j, a, b, c⟩
        · exact .inl ih
        · exact .inr ⟨j, by omega, b, c⟩
      · rw [Nat.max_eq_right (by omega)]
        exact .inr ⟨k, by omega, h, rfl⟩
    · rw [if_neg h]
      rcases ih with ih | ⟨j, a, b, c⟩
      · exact .inl ih
      · exact .inr ⟨j, by omega, b, c⟩
theorem pm_low {S : Nat} (hN : N ≤ 12) (h0 : S ≠ 0) (hS : S < 2 ^ N) : pm J N (rm S (lowN S)) ≤ pm J N S := by
  rw [pm_eq J N hN h0 hS]; exact vT_base N
theorem pm_pair {S j : Nat} (hN : N ≤ 12) (h0 : S ≠ 0) (hS : S < 2 ^ N) (hj : j < N) (h : pairK J S j = true) : 1 + pm J N (rm (rm S (lowN S)) j) ≤ pm J N S := by
  have := vT_ge (T := pm J N) h N hj
  rw [pm_eq J N hN h0 hS]; exact this
theorem pm_or {S : Nat} (hN : N ≤ 12) (h0 : S ≠ 0) (hS : S < 2 ^ N) : pm J N S = pm J N (rm S (lowN S)) ∨ ∃ j, j < N ∧ pairK J S j = true ∧ pm J N S = 1 + pm J N (rm (rm S (lowN S)) j) := by
  have := vT_or (J := J) (T := pm J N) (S := S) N
  rw [← pm_eq J N hN h0 hS] at this
  exact this
theorem pm_mono (hN : N ≤ 12) : ∀ b S k, S ≤ b → S < 2 ^ N → k < N → pm J N (rm S k) ≤ pm J N S
  | 0, S, k, hb, hS, hk => by
    have h0 : S = 0 := by omega
    subst h0
    rw [rm_not hS hN hk (by simp)]; exact Nat.le_refl _
  | b + 1, S, k, hb, hS, hk => by
    by_cases h0 : S = 0
    · subst h0; rw [rm_not hS hN hk (by simp)]; exact Nat.le_refl _
    · obtain ⟨a1, a2, a3⟩ := low_ok h0 hS hN
      have hlt := rm_lt hS hN a1 a2
      by_cases e : k = lowN S
      · rw [e]; exact pm_low hN h0 hS
      · obtain ⟨q0, q1⟩ := low_rm hS hN h0 hk e
        rcases pm_or (J := J) hN q0 (rm_lt2 hS) with h | ⟨j, hj, hp, h⟩
        · rw [h, q1, rm_comm hS hN hk a1]
          exact Nat.le_trans (pm_mono hN b _ k (by omega) (rm_lt2 hS) hk) (pm_low hN h0 hS)
        · rw [h, q1, rm_comm hS hN hk a1]
          unfold pairK at hp
          rw [q1, rm_comm hS hN hk a1, Bool.and_eq_true, rm_bit (rm_lt2 hS) hN hk, Bool.and_eq_true] at hp
          have hp2 : pairK J S j = true := by unfold pairK; rw [hp.1.1, hp.2]; rfl
          rw [rm_comm (rm_lt2 hS) hN hk hj]
          have h3 := pm_mono hN b (rm (rm S (lowN S)) j) k (by have := rm_le (rm S (lowN S)) j; omega) (rm_lt2 (rm_lt2 hS)) hk
          have h4 := pm_pair hN h0 hS hj hp2
          omega
theorem pm_sub (hN : N ≤ 12) : ∀ b S k, S ≤ b → S < 2 ^ N → k < N → pm J N S ≤ pm J N (rm S k) + 1
  | 0, S, k, hb, hS, hk => by
    have h0 : S = 0 := by omega
    subst h0
    rw [rm_not hS hN hk (by simp)]; omega
  | b + 1, S, k, hb, hS, hk => by
    by_cases h0 : S = 0
    · subst h0; rw [rm_not hS hN hk (by simp)]; omega
    · obtain ⟨a1, a2, a3⟩ := low_ok h0 hS hN
      have hlt := rm_lt hS hN a1 a2
      rcases pm_or (J := J) hN h0 hS with h | ⟨j, hj, hp, h⟩
      · by_cases e : k = lowN S
        · rw [h, ← e]; omega
        · obtain ⟨q0, q1⟩ := low_rm hS hN h0 hk e
          have h3 := pm_sub hN b (rm S (lowN S)) k (by omega) (rm_lt2 hS) hk
          have h4 := pm_low (J := J) hN q0 (rm_lt2 hS)
          rw [q1, rm_comm hS hN hk a1] at h4
          omega
      · have hm := pm_mono (J := J) hN b (rm S (lowN S)) j (by omega) (rm_lt2 hS) hj
        by_cases e : k = lowN S
        · rw [h, e]; omega
        · obtain ⟨q0, q1⟩ := low_rm hS hN h0 hk e
          by_cases e2 : k = j
          · have h4 := pm_low (J := J) hN q0 (rm_lt2 hS)
            rw [q1, rm_comm hS hN hk a1] at h4
            rw [h, ← e2]; omega
          · have hjl := rm_le (rm S (lowN S)) j
            have h3 := pm_sub hN b (rm (rm S (lowN S)) j) k (by omega) (rm_lt2 (rm_lt2 hS)) hk
            have hp2 : pairK J (rm S k) j = true := by
              unfold pairK at hp ⊢
              rw [Bool.and_eq_true] at hp
              rw [q1, rm_comm hS hN hk a1, rm_bit (rm_lt2 hS) hN hk, hp.1, hp.2]
              simp; exact fun e => e2 e.symm
            have h4 := pm_pair hN q0 (rm_lt2 hS) hj hp2
            rw [q1, rm_comm hS hN hk a1, rm_comm (rm_lt2 hS) hN hk hj] at h4
            omega
/-- what the pairs are like -/
theorem mat_facts (hN : N ≤ 12) (hJ : ∀ u v, J u v = J v u) : ∀ b S (o : List Int), S ≤ b → S < 2 ^ N → o.length = N →
    (∀ v, v < N → S.testBit v = false → (matW J N S o).getD v 0 = o.getD v 0) ∧
    (∀ v, v < N → S.testBit v = true → (matW J N S o).getD v 0 = -1 ∨ ∃ k : Nat, k < N ∧ S.testBit k = true ∧ k ≠ v ∧ (matW J N S o).getD v 0 = (k : Int) ∧ (matW J N S o).getD k 0 = (v : Int)) ∧
    (∀ u v, u < N → v < N → S.testBit u = true → S.testBit v = true → u ≠ v → J u v = true → ¬ ((matW J N S o).getD u 0 = -1 ∧ (matW J N S o).getD v 0 = -1))
  | 0, S, o, hb, hS, hl => by
    have h0 : S = 0 := by omega
    subst h0
    exact ⟨fun v _ _ => rfl, fun v _ h => by simp at h, fun u v _ _ h => by simp at h⟩
  | b + 1, S, o, hb, hS, hl => by
    by_cases h0 : S = 0
    · subst h0
      exact ⟨fun v _ _ => rfl, fun v _ h => by simp at h, fun u v _ _ h => by simp at h⟩
    · obtain ⟨a1, a2, a3⟩ := low_ok h0 hS hN
      have hlt := rm_lt hS hN a1 a2
      obtain ⟨_, f2, f3, f4⟩ := fnd_ok J N (S := S) N 0
      by_cases hf : fnd J N S N 0 < N
      · have hc := f4 (by omega)
        obtain ⟨c1, c2⟩ := cnd_in J N hN h0 hS hc
        have hk4 := rm_le (rm S (lowN S)) (fnd J N S N 0)
        rw [matW_hit J N (o := o) hN h0 hS hf hc (fun j hj => f3 j (by omega) hj)]
        generalize fnd J N S N 0 = k at *
        have hbit : ∀ v, (rm (rm S (lowN S)) k).testBit v = (S.testBit v && decide (v ≠ lowN S) && decide (v ≠ k)) := fun v => by rw [rm_bit (rm_lt2 hS) hN hf, rm_bit hS hN a1]
        obtain ⟨g1, g2, g3⟩ := mat_facts hN hJ b (rm (rm S (lowN S)) k) ((o.set (lowN S) (k : Int)).set k (lowN S : Int)) (by omega) (rm_lt2 (rm_lt2 hS)) (by simp [hl])
        have hset : ∀ v, v < N → ((o.set (lowN S) (k : Int)).set k (lowN S : Int)).getD v 0 = if k = v then (lowN S : Int) else if lowN S = v then (k : Int) else o.getD v 0 := fun v hv => by
          rw [getD_setM _ _ _ _ (by rw [List.length_set]; omega), getD_setM _ _ _ _ (by omega)]
        generalize matW J N (rm (rm S (lowN S)) k) ((o.set (lowN S) (k : Int)).set k (lowN S : Int)) = r at *
        have ra : r.getD (lowN S) 0 = (k : Int) := by
          rw [g1 _ a1 (by rw [hbit]; simp), hset _ a1, if_neg c2, if_pos rfl]
        have rk : r.getD k 0 = (lowN S : Int) := by
          rw [g1 _ hf (by rw [hbit]; simp), hset _ hf, if_pos rfl]
        refine ⟨fun v hv hvS => ?_, fun v hv hvS => ?_, fun u v hu hv huS hvS hne hj ⟨e1, e2⟩ => ?_⟩
        · rw [g1 v hv (by rw [hbit, hvS]; rfl), hset v hv, if_neg (fun e => by rw [← e, c1] at hvS; cases hvS), if_neg (fun e => by rw [← e, a2] at hvS; cases hvS)]
        · by_cases e : v = lowN S
          · exact .inr ⟨k, hf, c1, by rw [e]; exact c2, by rw [e]; exact ra, by rw [e]; exact rk⟩
          · by_cases e2 : v = k
            · exact .inr ⟨lowN S, a1, a2, fun e3 => e e3.symm, by rw [e2]; exact rk, by rw [e2]; exact ra⟩
            · rcases g2 v hv (by rw [hbit, hvS]; simp [e, e2]) with h | ⟨q, q1, q2, q3, q4, q5⟩
              · exact .inl h
              · refine .inr ⟨q, q1, ?_, q3, q4, q5⟩
                rw [hbit, Bool.and_eq_true, Bool.and_eq_true] at q2
                exact q2.1.1
        · have hin : ∀ z, z < N → S.testBit z = true → r.getD z 0 = -1 → (rm (rm S (lowN S)) k).testBit z = true := fun z hz hzS hr => by
            rw [hbit, hzS]
            have n1 : z ≠ lowN S := fun e => by rw [e, ra] at hr; omega
            have n2 : z ≠ k := fun e => by rw [e, rk] at hr; omega
            simp [n1, n2]
          exact g3 u v hu hv (hin u hu huS e1) (hin v hv hvS e2) hne hj ⟨e1, e2⟩
      · have hno : ∀ j, j < N → cnd J N S j = false := fun j hj => f3 j (by omega) (by omega)
        rw [matW_miss J N (o := o) hN h0 hS hno]
        have hbit : ∀ v, (rm S (lowN S)).testBit v = (S.testBit v && decide (v ≠ lowN S)) := fun v => rm_bit hS hN a1
        obtain ⟨g1, g2, g3⟩ := mat_facts hN hJ b (rm S (lowN S)) (o.set (lowN S) (-1)) (by omega) (rm_lt2 hS) (by simp [hl])
        have hset : ∀ v, v < N → (o.set (lowN S) (-1)).getD v 0 = if lowN S = v then (-1) else o.getD v 0 := fun v hv => getD_setM _ _ _ _ (by omega)
        have hlone : ∀ v, v < N → S.testBit v = true → v ≠ lowN S → J (lowN S) v = true → False := fun v hv hvS hne hj => by
          have hp : pairK J S v = true := by unfold pairK; rw [hbit, hvS, hj]; simp [hne]
          have h1 := pm_pair hN h0 hS hv hp
          have h2 := pm_sub (J := J) hN b (rm S (lowN S)) v (by omega) (rm_lt2 hS) hv
          have h3 := hno v hv
          unfold cnd at h3
          unfold pairK at hp
          rw [hp, Bool.true_and, decide_eq_false_iff_not] at h3
          rcases pm_or (J := J) hN h0 hS with h | ⟨j, hj2, hp2, h⟩
          · omega
          · have h4 := hno j hj2
            unfold cnd at h4
            unfold pairK at hp2
            rw [hp2, Bool.true_and, decide_eq_false_iff_not] at h4
            exact h4 h.symm
        generalize matW J N (rm S (lowN S)) (o.set (lowN S) (-1)) = r at *
        have ra : r.getD (lowN S) 0 = -1 := by rw [g1 _ a1 (by rw [hbit]; simp), hset _ a1, if_pos rfl]
        refine ⟨fun v hv hvS => ?_, fun v hv hvS => ?_, fun u v hu hv huS hvS hne hj ⟨e1, e2⟩ => ?_⟩
        · rw [g1 v hv (by rw [hbit, hvS]; rfl), hset v hv, if_neg (fun e => by rw [← e, a2] at hvS; cases hvS)]
        · by_cases e : v = lowN S
          · exact .inl (by rw [e]; exact ra)
          · rcases g2 v hv (by rw [hbit, hvS]; simp [e]) with h | ⟨q, q1, q2, q3, q4, q5⟩
            · exact .inl h
            · refine .inr ⟨q, q1, ?_, q3, q4, q5⟩
              rw [hbit, Bool.and_eq_true] at q2
              exact q2.1
        · by_cases e : u = lowN S
          · exact hlone v hv hvS (fun e3 => hne (by rw [e, e3])) (by rw [← e]; exact hj)
          · by_cases e3 : v = lowN S
            · exact hlone u hu huS e (by rw [← e3, hJ]; exact hj)
            · exact g3 u v hu hv (by rw [hbit, huS]; simp [e]) (by rw [hbit, hvS]; simp [e3]) hne hj ⟨e1, e2⟩
end facts
theorem adjT_sym (xs : List ArcR) (k u v : Nat) : adjT xs k u v = adjT xs k v u := by
  unfold adjT
  congr 1
  funext i
  rw [Bool.or_comm]
theorem adjT_arc {xs : List ArcR} {i k : Nat} (hi : i < k) : adjT xs k (frN xs i) (toN xs i) = true := by
  unfold adjT
  rw [List.any_eq_true]
  exact ⟨i, List.mem_range.2 hi, by simp⟩
end Go.Proofs.YtigaopfhjimpmaaDoor

namespace Go.Proofs.YtigaopfhjimpmaaDoor
open Go.RowKit

/-- the cells of a slice that is read and known to lie at an address -/
theorem ints_cell {w : World} {ad : Addr} {n : Nat} {zs : List Int} (h : IntsAt w (some ad) n zs) {k : Nat} (hk : k < n) : w.cell? (ad.add k) = some (.int .i64 (zs.getD k 0)) := by
  obtain ⟨ad', e, _, hc⟩ := h.at_ hk
  injection e with e
  subst e
  exact hc
end Go.Proofs.YtigaopfhjimpmaaDoor

namespace Go.Proofs.YtigaopfhjimpmaaDoor
open Go.RowKit

theorem arcs_cell {w : World} {ad : Addr} {n : Nat} {xs : List ArcR} (h : ArcsAt w (some ad) n xs) {k : Nat} (hk : k < n) : ArcCells w (ad.add (k * 4)) (xs.getD k default) := by
  obtain ⟨ad', e, _, hc⟩ := h.at_ hk
  injection e with e
  subst e
  exact hc

def flowOkTo (xs : List ArcR) (fl : List Int) (k : Nat) : Bool := (List.range k).all fun i => inB (fl.getD i 0) 0 (xs.getD i default).room
/-- a list is a flow of a net -/
def flowB (nodes : Int) (xs : List ArcR) (fl : List Int) : Bool := validB nodes xs && (decide (fl.length = xs.length) && flowOkTo xs fl xs.length)
theorem flowOkTo_succ (xs : List ArcR) (fl : List Int) (k : Nat) : flowOkTo xs fl (k + 1) = (flowOkTo xs fl k && inB (fl.getD k 0) 0 (xs.getD k default).room) := by
  unfold flowOkTo
  rw [List.range_succ, List.all_append]; simp
theorem flowOkTo_stop {xs : List ArcR} {fl : List Int} {k : Nat} (h : inB (fl.getD k 0) 0 (xs.getD k default).room = false) : ∀ d, flowOkTo xs fl (k + 1 + d) = false
  | 0 => by rw [Nat.add_zero, flowOkTo_succ, h, Bool.and_false]
  | d + 1 => by rw [← Nat.add_assoc, flowOkTo_succ, flowOkTo_stop h d, Bool.false_and]
theorem flowOkTo_at {xs : List ArcR} {fl : List Int} {n : Nat} (h : flowOkTo xs fl n = true) {k : Nat} (hk : k < n) : 0 ≤ fl.getD k 0 ∧ fl.getD k 0 ≤ (xs.getD k default).room := by
  unfold flowOkTo at h
  rw [List.all_eq_true] at h
  exact inB_iff.1 (h k (List.mem_range.2 hk))
theorem flowB_novalid {nodes : Int} {xs : List ArcR} {fl : List Int} (h : validB nodes xs = false) : flowB nodes xs fl = false := by simp [flowB, h]
theorem flowB_len {nodes : Int} {xs : List ArcR} {fl : List Int} (h : fl.length ≠ xs.length) : flowB nodes xs fl = false := by simp [flowB, h]
theorem flowB_yes {nodes : Int} {xs : List ArcR} {fl : List Int} (h : validB nodes xs = true) (h2 : fl.length = xs.length) : flowB nodes xs fl = flowOkTo xs fl xs.length := by simp [flowB, h, h2]

theorem valid_bd {nodes : Int} {xs : List ArcR} (h : validB nodes xs = true) : 2 ≤ nodes ∧ nodes ≤ 16 ∧ xs.length ≤ 48 ∧ ∀ k, k < xs.length → (0 ≤ (xs.getD k default).fr ∧ (xs.getD k default).fr < nodes) ∧ (0 ≤ (xs.getD k default).to_ ∧ (xs.getD k default).to_ < nodes) ∧ (xs.getD k default).fr ≠ (xs.getD k default).to_ ∧ (0 ≤ (xs.getD k default).room ∧ (xs.getD k default).room ≤ 1000000) ∧ (-1000 ≤ (xs.getD k default).cost ∧ (xs.getD k default).cost ≤ 1000) := by
  simp only [validB, Bool.and_eq_true, decide_eq_true_eq, List.all_eq_true] at h
  obtain ⟨h1, h2, h3⟩ := h
  obtain ⟨a, b⟩ := inB_iff.1 h1
  refine ⟨a, b, h2, fun k hk => ?_⟩
  have h4 := h3 (xs.getD k default) (by simp [List.getD, List.getElem?_eq_getElem hk])
  simp only [arcOkB, Bool.and_eq_true, decide_eq_true_eq, inB_iff] at h4
  obtain ⟨e1, e2, e3, e4, e5⟩ := h4
  exact ⟨⟨e1.1, by omega⟩, ⟨e2.1, by omega⟩, e3, e4, e5⟩
theorem flow_bd {nodes : Int} {xs : List ArcR} {fl : List Int} (h : flowB nodes xs fl = true) : validB nodes xs = true ∧ fl.length = xs.length ∧ ∀ k, k < xs.length → 0 ≤ fl.getD k 0 ∧ fl.getD k 0 ≤ (xs.getD k default).room ∧ fl.getD k 0 ≤ 1000000 := by
  simp only [flowB, Bool.and_eq_true, decide_eq_true_eq] at h
  obtain ⟨h1, h2, h3⟩ := h
  refine ⟨h1, h2, fun k hk => ?_⟩
  have h4 := flowOkTo_at h3 hk
  have h5 := ((valid_bd h1).2.2.2 k hk).2.2.2.1
  omega

theorem within_q (n lo hi : Int) (w : World) (m : Nat) :
    Calls Tryd.prog 46 #[.int .i64 n, .int .i64 lo, .int .i64 hi] (w.drewN m) fun e w'' => e = .returned (.bool (inB n lo hi)) ∧ ∃ q, w'' = w.drewN q := quiet_here (within_any n lo hi _)


end Go.Proofs.YtigaopfhjimpmaaDoor

namespace Go.Proofs.YtigaopfhjimpmaaDoor
open Go.RowKit

def swp (zs : List Int) (k : Nat) : List Int := (zs.set (k + 1) (zs.getD k 0)).set k (zs.getD (k + 1) 0)
/-- the element of the number k moves down as long as it is less than the one before it -/
def insD (lt : Int → Int → Bool) : Nat → List Int → List Int
  | 0, zs => zs
  | k + 1, zs => if lt (zs.getD (k + 1) 0) (zs.getD k 0) = true then insD lt k (swp zs k) else zs
theorem insD_yes {lt : Int → Int → Bool} {k : Nat} {zs : List Int} (h : lt (zs.getD (k + 1) 0) (zs.getD k 0) = true) : insD lt (k + 1) zs = insD lt k (swp zs k) := by
  rw [insD, if_pos h]
theorem insD_no {lt : Int → Int → Bool} {k : Nat} {zs : List Int} (h : lt (zs.getD (k + 1) 0) (zs.getD k 0) = false) : insD lt (k + 1) zs = zs := by
  rw [insD, if_neg (by rw [h]; decide)]
theorem swp_len (zs : List Int) (k : Nat) : (swp zs k).length = zs.length := by simp [swp]
theorem insD_len (lt : Int → Int → Bool) : ∀ (k : Nat) (zs : List Int), (insD lt k zs).length = zs.length
  | 0, _ => rfl
  | k + 1, zs => by
    unfold insD
    split
    · rw [insD_len lt k, swp_len]
    · rfl
theorem getD_left {xs ys : List Int} {k : Nat} (h : k < xs.length) : (xs ++ ys).getD k 0 = xs.getD k 0 := by
  simp only [List.getD]
  rw [List.getElem?_append_left h]
theorem swp_app {xs ys : List Int} {k : Nat} (h : k + 1 < xs.length) : swp (xs ++ ys) k = swp xs k ++ ys := by
  unfold swp
  rw [getD_left (by omega), getD_left h, List.set_append_left _ _ h, List.set_append_left _ _ (by rw [List.length_set]; omega)]
theorem insD_app (lt : Int → Int → Bool) : ∀ (k : Nat) (xs ys : List Int), k < xs.length → insD lt k (xs ++ ys) = insD lt k xs ++ ys
  | 0, _, _, _ => rfl
  | k + 1, xs, ys, h => by
    unfold insD
    rw [getD_left h, getD_left (show k < xs.length by omega)]
    split
    · rw [swp_app h, insD_app lt k _ _ (by rw [swp_len]; omega)]
    · rfl
/-- the first i numbers in order -/
def ordTo (lt : Int → Int → Bool) : Nat → List Int
  | 0 => []
  | i + 1 => insD lt i (ordTo lt i ++ [(i : Int)])
theorem ordTo_len (lt : Int → Int → Bool) : ∀ i, (ordTo lt i).length = i
  | 0 => rfl
  | i + 1 => by rw [ordTo, insD_len, List.length_append, ordTo_len lt i]; rfl
/-- all entries are numbers below N -/
def RngL (zs : List Int) (N : Nat) : Prop := ∀ j, j < zs.length → ∃ x : Nat, zs.getD j 0 = (x : Int) ∧ x < N
theorem RngL.swp {zs : List Int} {N k : Nat} (h : RngL zs N) (hk : k + 1 < zs.length) : RngL (swp zs k) N := by
  intro j hj
  rw [swp_len] at hj
  unfold Go.Proofs.YtigaopfhjimpmaaDoor.swp
  rw [getD_set (by rw [List.length_set]; omega)]
  split
  · exact h (k + 1) hk
  · rw [getD_set hk]
    split
    · exact h k (by omega)
    · exact h j hj
theorem RngL.ins {lt : Int → Int → Bool} {N : Nat} : ∀ (k : Nat) (zs : List Int), k < zs.length → RngL zs N → RngL (insD lt k zs) N
  | 0, _, _, h => h
  | k + 1, zs, hk, h => by
    unfold insD
    split
    · exact RngL.ins k _ (by rw [swp_len]; omega) (h.swp hk)
    · exact h
theorem RngL.snoc {zs : List Int} {N i : Nat} (h : RngL zs N) (hi : i < N) : RngL (zs ++ [(i : Int)]) N := by
  intro j hj
  rw [List.length_append, List.length_singleton] at hj
  simp only [List.getD]
  by_cases e : j < zs.length
  · rw [List.getElem?_append_left e]; exact h j e
  · rw [List.getElem?_append_right (by omega), show j - zs.length = 0 by omega]
    exact ⟨i, rfl, hi⟩
theorem ordTo_rng {lt : Int → Int → Bool} {N : Nat} : ∀ i, i ≤ N → RngL (ordTo lt i) N
  | 0, _ => fun j hj => by simp [ordTo] at hj
  | i + 1, h => by
    rw [ordTo]
    exact RngL.ins i _ (by rw [List.length_append, ordTo_len]; simp) ((ordTo_rng i (by omega)).snoc (by omega))
theorem seqI_cons (k : Int) (n : Nat) : seqI k (n + 1) = k :: seqI (k + 1) n := by
  unfold seqI
  rw [List.range_succ_eq_map, List.map_cons, List.map_map]
  congr 1
  · simp
  · apply List.map_congr_left
    intro i _
    show k + ((i + 1 : Nat) : Int) = k + 1 + (i : Int)
    omega
/-- the list of the program after i rounds -/
def ordS (lt : Int → Int → Bool) (n i : Nat) : List Int := ordTo lt i ++ seqI i (n - i)
theorem ordS_step {lt : Int → Int → Bool} {n i : Nat} (h : i < n) : insD lt i (ordS lt n i) = ordS lt n (i + 1) := by
  unfold ordS
  rw [show n - i = (n - (i + 1)) + 1 by omega, seqI_cons, show ordTo lt i ++ (i : Int) :: seqI ((i : Int) + 1) (n - (i + 1)) = (ordTo lt i ++ [(i : Int)]) ++ seqI ((i : Int) + 1) (n - (i + 1)) by simp]
  rw [insD_app lt i _ _ (by rw [List.length_append, ordTo_len]; simp)]
  rfl
theorem ordS_zero (lt : Int → Int → Bool) (n : Nat) : ordS lt n 0 = seqI 0 n := rfl
theorem ordS_one {lt : Int → Int → Bool} {n : Nat} (h : 1 ≤ n) : ordS lt n 1 = seqI 0 n := by
  rw [← ordS_step (show 0 < n by omega)]; rfl
theorem ordS_all (lt : Int → Int → Bool) (n : Nat) : ordS lt n n = ordTo lt n := by
  unfold ordS; rw [Nat.sub_self]; simp [seqI]
theorem ordS_len (lt : Int → Int → Bool) {n i : Nat} (h : i ≤ n) : (ordS lt n i).length = n := by
  unfold ordS; rw [List.length_append, ordTo_len, seqI_len]; omega
theorem ordS_rng {lt : Int → Int → Bool} {n i : Nat} (h : i ≤ n) : RngL (ordS lt n i) n := by
  intro j hj
  rw [ordS_len lt h] at hj
  unfold ordS
  simp only [List.getD]
  by_cases e : j < i
  · rw [List.getElem?_append_left (by rw [ordTo_len]; exact e)]
    exact ordTo_rng i h j (by rw [ordTo_len]; exact e)
  · rw [List.getElem?_append_right (by rw [ordTo_len]; omega), ordTo_len]
    have h2 := seqI_get (i : Int) (n - i) (j - i) (by omega)
    simp only [List.getD] at h2
    exact ⟨j, by rw [h2]; omega, hj⟩
def cmpI (x y : Int) : Int := if x < y then -1 else if y < x then 1 else 0
theorem cmpI_neg (x y : Int) : decide (cmpI x y < 0) = decide (x < y) := by
  unfold cmpI
  by_cases h : x < y
  · simp [h]
  · by_cases h2 : y < x <;> simp [h, h2]
end Go.Proofs.YtigaopfhjimpmaaDoor

namespace Go.Proofs.YtigaopfhjimpmaaDoor
open Go.RowKit

theorem get_mid (A B : List Int) (x : Int) {k : Nat} (hk : k = A.length) : (A ++ x :: B).getD k 0 = x := by
  subst hk
  simp [List.getD]
theorem set_mid (A B : List Int) (x y : Int) {k : Nat} (hk : k = A.length) : (A ++ x :: B).set k y = A ++ y :: B := by
  subst hk
  induction A with
  | nil => rfl
  | cons a A ih => simp
theorem drop_at {U : List Int} {i : Nat} (h : i < U.length) : U.drop i = U.getD i 0 :: U.drop (i + 1) := by
  rw [List.drop_eq_getElem_cons h]
  simp [List.getD, h]
theorem take_at {U : List Int} {i : Nat} (h : i < U.length) : U.take (i + 1) = U.take i ++ [U.getD i 0] := by
  rw [List.take_succ_eq_append_getElem h]
  simp [List.getD, h]
/-- behind i exchanges of two parts -/
def swpA (P U M V S : List Int) (i : Nat) : List Int := P ++ (V.take i ++ (U.drop i ++ (M ++ (U.take i ++ (V.drop i ++ S)))))
theorem swpA_zero (P U M V S : List Int) : swpA P U M V S 0 = P ++ (U ++ (M ++ (V ++ S))) := by simp [swpA]
theorem swpA_all (P U M V S : List Int) {n : Nat} (hu : U.length = n) (hv : V.length = n) : swpA P U M V S n = P ++ (V ++ (M ++ (U ++ S))) := by
  unfold swpA
  rw [List.take_of_length_le (by omega), List.take_of_length_le (by omega), List.drop_eq_nil_of_le (by omega), List.drop_eq_nil_of_le (by omega)]; simp
theorem swpA_len (P U M V S : List Int) {n : Nat} (hu : U.length = n) (hv : V.length = n) (i : Nat) : (swpA P U M V S i).length = (P ++ (U ++ (M ++ (V ++ S)))).length := by
  unfold swpA
  simp only [List.length_append, List.length_take, List.length_drop]; omega
theorem swpA_step {P U M V S : List Int} {n i a b : Nat} (hu : U.length = n) (hv : V.length = n) (hi : i < n) (ha : a = P.length) (hb : b = P.length + n + M.length) :
    (swpA P U M V S i).getD (a + i) 0 = U.getD i 0 ∧ (swpA P U M V S i).getD (b + i) 0 = V.getD i 0 ∧ ((swpA P U M V S i).set (a + i) (V.getD i 0)).set (b + i) (U.getD i 0) = swpA P U M V S (i + 1) := by
  have e1 : swpA P U M V S i = (P ++ V.take i) ++ U.getD i 0 :: (U.drop (i + 1) ++ (M ++ (U.take i ++ (V.getD i 0 :: (V.drop (i + 1) ++ S))))) := by
    unfold swpA
    rw [drop_at (U := U) (by omega), drop_at (U := V) (by omega)]
    simp
  have e2 : ∀ z, (P ++ V.take i) ++ z :: (U.drop (i + 1) ++ (M ++ (U.take i ++ (V.getD i 0 :: (V.drop (i + 1) ++ S))))) = (P ++ V.take i ++ z :: (U.drop (i + 1) ++ (M ++ U.take i))) ++ V.getD i 0 :: (V.drop (i + 1) ++ S) := fun z => by simp
  have l1 : a + i = (P ++ V.take i).length := by rw [List.length_append, List.length_take]; omega
  have l2 : ∀ z, b + i = (P ++ V.take i ++ z :: (U.drop (i + 1) ++ (M ++ U.take i))).length := fun z => by
    simp only [List.length_append, List.length_cons, List.length_take, List.length_drop]; omega
  refine ⟨?_, ?_, ?_⟩
  · rw [e1, get_mid _ _ _ l1]
  · rw [e1, e2, get_mid _ _ _ (l2 _)]
  · rw [e1, set_mid _ _ _ _ l1, e2, set_mid _ _ _ _ (l2 _)]
    unfold swpA
    rw [take_at (U := U) (by omega), take_at (U := V) (by omega)]
    simp
/-- the order: by costs, then by the numbers themselves -/
def LtC (ct : Int → Int) (x y : Int) : Prop := ct x < ct y ∨ (ct x = ct y ∧ x < y)
theorem LtC.trans {ct : Int → Int} {x y z : Int} (h1 : LtC ct x y) (h2 : LtC ct y z) : LtC ct x z := by
  unfold LtC at *; omega
theorem LtC.le {ct : Int → Int} {x y : Int} (h : LtC ct x y) : ct x ≤ ct y := by unfold LtC at h; omega
abbrev SortC (ct : Int → Int) (L : List Int) : Prop := L.Pairwise (LtC ct)
theorem perm_in {L Z : List Int} (h : L.Perm Z) {P : Int → Prop} (hz : ∀ x ∈ Z, P x) : ∀ x ∈ L, P x := fun x hx => hz x (h.mem_iff.1 hx)
/-- an insertion -/
theorem ins_done {ct : Int → Int} {L1 L2 : List Int} {x : Int} (hs : SortC ct (L1 ++ L2)) (hlt : ∀ y ∈ L1, y < x) (hend : ∀ y, L1.getLast? = some y → ct y ≤ ct x) (h2 : ∀ y ∈ L2, ct x < ct y) : SortC ct (L1 ++ x :: L2) := by
  rw [SortC, List.pairwise_append] at hs
  obtain ⟨s1, s2, s3⟩ := hs
  rw [SortC, List.pairwise_append, List.pairwise_cons]
  refine ⟨s1, ⟨fun y hy => .inl (h2 y hy), s2⟩, fun y hy z hz => ?_⟩
  rcases List.mem_cons.1 hz with e | e
  · subst e
    have hle : ct y ≤ ct z := by
      rcases List.eq_nil_or_concat L1 with e0 | ⟨L', u, e0⟩
      · subst e0; cases hy
      · have e0 : L1 = L' ++ [u] := by simpa using e0
        subst e0
        have hu := hend u (by simp)
        rcases List.mem_append.1 hy with h | h
        · have := (List.pairwise_append.1 s1).2.2 y h u (by simp)
          have := this.le
          omega
        · have : y = u := by simpa using h
          subst this; exact hu
    have := hlt y hy
    unfold LtC; omega
  · exact s3 y hy z e
/-- a number goes into its place behind smaller ones: it stood first -/
theorem merge_left {ct : Int → Int} {x : Int} {X1 X2 : List Int} (hs : SortC ct (X1 ++ X2)) (hlt : ∀ y ∈ X1 ++ X2, x < y) (h1 : ∀ y ∈ X1, ct y < ct x) (h2 : ∀ y ∈ X2, ct x ≤ ct y) : SortC ct (X1 ++ x :: X2) := by
  rw [SortC, List.pairwise_append] at hs
  obtain ⟨s1, s2, s3⟩ := hs
  rw [SortC, List.pairwise_append, List.pairwise_cons]
  refine ⟨s1, ⟨fun y hy => ?_, s2⟩, fun y hy z hz => ?_⟩
  · have a := h2 y hy
    have b := hlt y (by simp [hy])
    unfold LtC; omega
  · rcases List.mem_cons.1 hz with e | e
    · subst e; exact .inl (h1 y hy)
    · exact s3 y hy z e
theorem merge_right {ct : Int → Int} {x : Int} {L1 L2 : List Int} (hs : SortC ct (L1 ++ L2)) (hlt : ∀ y ∈ L1 ++ L2, y < x) (h1 : ∀ y ∈ L1, ct y ≤ ct x) (h2 : ∀ y ∈ L2, ct x < ct y) : SortC ct (L1 ++ x :: L2) := by
  rw [SortC, List.pairwise_append] at hs
  obtain ⟨s1, s2, s3⟩ := hs
  rw [SortC, List.pairwise_append, List.pairwise_cons]
  refine ⟨s1, ⟨fun y hy => .inl (h2 y hy), s2⟩, fun y hy z hz => ?_⟩
  rcases List.mem_cons.1 hz with e | e
  · subst e
    have a := h1 y hy
    have b := hlt y (by simp [hy])
    unfold LtC; omega
  · exact s3 y hy z e
/-- two merged parts of which the first is below the second -/
theorem merge_two {ct : Int → Int} {L1 L2 X1 X2 M1 M2 : List Int} (hL : SortC ct (L1 ++ L2)) (hX : SortC ct (X1 ++ X2)) (h1 : M1.Perm (L1 ++ X1)) (h2 : M2.Perm (L2 ++ X2)) (s1 : SortC ct M1) (s2 : SortC ct M2)
    (hlx : ∀ y ∈ L1, ∀ x ∈ X2, LtC ct y x) (hxl : ∀ x ∈ X1, ∀ y ∈ L2, LtC ct x y) : SortC ct (M1 ++ M2) ∧ (M1 ++ M2).Perm ((L1 ++ L2) ++ (X1 ++ X2)) := by
  refine ⟨?_, ?_⟩
  · rw [SortC, List.pairwise_append]
    refine ⟨s1, s2, fun u hu v hv => ?_⟩
    rw [h1.mem_iff, List.mem_append] at hu
    rw [h2.mem_iff, List.mem_append] at hv
    rcases hu with hu | hu <;> rcases hv with hv | hv
    · exact (List.pairwise_append.1 hL).2.2 u hu v hv
    · exact hlx u hu v hv
    · exact hxl u hu v hv
    · exact (List.pairwise_append.1 hX).2.2 u hu v hv
  · refine (h1.append h2).trans ?_
    rw [List.append_assoc, List.append_assoc]
    refine List.Perm.append_left L1 ?_
    rw [← List.append_assoc, ← List.append_assoc]
    exact (List.perm_append_comm (l₁ := X1) (l₂ := L2)).append_right X2
end Go.Proofs.YtigaopfhjimpmaaDoor

namespace Go.Proofs.YtigaopfhjimpmaaDoor
open Go.RowKit

theorem sort_get {ct : Int → Int} {L : List Int} (h : SortC ct L) {i j : Nat} (hij : i ≤ j) (hj : j < L.length) : ct (L.getD i 0) ≤ ct (L.getD j 0) := by
  rcases Nat.lt_or_eq_of_le hij with e | e
  · have := List.pairwise_iff_getElem.1 h i j (by omega) hj e
    simp only [List.getD, List.getElem?_eq_getElem hj, List.getElem?_eq_getElem (show i < L.length by omega), Option.getD_some]
    exact this.le
  · subst e; exact Int.le_refl _
theorem in_take {L : List Int} {l : Nat} {y : Int} (h : y ∈ L.take l) : ∃ i, i < l ∧ i < L.length ∧ L.getD i 0 = y := by
  obtain ⟨i, hi, e⟩ := List.mem_iff_getElem.1 h
  rw [List.length_take] at hi
  rw [List.getElem_take] at e
  exact ⟨i, by omega, by omega, by simp only [List.getD, List.getElem?_eq_getElem (show i < L.length by omega), Option.getD_some]; exact e⟩
theorem in_drop {L : List Int} {l : Nat} {y : Int} (h : y ∈ L.drop l) : ∃ i, l ≤ i ∧ i < L.length ∧ L.getD i 0 = y := by
  obtain ⟨i, hi, e⟩ := List.mem_iff_getElem.1 h
  rw [List.length_drop] at hi
  rw [List.getElem_drop] at e
  exact ⟨l + i, by omega, by omega, by simp only [List.getD, List.getElem?_eq_getElem (show l + i < L.length by omega), Option.getD_some]; exact e⟩
theorem sym_cross {ct : Int → Int} {L X : List Int} (hL : SortC ct L) (hX : SortC ct X) (hlt : ∀ y ∈ L, ∀ x ∈ X, y < x) {l1 x1 : Nat} (hl1 : l1 ≤ L.length) (hx1 : x1 ≤ X.length)
    (h1 : l1 = 0 ∨ x1 = X.length ∨ ct (L.getD (l1 - 1) 0) ≤ ct (X.getD x1 0)) (h2 : x1 = 0 ∨ l1 = L.length ∨ ct (X.getD (x1 - 1) 0) < ct (L.getD l1 0)) :
    (∀ y ∈ L.take l1, ∀ x ∈ X.drop x1, LtC ct y x) ∧ ∀ x ∈ X.take x1, ∀ y ∈ L.drop l1, LtC ct x y := by
  constructor
  · intro y hy x hx
    have hyx := hlt y (List.mem_of_mem_take hy) x (List.mem_of_mem_drop hx)
    obtain ⟨i, i1, i2, e1⟩ := in_take hy
    obtain ⟨j, j1, j2, e2⟩ := in_drop hx
    rcases h1 with h | h | h
    · omega
    · omega
    · have a := sort_get hL (show i ≤ l1 - 1 by omega) (by omega)
      have b := sort_get hX (show x1 ≤ j from j1) j2
      rw [e1] at a
      rw [e2] at b
      unfold LtC; omega
  · intro x hx y hy
    obtain ⟨i, i1, i2, e1⟩ := in_take hx
    obtain ⟨j, j1, j2, e2⟩ := in_drop hy
    rcases h2 with h | h | h
    · omega
    · omega
    · have a := sort_get hX (show i ≤ x1 - 1 by omega) (by omega)
      have b := sort_get hL (show l1 ≤ j from j1) j2
      rw [e1] at a
      rw [e2] at b
      exact .inl (by omega)
/-- where a number that stood first goes -/
theorem left_done {ct : Int → Int} {x : Int} {X : List Int} (hs : SortC ct X) (hlt : ∀ y ∈ X, x < y) {p : Nat} (hp : p ≤ X.length) (h1 : p = 0 ∨ ct (X.getD (p - 1) 0) < ct x) (h2 : p = X.length ∨ ct x ≤ ct (X.getD p 0)) :
    SortC ct (X.take p ++ x :: X.drop p) ∧ (X.take p ++ x :: X.drop p).Perm ([x] ++ X) := by
  refine ⟨merge_left (by rw [List.take_append_drop]; exact hs) (by rw [List.take_append_drop]; exact hlt) (fun y hy => ?_) (fun y hy => ?_), ?_⟩
  · obtain ⟨i, i1, i2, e1⟩ := in_take hy
    rcases h1 with h | h
    · omega
    · have a := sort_get hs (show i ≤ p - 1 by omega) (by omega)
      rw [e1] at a; omega
  · obtain ⟨j, j1, j2, e2⟩ := in_drop hy
    rcases h2 with h | h
    · omega
    · have b := sort_get hs (show p ≤ j from j1) j2
      rw [e2] at b; omega
  · refine List.perm_middle.trans ?_
    rw [List.take_append_drop]
    exact List.Perm.refl _
theorem right_done {ct : Int → Int} {x : Int} {L : List Int} (hs : SortC ct L) (hlt : ∀ y ∈ L, y < x) {p : Nat} (hp : p ≤ L.length) (h1 : p = 0 ∨ ct (L.getD (p - 1) 0) ≤ ct x) (h2 : p = L.length ∨ ct x < ct (L.getD p 0)) :
    SortC ct (L.take p ++ x :: L.drop p) ∧ (L.take p ++ x :: L.drop p).Perm (L ++ [x]) := by
  refine ⟨merge_right (by rw [List.take_append_drop]; exact hs) (by rw [List.take_append_drop]; exact hlt) (fun y hy => ?_) (fun y hy => ?_), ?_⟩
  · obtain ⟨i, i1, i2, e1⟩ := in_take hy
    rcases h1 with h | h
    · omega
    · have a := sort_get hs (show i ≤ p - 1 by omega) (by omega)
      rw [e1] at a; omega
  · obtain ⟨j, j1, j2, e2⟩ := in_drop hy
    rcases h2 with h | h
    · omega
    · have b := sort_get hs (show p ≤ j from j1) j2
      rw [e2] at b; omega
  · refine List.perm_middle.trans ?_
    rw [List.take_append_drop]
    exact (List.perm_append_singleton x L).symm
theorem swap_next {A B : List Int} {x y : Int} {k : Nat} (hk : k = A.length) :
    (A ++ x :: y :: B).getD k 0 = x ∧ (A ++ x :: y :: B).getD (k + 1) 0 = y ∧ ((A ++ x :: y :: B).set k y).getD (k + 1) 0 = y ∧ ((A ++ x :: y :: B).set k y).set (k + 1) x = A ++ y :: x :: B := by
  have e : ∀ u v, A ++ u :: v :: B = (A ++ [u]) ++ v :: B := fun u v => by simp
  have l : ∀ u : Int, k + 1 = (A ++ [u]).length := fun u => by simp; omega
  refine ⟨get_mid _ _ _ hk, ?_, ?_, ?_⟩
  · rw [e, get_mid _ _ _ (l x)]
  · rw [set_mid _ _ _ _ hk, e, get_mid _ _ _ (l y)]
  · rw [set_mid _ _ _ _ hk, e, set_mid _ _ _ _ (l y)]; simp
end Go.Proofs.YtigaopfhjimpmaaDoor

namespace Go.Proofs.YtigaopfhjimpmaaDoor
open Go.RowKit
open DetP

/-- an arc as a vector -/
def arcD (xs : List ArcR) (k u : Nat) : Int := (if frN xs k = u then 1 else 0) - (if toN xs k = u then 1 else 0)
/-- degrees on the diagonal, less the arcs beside it: the first k arcs -/
def lapK (xs : List ArcR) : Nat → Nat → Nat → Int
  | 0, _, _ => 0
  | k + 1, u, v => lapK xs k u v + arcD xs k u * arcD xs k v
theorem lapK_sym (xs : List ArcR) : ∀ k u v, lapK xs k u v = lapK xs k v u
  | 0, _, _ => rfl
  | k + 1, u, v => by rw [lapK, lapK, lapK_sym xs k u v, Int.mul_comm (arcD xs k u)]
theorem arcD_is (xs : List ArcR) (k x : Nat) : arcD xs k x = 1 ∧ frN xs k = x ∨ arcD xs k x = -1 ∧ toN xs k = x ∨ arcD xs k x = 0 := by
  unfold arcD
  by_cases a : frN xs k = x <;> by_cases b : toN xs k = x <;> simp [a, b]
theorem arcD_off {xs : List ArcR} {k u v : Nat} (huv : u ≠ v) : arcD xs k u * arcD xs k v ≤ 0 := by
  rcases arcD_is xs k u with ⟨a, a2⟩ | ⟨a, a2⟩ | a <;> rcases arcD_is xs k v with ⟨b, b2⟩ | ⟨b, b2⟩ | b <;> rw [a, b] <;> omega
theorem lapK_off (xs : List ArcR) {u v : Nat} (huv : u ≠ v) : ∀ k, lapK xs k u v ≤ 0
  | 0 => Int.le_refl _
  | k + 1 => by have := lapK_off xs huv k; have := arcD_off (xs := xs) (k := k) huv; rw [lapK]; omega
theorem arcD_sq (xs : List ArcR) (k u : Nat) : 0 ≤ arcD xs k u * arcD xs k u ∧ arcD xs k u * arcD xs k u ≤ 1 := by
  unfold arcD
  by_cases a : frN xs k = u <;> by_cases b : toN xs k = u <;> simp [a, b]
theorem lapK_diag (xs : List ArcR) (u : Nat) : ∀ k : Nat, 0 ≤ lapK xs k u u ∧ lapK xs k u u ≤ k
  | 0 => ⟨Int.le_refl _, Int.le_refl _⟩
  | k + 1 => by have := lapK_diag xs u k; have := arcD_sq xs k u; rw [lapK]; omega
theorem lapK_bd (xs : List ArcR) (k u v : Nat) : - (k : Int) ≤ lapK xs k u v ∧ lapK xs k u v ≤ k := by
  induction k with
  | zero => exact ⟨Int.le_refl _, Int.le_refl _⟩
  | succ k ih =>
    have : -1 ≤ arcD xs k u * arcD xs k v ∧ arcD xs k u * arcD xs k v ≤ 1 := by
      rcases arcD_is xs k u with ⟨a, a2⟩ | ⟨a, a2⟩ | a <;> rcases arcD_is xs k v with ⟨b, b2⟩ | ⟨b, b2⟩ | b <;> rw [a, b] <;> omega
    rw [lapK]; omega
theorem sumN_add : ∀ (n : Nat) (f g : Nat → Int), sumN n (fun i => f i + g i) = sumN n f + sumN n g
  | 0, _, _ => rfl
  | n + 1, f, g => by rw [sumN, sumN, sumN, sumN_add n f g]; omega
theorem sumN_one' (a : Nat) : ∀ n, sumN n (fun u => if a = u then 1 else 0) = if a < n then 1 else 0
  | 0 => by simp [sumN]
  | n + 1 => by
    rw [sumN, sumN_one' a n]
    by_cases h : a < n
    · rw [if_pos h, if_neg (by omega), if_pos (by omega)]; rfl
    · rw [if_neg h]
      by_cases e : a = n
      · rw [if_pos e, if_pos (by omega)]; rfl
      · rw [if_neg e, if_neg (by omega)]; rfl
theorem arcD_sum {xs : List ArcR} {k N : Nat} (h1 : frN xs k < N) (h2 : toN xs k < N) : sumN N (arcD xs k) = 0 := by
  have e : arcD xs k = fun u => (if frN xs k = u then 1 else 0) - (if toN xs k = u then 1 else 0) := rfl
  rw [e, sumN_sub, sumN_one', sumN_one', if_pos h1, if_pos h2]; rfl
theorem lapK_row {xs : List ArcR} {N n : Nat} (hx : ∀ i, i < n → frN xs i < N ∧ toN xs i < N ∧ frN xs i ≠ toN xs i) (u : Nat) : ∀ k, k ≤ n → sumN N (lapK xs k u) = 0
  | 0, _ => sumN_zero N
  | k + 1, hk => by
    obtain ⟨a, b, _⟩ := hx k (by omega)
    have e : lapK xs (k + 1) u = fun v => lapK xs k u v + arcD xs k v * arcD xs k u := funext fun v => by rw [lapK, Int.mul_comm]
    rw [e, sumN_add, sumN_mul, arcD_sum a b]
    have := lapK_row hx u k (by omega)
    rw [this]; omega
theorem sq_one {xs : List ArcR} {k : Nat} (hne : frN xs k ≠ toN xs k) (u : Nat) : arcD xs k u * arcD xs k u = (if frN xs k = u then 1 else 0) + (if toN xs k = u then 1 else 0) := by
  unfold arcD
  by_cases a : frN xs k = u <;> by_cases b : toN xs k = u <;> simp [a, b]
  omega
theorem lapK_trace {xs : List ArcR} {N n : Nat} (hx : ∀ i, i < n → frN xs i < N ∧ toN xs i < N ∧ frN xs i ≠ toN xs i) : ∀ k : Nat, k ≤ n → sumN N (fun u => lapK xs k u u) = 2 * k
  | 0, _ => sumN_zero N
  | k + 1, hk => by
    obtain ⟨a, b, c⟩ := hx k (by omega)
    have e : (fun u => lapK xs (k + 1) u u) = fun u => lapK xs k u u + ((if frN xs k = u then 1 else 0) + (if toN xs k = u then 1 else 0)) := funext fun u => by rw [lapK, sq_one c]
    rw [e, sumN_add, sumN_add, sumN_one', sumN_one', if_pos a, if_pos b, lapK_trace hx k (by omega)]
    omega
theorem sumN_shift (f : Nat → Int) : ∀ n, sumN (n + 1) f = f 0 + sumN n (fun i => f (i + 1))
  | 0 => by simp [sumN]
  | n + 1 => by rw [sumN, sumN_shift f n, sumN]; omega
/-- without the first node, and without the last -/
def lapA (xs : List ArcR) (i j : Nat) : Int := lapK xs xs.length (i + 1) (j + 1)
def lapB (xs : List ArcR) (i j : Nat) : Int := lapK xs xs.length i j
structure LapOk (m : Nat) (l : Nat → Row) : Prop where
  lap : Lap m l
  diag : ∀ i, i < m → 0 ≤ l i i ∧ l i i ≤ 48
  tr : sumN m (fun i => l i i) ≤ 96
theorem lapA_ok {xs : List ArcR} {m : Nat} (hx : ∀ i, i < xs.length → frN xs i < m + 1 ∧ toN xs i < m + 1 ∧ frN xs i ≠ toN xs i) (hn : xs.length ≤ 48) : LapOk m (lapA xs) := by
  refine ⟨fun i hi => ⟨?_, fun j hj => ⟨lapK_sym _ _ _ _, fun hne => lapK_off _ (by omega) _⟩⟩, fun i hi => ?_, ?_⟩
  · have h1 := lapK_row hx (i + 1) xs.length (Nat.le_refl _)
    rw [sumN_shift] at h1
    have h2 := lapK_off xs (u := i + 1) (v := 0) (by omega) xs.length
    have e : sumN m (lapA xs i) = sumN m (fun j => lapK xs xs.length (i + 1) (j + 1)) := rfl
    rw [e]; omega
  · have := lapK_diag xs (i + 1) xs.length
    have e : lapA xs i i = lapK xs xs.length (i + 1) (i + 1) := rfl
    rw [e]; omega
  · have h1 := lapK_trace hx xs.length (Nat.le_refl _)
    rw [sumN_shift] at h1
    have h2 := (lapK_diag xs 0 xs.length).1
    have e : sumN m (fun i => lapA xs i i) = sumN m (fun i => lapK xs xs.length (i + 1) (i + 1)) := rfl
    rw [e]; omega
theorem lapB_ok {xs : List ArcR} {m : Nat} (hx : ∀ i, i < xs.length → frN xs i < m + 1 ∧ toN xs i < m + 1 ∧ frN xs i ≠ toN xs i) (hn : xs.length ≤ 48) : LapOk m (lapB xs) := by
  refine ⟨fun i hi => ⟨?_, fun j hj => ⟨lapK_sym _ _ _ _, fun hne => lapK_off _ (by omega) _⟩⟩, fun i hi => ?_, ?_⟩
  · have h1 := lapK_row hx i xs.length (Nat.le_refl _)
    rw [sumN] at h1
    have h2 := lapK_off xs (u := i) (v := m) (by omega) xs.length
    have e : sumN m (lapB xs i) = sumN m (lapK xs xs.length i) := rfl
    rw [e]; omega
  · have := lapK_diag xs i xs.length
    have e : lapB xs i i = lapK xs xs.length i i := rfl
    rw [e]; omega
  · have h1 := lapK_trace hx xs.length (Nat.le_refl _)
    rw [sumN] at h1
    have h2 := (lapK_diag xs m xs.length).1
    have e : sumN m (fun i => lapB xs i i) = sumN m (fun i => lapK xs xs.length i i) := rfl
    rw [e]; omega
/-- both tell the same -/
theorem trees_same {xs : List ArcR} {m : Nat} (hx : ∀ i, i < xs.length → frN xs i < m + 1 ∧ toN xs i < m + 1 ∧ frN xs i ≠ toN xs i) (hm : 1 ≤ m) : bP (lapA xs) m = bP (lapB xs) m := by
  obtain ⟨m, rfl⟩ : ∃ q, m = q + 1 := ⟨m - 1, by omega⟩
  have h := cofactors (m := m) (fun i => lapK xs xs.length i) (fun i _ => lapK_row hx i _ (Nat.le_refl _)) (fun c => by
    have e : (fun i => lapK xs xs.length i c) = lapK xs xs.length c := funext fun i => lapK_sym _ _ _ _
    rw [e]; exact lapK_row hx c _ (Nat.le_refl _))
  have e1 : bP (lapB xs) (m + 1) = det (down (fun i => lapK xs xs.length i) (m + 1)) (down (fun i => i) (m + 1)) := rfl
  rw [e1, ← h]
  clear h e1
  unfold bP
  -- the columns' names
  have hc : ∀ (k : Nat) (rs : List Row) (cs : List Nat), det (rs.map fun r j => r (j + 1)) cs = det rs (cs.map (· + 1)) := by
    intro k rs
    induction rs with
    | nil => intro cs; simp [det]
    | cons r rs ih =>
      intro cs
      show con (fun j => r (j + 1)) (det (rs.map fun r j => r (j + 1))) cs = con r (det rs) (cs.map (· + 1))
      have : ∀ (cs : List Nat) (f g : List Nat → Int), (∀ x, f x = g (x.map (· + 1))) → con (fun j => r (j + 1)) f cs = con r g (cs.map (· + 1)) := by
        intro cs
        induction cs with
        | nil => intro f g _; rfl
        | cons c cs ih2 =>
          intro f g hfg
          rw [List.map_cons, con, con, hfg cs, ih2 (fun x => f (c :: x)) (fun x => g ((c + 1) :: x)) (fun x => by rw [hfg]; rfl)]
      exact this cs _ _ ih
  have e2 : ∀ n, down (lapA xs) n = (down (fun i => lapK xs xs.length (i + 1)) n).map (fun r j => r (j + 1)) := by
    intro n
    induction n with
    | zero => rfl
    | succ n ih => rw [down, down, List.map_cons, ih]; rfl
  have e3 : ∀ n, (down (fun i => i) n).map (· + 1) = down (fun i => i + 1) n := by
    intro n
    induction n with
    | zero => rfl
    | succ n ih => rw [down, down, List.map_cons, ih]
  rw [e2, hc 0, e3]

/-- a table as one list -/
def flatL (m : Nat) (f : Nat → Nat → Int) : List Int := (List.range (m * m)).map fun x => f (x / m) (x % m)
theorem flatL_len (m : Nat) (f : Nat → Nat → Int) : (flatL m f).length = m * m := by simp [flatL]
theorem flat_parts {m i j : Nat} (hj : j < m) : (i * m + j) / m = i ∧ (i * m + j) % m = j := by
  rw [Nat.mul_comm]
  exact ⟨by rw [Nat.mul_add_div (by omega), Nat.div_eq_of_lt hj]; omega, by rw [Nat.mul_add_mod]; exact Nat.mod_eq_of_lt hj⟩
theorem flatL_get {m i j : Nat} (f : Nat → Nat → Int) (hi : i < m) (hj : j < m) : (flatL m f).getD (i * m + j) 0 = f i j := by
  unfold flatL
  rw [map_range_get _ (cell_lt hi hj), (flat_parts hj).1, (flat_parts hj).2]
def setF (f : Nat → Nat → Int) (i j : Nat) (x : Int) (a b : Nat) : Int := if a = i ∧ b = j then x else f a b
theorem flatL_congr {m : Nat} {f g : Nat → Nat → Int} (h : ∀ a b, a < m → b < m → f a b = g a b) : flatL m f = flatL m g := by
  unfold flatL
  apply List.map_congr_left
  intro x hx
  have hx := List.mem_range.1 hx
  rcases Nat.eq_zero_or_pos m with e | e
  · subst e; simp at hx
  · exact h _ _ (by rw [Nat.div_lt_iff_lt_mul e]; exact hx) (Nat.mod_lt _ e)
theorem flatL_set {m i j : Nat} (f : Nat → Nat → Int) (x : Int) (hi : i < m) (hj : j < m) : (flatL m f).set (i * m + j) x = flatL m (setF f i j x) := by
  refine ext_getD (n := m * m) (by simp [flatL_len]) (flatL_len _ _) fun v hv => ?_
  rw [getD_setM _ _ _ _ (by rw [flatL_len]; exact cell_lt hi hj)]
  have hm : 0 < m := by omega
  have e := Nat.div_add_mod v m
  have h1 : v / m < m := by rw [Nat.div_lt_iff_lt_mul hm]; exact hv
  have h2 := Nat.mod_lt v hm
  have e2 : v / m * m + v % m = v := by rw [Nat.mul_comm]; exact e
  rw [← e2, flatL_get _ h1 h2, flatL_get _ h1 h2]
  unfold setF
  by_cases c : i * m + j = v / m * m + v % m
  · have c2 := (cell_idx (N := m) hj h2).1 c
    rw [if_pos c, if_pos ⟨c2.1.symm, c2.2.symm⟩]
  · rw [if_neg c, if_neg (fun hh => c ((cell_idx (N := m) hj h2).2 ⟨hh.1.symm, hh.2.symm⟩))]
theorem flatL_zero (m : Nat) : flatL m (fun _ _ => 0) = List.replicate (m * m) 0 := by
  refine ext_getD (n := m * m) (flatL_len _ _) (by simp) fun v hv => ?_
  unfold flatL
  rw [map_range_get _ hv]
  simp [List.getD, hv]
/-- the table between two steps: rows ahead of i, and row i ahead of j, are new -/
def mixB (l : Nat → Row) (k i j a b : Nat) : Int := if k < a ∧ k < b ∧ (a < i ∨ (a = i ∧ b < j)) then bD l (k + 1) a b else bD l k a b
theorem mixB_start (l : Nat → Row) (k a b : Nat) : mixB l k (k + 1) (k + 1) a b = bD l k a b := by
  unfold mixB; rw [if_neg (by omega)]
theorem mixB_set {l : Nat → Row} {k i j a b : Nat} (h1 : k < i) (h2 : k < j) : setF (mixB l k i j) i j (bD l (k + 1) i j) a b = mixB l k i (j + 1) a b := by
  unfold setF mixB
  by_cases c : a = i ∧ b = j
  · obtain ⟨rfl, rfl⟩ := c
    rw [if_pos ⟨rfl, rfl⟩, if_pos (by omega)]
  · rw [if_neg c]
    by_cases d : k < a ∧ k < b ∧ (a < i ∨ a = i ∧ b < j)
    · rw [if_pos d, if_pos (by omega)]
    · rw [if_neg d, if_neg (by omega)]
theorem mixB_row {l : Nat → Row} {k i m a b : Nat} (hb : b < m) : mixB l k i m a b = mixB l k (i + 1) (k + 1) a b := by
  unfold mixB
  by_cases d : k < a ∧ k < b ∧ (a < i ∨ a = i ∧ b < m)
  · rw [if_pos d, if_pos (by omega)]
  · rw [if_neg d, if_neg (by omega)]
theorem mixB_k (l : Nat → Row) (k i j : Nat) : mixB l k i j k k = bD l k k k ∧ True := by
  unfold mixB; exact ⟨if_neg (by omega), trivial⟩
theorem mixB_done {l : Nat → Row} {k m a b : Nat} (ha : a < m) (h1 : k < a) (h2 : k < b) : mixB l k m (k + 1) a b = bD l (k + 1) a b := by
  unfold mixB; rw [if_pos (by omega)]
/-- what is read for one entry -/
theorem mixB_read {l : Nat → Row} {k i j : Nat} (h1 : k < i) (h2 : k < j) : mixB l k i j i j = bD l k i j ∧ mixB l k i j k k = bD l k k k ∧ mixB l k i j i k = bD l k i k ∧ mixB l k i j k j = bD l k k j := by
  unfold mixB
  exact ⟨if_neg (by omega), if_neg (by omega), if_neg (by omega), if_neg (by omega)⟩
theorem pow2_le {a b : Nat} (h : a ≤ b) : (2 : Int) ^ a ≤ ((2 ^ b : Nat) : Int) := by
  have := Nat.pow_le_pow_right (n := 2) (by omega) h
  exact_mod_cast this
theorem step_facts {m k i j : Nat} {l : Nat → Row} (hl : LapOk m l) (hm : m ≤ 7) (hp : ∀ a, a < k + 1 → bP l (a + 1) ≠ 0) (h1 : k < i) (h2 : k < j) (hi : i < m) (hj : j < m) :
    ∃ X Y : Int, bD l k i j * bD l k k k = X ∧ bD l k i k * bD l k k j = Y ∧ -1152921504606846976 ≤ X ∧ X ≤ 1152921504606846976 ∧ -1152921504606846976 ≤ Y ∧ Y ≤ 1152921504606846976 ∧ Int.tdiv (X - Y) (bP l k) = bD l (k + 1) i j ∧ 0 < bP l k ∧ bP l k ≤ 17179869184 ∧ -17179869184 ≤ bD l (k + 1) i j ∧ bD l (k + 1) i j ≤ 17179869184 := by
  have hpk : ∀ a, a < k → bP l (a + 1) ≠ 0 := fun a ha => hp a (by omega)
  have hb := fun a b (h3 : k ≤ a) (h4 : a < m) (h5 : b < m) => lap_big hl.lap hl.diag hl.tr k hpk a b h3 h4 h5
  have hpw : (2 : Int) ^ (4 * k + 10) ≤ 1073741824 := Int.le_trans (pow2_le (show (4 * k + 10) ≤ 30 by omega)) (by decide)
  have hq : ∀ x y : Int, -1073741824 ≤ x → x ≤ 1073741824 → -1073741824 ≤ y → y ≤ 1073741824 → -1152921504606846976 ≤ x * y ∧ x * y ≤ 1152921504606846976 := by
    intro x y a1 a2 a3 a4
    have n1 : x.natAbs ≤ 1073741824 := by omega
    have n2 : y.natAbs ≤ 1073741824 := by omega
    have n3 : (x * y).natAbs ≤ 1073741824 * 1073741824 := by rw [Int.natAbs_mul]; exact Nat.mul_le_mul n1 n2
    omega
  have b1 := hb i j (by omega) hi hj
  have b2 := hb k k (by omega) (by omega) (by omega)
  have b3 := hb i k (by omega) hi (by omega)
  have b4 := hb k j (by omega) (by omega) hj
  have q1 := hq (bD l k i j) (bD l k k k) (by omega) (by omega) (by omega) (by omega)
  have q2 := hq (bD l k i k) (bD l k k j) (by omega) (by omega) (by omega) (by omega)
  have hst := bD_step l k i j (hp k (by omega))
  have p0 := (lap_inv hl.lap k (by omega) hpk).1
  have hP : bP l k ≤ 17179869184 := by
    cases k with
    | zero => rw [bP_zero]; omega
    | succ k =>
      rw [bP_succ]
      have := (lap_big hl.lap hl.diag hl.tr k (fun a ha => hp a (by omega)) k k (by omega) (by omega) (by omega)).1
      have h9 : (2 : Int) ^ (4 * k + 10) ≤ 17179869184 := Int.le_trans (pow2_le (show (4 * k + 10) ≤ 34 by omega)) (by decide)
      omega
  have b5 := lap_big hl.lap hl.diag hl.tr (k + 1) hp i j (by omega) hi hj
  have hpw2 : (2 : Int) ^ (4 * (k + 1) + 10) ≤ 17179869184 := Int.le_trans (pow2_le (show (4 * (k + 1) + 10) ≤ 34 by omega)) (by decide)
  refine ⟨_, _, rfl, rfl, q1.1, q1.2, q2.1, q2.2, ?_, p0, hP, by omega, by omega⟩
  rw [hst]
  exact Int.mul_tdiv_cancel_left _ (by omega)
theorem piv_facts {m k : Nat} {l : Nat → Row} (hl : LapOk m l) (hm : m ≤ 7) (hp : ∀ a, a < k → bP l (a + 1) ≠ 0) (hk : k < m) : -17179869184 ≤ bD l k k k ∧ bD l k k k ≤ 17179869184 := by
  have b5 := lap_big hl.lap hl.diag hl.tr k hp k k (by omega) hk hk
  have hpw2 : (2 : Int) ^ (4 * k + 10) ≤ 17179869184 := Int.le_trans (pow2_le (show (4 * k + 10) ≤ 34 by omega)) (by decide)
  omega
/-- the arcs' steps on the reference's table, which lacks the first node -/
def lapS (xs : List ArcR) (k i j : Nat) : Int := lapK xs k (i + 1) (j + 1)
theorem lapS_both {xs : List ArcR} {k p q : Nat} (hf : frN xs k = p + 1) (ht : toN xs k = q + 1) (hne : p ≠ q) (a b : Nat) : setF (setF (setF (setF (lapS xs k) p p (lapS xs k p p + 1)) q q (lapS xs k q q + 1)) p q (lapS xs k p q - 1)) q p (lapS xs k q p - 1) a b = lapS xs (k + 1) a b := by
  have hne2 : ¬ q = p := fun e => hne e.symm
  unfold setF lapS
  rw [lapK]
  unfold arcD
  rw [hf, ht]
  grind
theorem lapS_fr {xs : List ArcR} {k p : Nat} (hf : frN xs k = p + 1) (ht : toN xs k = 0) (a b : Nat) : setF (lapS xs k) p p (lapS xs k p p + 1) a b = lapS xs (k + 1) a b := by
  unfold setF lapS
  rw [lapK]
  unfold arcD
  rw [hf, ht]
  grind
theorem lapS_to {xs : List ArcR} {k q : Nat} (hf : frN xs k = 0) (ht : toN xs k = q + 1) (a b : Nat) : setF (lapS xs k) q q (lapS xs k q q + 1) a b = lapS xs (k + 1) a b := by
  unfold setF lapS
  rw [lapK]
  unfold arcD
  rw [hf, ht]
  grind
theorem lapB_step {xs : List ArcR} {k p q : Nat} (hf : frN xs k = p) (ht : toN xs k = q) (hne : p ≠ q) (a b : Nat) : setF (setF (setF (setF (lapK xs k) p p (lapK xs k p p + 1)) q q (lapK xs k q q + 1)) p q (lapK xs k p q - 1)) q p (lapK xs k q p - 1) a b = lapK xs (k + 1) a b := by
  have hne2 : ¬ q = p := fun e => hne e.symm
  unfold setF
  rw [lapK]
  unfold arcD
  rw [hf, ht]
  grind
theorem setF_at (f : Nat → Nat → Int) (i j : Nat) (x : Int) : setF f i j x i j = x := by unfold setF; rw [if_pos ⟨rfl, rfl⟩]
theorem setF_ne {f : Nat → Nat → Int} {i j a b : Nat} {x : Int} (h : a ≠ i ∨ b ≠ j) : setF f i j x a b = f a b := by unfold setF; rw [if_neg (fun hh => by rcases h with h | h; exact h hh.1; exact h hh.2)]
/-- what TreesIn tells -/
def trB (nodes : Int) (xs : List ArcR) : Bool := validB nodes xs && decide (nodes ≤ 8)
def trV (nodes : Int) (xs : List ArcR) : Int := if trB nodes xs = true then bP (lapB xs) (nodes.toNat - 1) else 0
theorem trV_no {nodes : Int} {xs : List ArcR} (h : trB nodes xs = false) : trV nodes xs = 0 := by unfold trV; rw [if_neg (by rw [h]; decide)]
end Go.Proofs.YtigaopfhjimpmaaDoor

namespace Go.Proofs.YtigaopfhjimpmaaDoor
open Go.RowKit
open DetP

theorem lap_pivots {n : Nat} {l : Nat → Row} (hl : Lap n l) (h : bP l n ≠ 0) : ∀ k, k ≤ n → ∀ a, a < k → bP l (a + 1) ≠ 0
  | 0, _, a, ha => by omega
  | k + 1, hk, a, ha => by
    have ih := lap_pivots hl h k (by omega)
    by_cases e : a = k
    · subst e
      intro h0
      exact h (lap_gone hl (by omega) ih h0).2
    · exact ih a (by omega)
theorem greatest {P : Nat → Prop} : ∀ n, (∃ k, k < n ∧ P k) → ∃ k, k < n ∧ P k ∧ ∀ j, k < j → j < n → ¬ P j
  | 0, ⟨k, h, _⟩ => by omega
  | n + 1, h => by
    by_cases hp : P n
    · exact ⟨n, by omega, hp, fun j h1 h2 => by omega⟩
    · obtain ⟨k, hk, hpk⟩ := h
      have : k ≠ n := fun e => hp (by rw [← e]; exact hpk)
      obtain ⟨q, a, b, c⟩ := greatest (P := P) n ⟨k, by omega, hpk⟩
      refine ⟨q, by omega, b, fun j h1 h2 => ?_⟩
      by_cases e : j = n
      · rw [e]; exact hp
      · exact c j h1 (by omega)
theorem bD_null {n : Nat} {l : Nat → Row} {x : Nat → Int} (hx : ∀ i, i < n → sumN n (fun j => l i j * x j) = 0) : ∀ k, k ≤ n → (∀ a, a < k → bP l (a + 1) ≠ 0) → ∀ i, k ≤ i → i < n → sumN n (fun j => bD l k i j * x j) = 0
  | 0, _, _, i, _, hi => by
    have e : (fun j => bD l 0 i j * x j) = fun j => l i j * x j := funext fun j => by rw [bD_zero]
    rw [e]; exact hx i hi
  | k + 1, hk, hp, i, h1, h2 => by
    have ih := bD_null hx k (by omega) (fun a ha => hp a (by omega))
    have hpk : bP l k ≠ 0 := by
      cases k with
      | zero => rw [bP_zero]; decide
      | succ k => exact hp k (by omega)
    have e : (fun j => (bD l (k + 1) i j * x j) * bP l k) = fun j => (bD l k i j * x j) * bD l k k k - (bD l k k j * x j) * bD l k i k := funext fun j => by
      have := bD_step l k i j (hp k (by omega))
      grind
    have h3 := sumN_mul (bP l k) n (fun j => bD l (k + 1) i j * x j)
    rw [e, sumN_sub, sumN_mul, sumN_mul, ih i (by omega) h2, ih k (by omega) (by omega)] at h3
    have h4 : sumN n (fun j => bD l (k + 1) i j * x j) * bP l k = 0 := by rw [← h3]; omega
    rcases Int.mul_eq_zero.1 h4 with h | h
    · exact h
    · exact absurd h hpk
theorem bP_null {n : Nat} {l : Nat → Row} (hl : Lap n l) {x : Nat → Int} (hx : ∀ i, i < n → sumN n (fun j => l i j * x j) = 0) {k : Nat} (hk : k < n) (hxk : x k ≠ 0) : bP l n = 0 := by
  by_cases h : bP l n = 0
  · exact h
  · exfalso
    have hp := lap_pivots hl h n (Nat.le_refl _)
    obtain ⟨q, a, b, c⟩ := greatest (P := fun j => x j ≠ 0) n ⟨k, hk, hxk⟩
    have h1 := bD_null hx q (by omega) (fun a ha => hp a (by omega)) q (Nat.le_refl _) a
    rw [sumN_one (N := q) n (fun j hj hne => by
      by_cases e : j < q
      · rw [bD_low l e]; omega
      · have := c j (by omega) hj
        rw [Decidable.not_not.1 this]; omega), if_pos a] at h1
    rcases Int.mul_eq_zero.1 h1 with h2 | h2
    · exact hp q a h2
    · exact b h2
theorem rows_comb (l : Nat → Row) : ∀ (k : Nat) (x : List Nat), ∃ lam : Nat → Int, ∀ j, det (down l k) (j :: x) = sumN k (fun a => lam a * l a j)
  | 0, x => ⟨fun _ => 0, fun j => rfl⟩
  | k + 1, x => by
    have ih := rows_comb l k
    refine ⟨fun a => if a = k then det (down l k) x else - con (l k) (fun y => Classical.choose (ih y) a) x, fun j => ?_⟩
    have h1 : (fun y => det (down l k) (j :: y)) = fun y => sumN k (fun a => Classical.choose (ih y) a * l a j) := funext fun y => Classical.choose_spec (ih y) j
    show con (l k) (det (down l k)) (j :: x) = _
    rw [con, h1, ← sumN_con (l k) k (fun a y => Classical.choose (ih y) a * l a j), sumN]
    dsimp only
    rw [if_pos rfl]
    have h2 : sumN k (fun a => (if a = k then det (down l k) x else - con (l k) (fun y => Classical.choose (ih y) a) x) * l a j) = sumN k (fun a => 0 - con (l k) (fun y => Classical.choose (ih y) a * l a j) x) := sumN_congr k _ _ fun a ha => by
      rw [if_neg (by omega)]
      have e : (fun y => Classical.choose (ih y) a * l a j) = fun y => l a j * Classical.choose (ih y) a := funext fun y => Int.mul_comm _ _
      rw [e, con_mul]
      grind
    rw [h2, sumN_sub, sumN_zero]
    grind
/-- without a determinant the rows hang together -/
theorem bP_vec {n : Nat} {l : Nat → Row} (hl : Lap n l) (h : bP l n = 0) : ∃ y : Nat → Int, (∃ k, k < n ∧ y k ≠ 0) ∧ ∀ j, j < n → sumN n (fun i => y i * l i j) = 0 := by
  have hex : ∃ k, k < n ∧ bP l (k + 1) = 0 ∧ ∀ a, a < k → bP l (a + 1) ≠ 0 := by
    have : ∀ k, k ≤ n → (∀ a, a < k → bP l (a + 1) ≠ 0) ∨ ∃ q, q < k ∧ bP l (q + 1) = 0 ∧ ∀ a, a < q → bP l (a + 1) ≠ 0 := by
      intro k
      induction k with
      | zero => intro _; exact .inl fun a ha => by omega
      | succ k ih =>
        intro hk
        rcases ih (by omega) with h1 | ⟨q, a, b, c⟩
        · by_cases h2 : bP l (k + 1) = 0
          · exact .inr ⟨k, by omega, h2, h1⟩
          · exact .inl fun a ha => by
              by_cases e : a = k
              · rw [e]; exact h2
              · exact h1 a (by omega)
        · exact .inr ⟨q, by omega, b, c⟩
    rcases this n (Nat.le_refl _) with h1 | ⟨q, a, b, c⟩
    · exfalso
      cases n with
      | zero => rw [bP_zero] at h; exact absurd h (by decide)
      | succ n => exact h1 n (by omega) h
    · exact ⟨q, a, b, c⟩
  obtain ⟨k, hk, h0, hp⟩ := hex
  have hg := (lap_gone hl hk hp h0).1
  have hrow : ∀ j, j < n → bD l k k j = 0 := fun j hj => by
    by_cases e : j < k
    · exact bD_low l e
    · have := hg j (by omega) hj
      rw [← ((lap_inv hl k (by omega) hp).2 k (Nat.le_refl _) hk).2.2 j (by omega) hj |>.1] at this
      exact this
  have hP := (lap_inv hl k (by omega) hp).1
  have ih := rows_comb l k
  refine ⟨fun a => if a = k then bP l k else if a < k then - con (l k) (fun y => Classical.choose (ih y) a) (down (fun i => i) k) else 0, ⟨k, hk, by dsimp only; rw [if_pos rfl]; omega⟩, fun j hj => ?_⟩
  have h1 : (fun y => det (down l k) (j :: y)) = fun y => sumN k (fun a => Classical.choose (ih y) a * l a j) := funext fun y => Classical.choose_spec (ih y) j
  have h2 := hrow j hj
  have h3 : bD l k k j = con (l k) (det (down l k)) (j :: down (fun i => i) k) := rfl
  rw [h3, con, h1, ← sumN_con (l k) k (fun a y => Classical.choose (ih y) a * l a j)] at h2
  have hP2 : det (down l k) (down (fun i => i) k) = bP l k := rfl
  rw [hP2] at h2
  have h4 : ∀ m, k < m → m ≤ n → sumN m (fun i => (if i = k then bP l k else if i < k then - con (l k) (fun y => Classical.choose (ih y) i) (down (fun i => i) k) else 0) * l i j) = l k j * bP l k - sumN k (fun a => con (l k) (fun y => Classical.choose (ih y) a * l a j) (down (fun i => i) k)) := by
    intro m
    induction m with
    | zero => intro h; omega
    | succ m ih2 =>
      intro hm1 hm2
      rw [sumN]
      by_cases e : m = k
      · subst e
        have h5 : sumN m (fun i => (if i = m then bP l m else if i < m then - con (l m) (fun y => Classical.choose (ih y) i) (down (fun i => i) m) else 0) * l i j) = sumN m (fun a => 0 - con (l m) (fun y => Classical.choose (ih y) a * l a j) (down (fun i => i) m)) := sumN_congr m _ _ fun a ha => by
          rw [if_neg (by omega), if_pos ha]
          have e : (fun y => Classical.choose (ih y) a * l a j) = fun y => l a j * Classical.choose (ih y) a := funext fun y => Int.mul_comm _ _
          rw [e, con_mul]
          grind
        rw [h5, sumN_sub, sumN_zero, if_pos rfl]
        grind
      · rw [ih2 (by omega) (by omega), if_neg e, if_neg (by omega)]
        grind
  rw [h4 n hk (Nat.le_refl _)]
  exact h2
/-- the sum of squares over the arcs -/
theorem sumN_pick (z : Nat → Int) (a : Nat) : ∀ n, sumN n (fun u => z u * (if a = u then 1 else 0)) = if a < n then z a else 0
  | 0 => by simp [sumN]
  | n + 1 => by
    rw [sumN, sumN_pick z a n]
    by_cases h : a < n
    · rw [if_pos h, if_neg (by omega), if_pos (by omega)]; omega
    · rw [if_neg h]
      by_cases e : a = n
      · rw [if_pos e, if_pos (by omega), e]; omega
      · rw [if_neg e, if_neg (by omega)]; omega
theorem sumN_arc {xs : List ArcR} {k N : Nat} (z : Nat → Int) (h1 : frN xs k < N) (h2 : toN xs k < N) : sumN N (fun u => z u * arcD xs k u) = z (frN xs k) - z (toN xs k) := by
  have e : (fun u => z u * arcD xs k u) = fun u => z u * (if frN xs k = u then 1 else 0) - z u * (if toN xs k = u then 1 else 0) := funext fun u => by unfold arcD; grind
  rw [e, sumN_sub, sumN_pick, sumN_pick, if_pos h1, if_pos h2]
def sqS (xs : List ArcR) (z : Nat → Int) : Nat → Int
  | 0 => 0
  | k + 1 => sqS xs z k + (z (frN xs k) - z (toN xs k)) * (z (frN xs k) - z (toN xs k))
theorem quad {xs : List ArcR} {N n : Nat} (hx : ∀ i, i < n → frN xs i < N ∧ toN xs i < N ∧ frN xs i ≠ toN xs i) (z : Nat → Int) : ∀ k, k ≤ n → sumN N (fun v => sumN N (fun u => z u * lapK xs k u v) * z v) = sqS xs z k
  | 0, _ => by
    have e : (fun v => sumN N (fun u => z u * lapK xs 0 u v) * z v) = fun _ => 0 := funext fun v => by
      have : (fun u => z u * lapK xs 0 u v) = fun _ => 0 := funext fun u => by rw [lapK]; omega
      rw [this, sumN_zero]; omega
    rw [e, sumN_zero]; rfl
  | k + 1, hk => by
    obtain ⟨a, b, _⟩ := hx k (by omega)
    have e : (fun v => sumN N (fun u => z u * lapK xs (k + 1) u v) * z v) = fun v => sumN N (fun u => z u * lapK xs k u v) * z v + (z v * arcD xs k v) * (z (frN xs k) - z (toN xs k)) := funext fun v => by
      have e1 : (fun u => z u * lapK xs (k + 1) u v) = fun u => z u * lapK xs k u v + (z u * arcD xs k u) * arcD xs k v := funext fun u => by rw [lapK]; grind
      rw [e1, sumN_add, sumN_mul, sumN_arc z a b]; grind
    rw [e, sumN_add, sumN_mul, sumN_arc z a b, quad hx z k (by omega), sqS]
theorem sq_nonneg (x : Int) : 0 ≤ x * x := by
  rcases Int.le_total 0 x with h | h
  · exact Int.mul_nonneg h h
  · have := Int.mul_nonneg (show 0 ≤ -x by omega) (show 0 ≤ -x by omega)
    rw [Int.neg_mul_neg] at this; exact this
theorem sqS_nonneg (xs : List ArcR) (z : Nat → Int) : ∀ k, 0 ≤ sqS xs z k
  | 0 => Int.le_refl _
  | k + 1 => by have := sqS_nonneg xs z k; have := sq_nonneg (z (frN xs k) - z (toN xs k)); rw [sqS]; omega
theorem sqS_zero {xs : List ArcR} {z : Nat → Int} : ∀ k, sqS xs z k = 0 → ∀ i, i < k → z (frN xs i) = z (toN xs i)
  | 0, _, i, hi => by omega
  | k + 1, h, i, hi => by
    rw [sqS] at h
    have h1 := sqS_nonneg xs z k
    have h2 := sq_nonneg (z (frN xs k) - z (toN xs k))
    by_cases e : i = k
    · subst e
      have h3 : (z (frN xs i) - z (toN xs i)) * (z (frN xs i) - z (toN xs i)) = 0 := by omega
      rcases Int.mul_eq_zero.1 h3 with h4 | h4 <;> omega
    · exact sqS_zero k (by omega) i (by omega)
/-- no trees: some numbers at the nodes are alike along all arcs, but not all alike -/
theorem trees_none {xs : List ArcR} {m : Nat} (hx : ∀ i, i < xs.length → frN xs i < m + 1 ∧ toN xs i < m + 1 ∧ frN xs i ≠ toN xs i) (hn : xs.length ≤ 48) (h : bP (lapB xs) m = 0) : ∃ z : Nat → Int, (∀ i, i < xs.length → z (frN xs i) = z (toN xs i)) ∧ ∃ k, k < m ∧ z k ≠ z m := by
  obtain ⟨y, ⟨k, hk, hyk⟩, hy⟩ := bP_vec (lapB_ok hx hn).lap h
  refine ⟨fun u => if u < m then y u else 0, ?_, k, hk, by dsimp only; rw [if_pos hk, if_neg (Nat.lt_irrefl m)]; exact hyk⟩
  refine sqS_zero (xs := xs) (z := fun u => if u < m then y u else 0) xs.length ?_
  rw [← quad hx _ xs.length (Nat.le_refl _)]
  have e : sumN (m + 1) (fun v => sumN (m + 1) (fun u => (if u < m then y u else 0) * lapK xs xs.length u v) * (if v < m then y v else 0)) = sumN (m + 1) (fun _ => 0) := sumN_congr _ _ _ fun v hv => by
    by_cases e : v < m
    · have h1 : sumN (m + 1) (fun u => (if u < m then y u else 0) * lapK xs xs.length u v) = 0 := by
        rw [sumN, if_neg (Nat.lt_irrefl m)]
        have h2 : sumN m (fun u => (if u < m then y u else 0) * lapK xs xs.length u v) = sumN m (fun i => y i * lapB xs i v) := sumN_congr _ _ _ fun u hu => by rw [if_pos hu]; rfl
        rw [h2, hy v e]; omega
      rw [h1]; omega
    · rw [if_neg e]; omega
  rw [e, sumN_zero]
/-- numbers that are alike along all arcs, but not all alike: no trees -/
theorem none_trees {xs : List ArcR} {m : Nat} (hx : ∀ i, i < xs.length → frN xs i < m + 1 ∧ toN xs i < m + 1 ∧ frN xs i ≠ toN xs i) (hn : xs.length ≤ 48) {z : Nat → Int} (hz : ∀ i, i < xs.length → z (frN xs i) = z (toN xs i)) {k : Nat} (hk : k < m) (hne : z k ≠ z m) : bP (lapB xs) m = 0 := by
  refine bP_null (lapB_ok hx hn).lap (x := fun v => z v - z m) (fun i hi => ?_) hk (by show z k - z m ≠ 0; omega)
  have h1 : ∀ q, q ≤ xs.length → sumN (m + 1) (fun v => (z v - z m) * lapK xs q i v) = 0 := by
    intro q
    induction q with
    | zero =>
      intro _
      have : (fun v => (z v - z m) * lapK xs 0 i v) = fun _ => 0 := funext fun v => by rw [lapK]; omega
      rw [this, sumN_zero]
    | succ q ih =>
      intro hq
      obtain ⟨a, b, _⟩ := hx q (by omega)
      have e : (fun v => (z v - z m) * lapK xs (q + 1) i v) = fun v => (z v - z m) * lapK xs q i v + ((z v - z m) * arcD xs q v) * arcD xs q i := funext fun v => by rw [lapK]; grind
      rw [e, sumN_add, sumN_mul, sumN_arc (fun v => z v - z m) a b, ih (by omega), hz q (by omega)]
      grind
  have h2 := h1 xs.length (Nat.le_refl _)
  rw [sumN] at h2
  have e : (fun j => lapB xs i j * (z j - z m)) = fun v => (z v - z m) * lapK xs xs.length i v := funext fun v => Int.mul_comm _ _
  rw [e]
  have h3 : (z m - z m) * lapK xs xs.length i m = 0 := by rw [show z m - z m = 0 by omega]; omega
  omega
theorem bP_nonneg {xs : List ArcR} {m : Nat} (hx : ∀ i, i < xs.length → frN xs i < m + 1 ∧ toN xs i < m + 1 ∧ frN xs i ≠ toN xs i) (hn : xs.length ≤ 48) : 0 ≤ bP (lapB xs) m := by
  by_cases h : bP (lapB xs) m = 0
  · omega
  · have hl := (lapB_ok hx hn).lap
    have := (lap_inv hl m (Nat.le_refl _) (lap_pivots hl h m (Nat.le_refl _))).1
    omega
end Go.Proofs.YtigaopfhjimpmaaDoor

namespace Go.Proofs.YtigaopfhjimpmaaDoor
open Go.RowKit

theorem nodup_leR : ∀ (k : Nat) (l : List Nat), l.Nodup → (∀ x ∈ l, x < k) → l.length ≤ k
  | 0, l, _, h => by
    cases l with
    | nil => exact Nat.le_refl _
    | cons a t => have := h a (by simp); omega
  | k + 1, l, hd, h => by
    have h1 := nodup_leR k (l.erase k) (hd.erase k) (fun x hx => by
      have h2 := h x (List.mem_of_mem_erase hx)
      have h3 : x ≠ k := fun e => by subst e; exact (List.Nodup.not_mem_erase hd) hx
      omega)
    by_cases hm : k ∈ l
    · rw [List.length_erase_of_mem hm] at h1
      omega
    · rw [List.erase_of_not_mem hm] at h1
      omega
/-- the node before a node -/
def rprev (xs : List ArcR) (zs : List Int) (k : Nat) : Nat := (xs.getD (zs.getD k 0).toNat default).fr.toNat
/-- the root is reached within some steps -/
def reachR (xs : List ArcR) (zs : List Int) (r : Nat) : Nat → Nat → Bool
  | 0, k => decide (k = r)
  | f + 1, k => if k = r then true else reachR xs zs r f (rprev xs zs k)
def itR (g : Nat → Nat) : Nat → Nat → Nat
  | 0, k => k
  | s + 1, k => itR g s (g k)
theorem itR_add (g : Nat → Nat) : ∀ (a b k : Nat), itR g (a + b) k = itR g b (itR g a k)
  | 0, b, k => by rw [Nat.zero_add]; rfl
  | a + 1, b, k => by rw [show a + 1 + b = (a + b) + 1 by omega]; exact itR_add g a b (g k)
theorem reachR_iff {xs : List ArcR} {zs : List Int} {r : Nat} : ∀ (f k : Nat), reachR xs zs r f k = true ↔ ∃ s, s ≤ f ∧ itR (rprev xs zs) s k = r
  | 0, k => by
    unfold reachR
    rw [decide_eq_true_iff]
    constructor
    · intro h; exact ⟨0, Nat.le_refl _, h⟩
    · rintro ⟨s, h1, h2⟩
      obtain rfl : s = 0 := by omega
      exact h2
  | f + 1, k => by
    unfold reachR
    by_cases e : k = r
    · rw [if_pos e]
      exact ⟨fun _ => ⟨0, by omega, e⟩, fun _ => rfl⟩
    · rw [if_neg e, reachR_iff f]
      constructor
      · rintro ⟨s, h1, h2⟩; exact ⟨s + 1, by omega, h2⟩
      · rintro ⟨s, h1, h2⟩
        cases s with
        | zero => exact absurd h2 e
        | succ s => exact ⟨s, by omega, h2⟩
theorem least_at {P : Nat → Prop} : ∀ (s : Nat), P s → ∃ t, t ≤ s ∧ P t ∧ ∀ u, u < t → ¬ P u := by
  intro s
  induction s using Nat.strongRecOn with
  | ind s ih =>
    intro h
    by_cases h2 : ∃ u, u < s ∧ P u
    · obtain ⟨u, h3, h4⟩ := h2
      obtain ⟨t, a, b, c⟩ := ih u h3 h4
      exact ⟨t, by omega, b, c⟩
    · exact ⟨s, Nat.le_refl _, h, fun u hu hp => h2 ⟨u, hu, hp⟩⟩
/-- a way to the root that is none longer than needed goes through fewer nodes than there are -/
theorem reach_short {g : Nat → Nat} {N r k : Nat} (hg : ∀ i, i < N → g i < N) (hk : k < N) {s : Nat} (hs : itR g s k = r) : ∃ t, t < N ∧ itR g t k = r := by
  obtain ⟨t, h1, h2, h3⟩ := least_at (P := fun t => itR g t k = r) s hs
  have hin : ∀ i, itR g i k < N := by
    have : ∀ i j, j < N → itR g i j < N := by
      intro i
      induction i with
      | zero => intro j hj; exact hj
      | succ i ih => intro j hj; exact ih (g j) (hg j hj)
    exact fun i => this i k hk
  refine ⟨t, ?_, h2⟩
  have hnd : ((List.range (t + 1)).map fun i => itR g i k).Nodup := by
    rw [List.Nodup, List.pairwise_map]
    refine (List.pairwise_lt_range (n := t + 1)).imp_of_mem ?_
    intro a b ha hb hab e
    rw [List.mem_range] at ha hb
    refine h3 (a + (t - b)) (by omega) ?_
    show itR g (a + (t - b)) k = r
    rw [itR_add, e, ← itR_add, show b + (t - b) = t by omega]
    exact h2
  have := nodup_leR N _ hnd (fun x hx => by
    rw [List.mem_map] at hx
    obtain ⟨i, _, e⟩ := hx
    rw [← e]
    exact hin i)
  rw [List.length_map, List.length_range] at this
  omega
theorem reachR_more {xs : List ArcR} {zs : List Int} {r N k : Nat} (hg : ∀ i, i < N → rprev xs zs i < N) (hk : k < N) : reachR xs zs r (N + 1) k = reachR xs zs r N k := by
  cases h1 : reachR xs zs r N k
  · cases h2 : reachR xs zs r (N + 1) k
    · rfl
    · obtain ⟨s, _, h3⟩ := (reachR_iff _ _).1 h2
      obtain ⟨t, h4, h5⟩ := reach_short hg hk h3
      rw [(reachR_iff N k).2 ⟨t, by omega, h5⟩] at h1
      cases h1
  · obtain ⟨s, h2, h3⟩ := (reachR_iff _ _).1 h1
    exact (reachR_iff _ _).2 ⟨s, by omega, h3⟩
/-- the first k nodes reach the root -/
def rootedR (xs : List ArcR) (zs : List Int) (r N : Nat) : Nat → Bool
  | 0 => true
  | k + 1 => rootedR xs zs r N k && reachR xs zs r N k
theorem rootedR_no {xs : List ArcR} {zs : List Int} {r N k : Nat} (hk : k < N) (h : reachR xs zs r N k = false) : ∀ m, k < m → rootedR xs zs r N m = false
  | 0, h2 => by omega
  | m + 1, h2 => by
    unfold rootedR
    by_cases e : k = m
    · subst e; rw [h, Bool.and_false]
    · rw [rootedR_no hk h m (by omega), Bool.false_and]
/-- what the first k chosen arcs cost -/
def costR (xs : List ArcR) (zs : List Int) : Nat → Int
  | 0 => 0
  | k + 1 => if zs.getD k 0 < 0 then costR xs zs k else costR xs zs k + (xs.getD (zs.getD k 0).toNat default).cost
theorem costR_app {xs : List ArcR} {zs : List Int} {x : Int} : ∀ k, k ≤ zs.length → costR xs (zs ++ [x]) k = costR xs zs k
  | 0, _ => rfl
  | k + 1, h => by
    have h1 : (zs ++ [x]).getD k 0 = zs.getD k 0 := by simp only [List.getD]; rw [List.getElem?_append_left (by omega)]
    have h2 := costR_app (xs := xs) (x := x) k (show k ≤ zs.length by omega)
    unfold costR
    rw [h1, h2]
theorem costR_snoc {xs : List ArcR} {zs : List Int} {x : Int} : costR xs (zs ++ [x]) (zs.length + 1) = if x < 0 then costR xs zs zs.length else costR xs zs zs.length + (xs.getD x.toNat default).cost := by
  rw [costR, costR_app _ (Nat.le_refl _), show (zs ++ [x]).getD zs.length 0 = x by simp [List.getD]]
theorem costR_bd {xs : List ArcR} {zs : List Int} (h : ∀ k, k < zs.length → zs.getD k 0 < xs.length) (hc : ∀ k, k < xs.length → -1000 ≤ (xs.getD k default).cost ∧ (xs.getD k default).cost ≤ 1000) : ∀ k, k ≤ zs.length → -(1000 * (k : Int)) ≤ costR xs zs k ∧ costR xs zs k ≤ 1000 * (k : Int)
  | 0, _ => by unfold costR; omega
  | k + 1, hk => by
    have ih := costR_bd h hc k (by omega)
    unfold costR
    split
    · omega
    · have h1 := h k (by omega)
      have := hc (zs.getD k 0).toNat (by omega)
      omega
/-- the state of the search: the best list, and what it costs -/
def leafR (xs : List ArcR) (N r : Nat) (zs : List Int) (st : List Int × Int) : List Int × Int :=
  if rootedR xs zs r N N = true ∧ (st.1.length = 0 ∨ costR xs zs N < st.2) then (zs, costR xs zs N) else st
def rtTo (xs : List ArcR) (k : Nat) (G : List Int → List Int × Int → List Int × Int) (zs : List Int) (st : List Int × Int) : Nat → List Int × Int
  | 0 => st
  | i + 1 => if (xs.getD i default).to_ = (k : Int) then G (zs ++ [(i : Int)]) (rtTo xs k G zs st i) else rtTo xs k G zs st i
def rtF (xs : List ArcR) (N r : Nat) : Nat → List Int → List Int × Int → List Int × Int
  | 0, zs, st => leafR xs N r zs st
  | f + 1, zs, st => if zs.length = r then rtF xs N r f (zs ++ [-1]) st else rtTo xs zs.length (rtF xs N r f) zs st xs.length
/-- what lists of chosen arcs are -/
def ChR (xs : List ArcR) (r : Nat) (zs : List Int) : Prop := ∀ k, k < zs.length → (k = r ∧ zs.getD k 0 = -1) ∨ (k ≠ r ∧ 0 ≤ zs.getD k 0 ∧ zs.getD k 0 < xs.length)
theorem ChR.nil {xs : List ArcR} {r : Nat} : ChR xs r [] := fun k h => by simp at h
theorem ChR.root {xs : List ArcR} {zs : List Int} {r : Nat} (h : ChR xs r zs) (hr : zs.length = r) : ChR xs r (zs ++ [-1]) := by
  intro k hk
  rw [List.length_append, List.length_singleton] at hk
  by_cases e : k < zs.length
  · have h1 : (zs ++ [(-1 : Int)]).getD k 0 = zs.getD k 0 := by simp only [List.getD]; rw [List.getElem?_append_left e]
    rw [h1]
    exact h k e
  · have e2 : k = zs.length := by omega
    exact .inl ⟨by omega, by rw [e2]; simp [List.getD]⟩
theorem ChR.arc {xs : List ArcR} {zs : List Int} {r i : Nat} (h : ChR xs r zs) (hr : zs.length ≠ r) (hi : i < xs.length) : ChR xs r (zs ++ [(i : Int)]) := by
  intro k hk
  rw [List.length_append, List.length_singleton] at hk
  by_cases e : k < zs.length
  · rw [show (zs ++ [(i : Int)]).getD k 0 = zs.getD k 0 by simp only [List.getD]; rw [List.getElem?_append_left e]]
    exact h k e
  · have e2 : k = zs.length := by omega
    refine .inr ⟨by omega, ?_⟩
    rw [e2, show (zs ++ [(i : Int)]).getD zs.length 0 = i by simp [List.getD]]
    omega
/-- the best list is none or one of all nodes; what it costs is small -/
def StR (N : Nat) (st : List Int × Int) : Prop := (st.1.length = 0 ∨ st.1.length = N) ∧ -(1000 * (N : Int)) ≤ st.2 ∧ st.2 ≤ 1000 * (N : Int)
theorem leafR_ok {xs : List ArcR} {N r : Nat} {zs : List Int} {st : List Int × Int} (h : ChR xs r zs) (hl : zs.length = N) (hc : ∀ k, k < xs.length → -1000 ≤ (xs.getD k default).cost ∧ (xs.getD k default).cost ≤ 1000) (hs : StR N st) : StR N (leafR xs N r zs st) := by
  unfold leafR
  split
  · refine ⟨.inr hl, ?_⟩
    have := costR_bd (xs := xs) (zs := zs) (fun k hk => by rcases h k hk with ⟨_, h2⟩ | ⟨_, _, h2⟩ <;> omega) hc N (by omega)
    exact this
  · exact hs
theorem rtTo_ok {xs : List ArcR} {N r k : Nat} {G : List Int → List Int × Int → List Int × Int} {zs : List Int} {st : List Int × Int} (hG : ∀ (i : Nat) st, i < xs.length → StR N st → StR N (G (zs ++ [(i : Int)]) st)) (hs : StR N st) : ∀ i, i ≤ xs.length → StR N (rtTo xs k G zs st i)
  | 0, _ => hs
  | i + 1, hi => by
    unfold rtTo
    have ih := rtTo_ok (r := r) (k := k) hG hs i (by omega)
    split
    · exact hG i _ (by omega) ih
    · exact ih
theorem rtF_ok {xs : List ArcR} {N r : Nat} (hc : ∀ k, k < xs.length → -1000 ≤ (xs.getD k default).cost ∧ (xs.getD k default).cost ≤ 1000) : ∀ (f : Nat) (zs : List Int) (st : List Int × Int), zs.length + f = N → ChR xs r zs → StR N st → StR N (rtF xs N r f zs st)
  | 0, zs, st, hl, h, hs => leafR_ok h (by omega) hc hs
  | f + 1, zs, st, hl, h, hs => by
    unfold rtF
    split
    · rename_i e
      exact rtF_ok hc f _ st (by rw [List.length_append, List.length_singleton]; omega) (h.root e) hs
    · rename_i e
      refine rtTo_ok (r := r) (fun i st hi hs => ?_) hs _ (Nat.le_refl _)
      exact rtF_ok hc f _ st (by rw [List.length_append, List.length_singleton]; omega) (h.arc e hi) hs
theorem rprev_lt {xs : List ArcR} {zs : List Int} {r N : Nat} (hx : ∀ k, k < xs.length → 0 ≤ (xs.getD k default).fr ∧ (xs.getD k default).fr < N) (hN : 0 < N) : ∀ i, i < N → rprev xs zs i < N := by
  intro i _
  unfold rprev
  by_cases h : (zs.getD i 0).toNat < xs.length
  · have := hx _ h; omega
  · rw [show xs.getD (zs.getD i 0).toNat default = default from by generalize (zs.getD i 0).toNat = q at *; simp only [List.getD]; rw [List.getElem?_eq_none (by omega)]; rfl]
    exact hN
end Go.Proofs.YtigaopfhjimpmaaDoor

namespace Go.Proofs.YtigaopfhjimpmaaDoor
open Go.RowKit

/-- 'append(out, src...)' of elements of some cells each: the source nil, empty or not. -/
theorem wp_append_cells {P : Program} {ops : Array Oper} {rest : List Oper} {o : Oper} {a : Act} {Q : Exit → Act → World → Prop} (w : World)
    (hgd : o.guard = none) (s x : Operand) (t : TypeId) (ho : o.op = .call { callee := .builtin .append, args := #[s, x], argTypes := #[t, t] })
    (T base : Nat) (ht : P.underlying t = some (.slice T)) (z : Value) (size bytes : Nat) (hinfo : (P.info? T).map (fun i => (i.zero, i.size, i.bytes)) = some (some z, size, bytes)) (hzc : z.cells.size = size) (hpos : 0 < size) (hby : bytes ≤ 256) (hsz : size ≤ 64)
    (A : Option Addr) (n c : Nat) (vs : List Value) (hs : a.eval s = .slice A n c) (hown : OwnC T base size w A n c vs)
    (B : Option Addr) (m d : Nat) (us : List Value) (hx : a.eval x = .slice B m d) (hul : us.length = m * size) (hr : 0 < m → ∃ bd, B = some bd ∧ ∀ j u, us[j]? = some u → w.cell? (bd.add j) = some u) (h1c : ∀ u ∈ us, u.oneCell' = true)
    (hn : n + m ≤ 17179869184) (hbase : base ≤ w.heap.size)
    (h : ∀ (A' : Option Addr) (c' : Nat) (w' : World), OwnC T base size w' A' (n + m) c' (vs ++ us) → Upd (blk A) w w' → Below base w w' → (∀ ad, A' = some ad → blk A ad.block ∨ w.heap.size ≤ ad.block) → wpList P ops Q rest (a.put o.dst (.slice A' (n + m) c')) w') :
    wpList P ops Q (o :: rest) a w := by
  obtain ⟨i0, hi, hz0, hz1, hz2⟩ := info_parts hinfo
  have hml : (n + m) * size ≤ maxLen := Nat.le_trans (Nat.mul_le_mul hn hsz) (by simp [maxLen])
  have hmb : (n + m) * bytes ≤ 17179869184 * 256 := Nat.mul_le_mul hn hby
  have key : ∃ v' w', (Builtin.append_ #[t, t] o.type #[.slice A n c, .slice B m d]).run P w = .ok v' w' ∧ w'.ownsRow base T size v' (n + m) (vs ++ us) ∧ w.grownBy w' (Value.slice A n c).ownBlock ∧
      (v'.ownBlock = (Value.slice A n c).ownBlock ∨ v'.ownBlock = some w.heap.size) := by
    cases B with
    | none =>
      have hm : m = 0 := by
        rcases Nat.eq_zero_or_pos m with h0 | h0
        · exact h0
        · obtain ⟨ad, h, _⟩ := hr h0; cases h
      subst hm
      have hn : us = [] := List.eq_nil_of_length_eq_zero (by simpa using hul)
      subst hn
      refine ⟨.slice A n c, w, ?_, by simpa [OwnC] using hown, World.grownBy.refl w _, .inl rfl⟩
      rcases hown.2 with ⟨h1, rfl⟩ | ⟨g, cap, cur, h1, _, _, hnc, _⟩
      · rw [h1]
        simp [Builtin.append_, run_underlying ht, sizeOf, typeInfo, hi, Builtin.lenOf, Builtin.firstCells]
      · rw [h1]
        simp [Builtin.append_, run_underlying ht, sizeOf, typeInfo, hi, Builtin.lenOf, Builtin.firstCells, hnc, storeCells]
    | some bd =>
      have hcells : ∀ j u, us[j]? = some u → w.cell? (bd.add j) = some u := by
        intro j u hu
        have hj : j < us.length := by
          rcases Nat.lt_or_ge j us.length with h1 | h1
          · exact h1
          · rw [List.getElem?_eq_none h1] at hu; cases hu
        have hm : 0 < m := by
          rcases Nat.eq_zero_or_pos m with h0 | h0
          · subst h0; omega
          · exact h0
        obtain ⟨ad, e, hc⟩ := hr hm
        injection e with e
        subst e
        exact hc j u hu
      obtain ⟨v', w', hrun, h2, h3, _, h5⟩ := run_append_own_at (P := P) w base t o.type T i0 _ size bytes ht hi hz0 hz1 hz2 hzc hpos (.slice A n c) n _ hown bd m d us hul hcells h1c (by first | exact hml | (simp [maxLen]; omega)) (by omega) hbase
      exact ⟨v', w', hrun, h2, h3, h5⟩
  obtain ⟨v', w', hrun, h2, h3, h5⟩ := key
  have hform : ∃ A' c', v' = .slice A' (n + m) c' := by
    rcases h2.2 with ⟨h, h'⟩ | ⟨g, cap, cur, h, _⟩
    · exact ⟨none, 0, by rw [h, h']⟩
    · exact ⟨_, cap, h⟩
  obtain ⟨A', c', rfl⟩ := hform
  have hu : Upd (blk A) w w' := (Upd.refl _ _).grown h3 (by
    intro k hk
    cases A with
    | none => cases hk
    | some ad => injection hk with hk; exact .inl ⟨ad, rfl, hk⟩)
  refine wpList_plain hgd fun _ hK => ?_
  unfold Oper.wp execOp
  simp only [ho, resolve, invoke, builtin, Sem.run_bind, Sem.run_pure, Result.andThen_ok, List.map_toArray, List.map_cons, List.map_nil, hs, hx, hrun]
  refine hK _ _ (h A' c' w' h2 hu (hu.toBelow hbase fun k hk ⟨ad, h1, h2⟩ => by have := (OwnC.lt hown h1).1; omega) ?_)
  intro ad hA
  subst hA
  rcases h5 with h5 | h5
  · left
    cases A with
    | none => cases h5
    | some ad => simp only [Value.ownBlock, Option.some.injEq] at h5; exact ⟨ad, rfl, h5.symm⟩
  · right
    simp only [Value.ownBlock, Option.some.injEq] at h5
    omega

theorem arcs_cells {w : World} {B : Option Addr} {m : Nat} {xs : List ArcR} (h : ArcsAt w B m xs) : 0 < m → ∃ bd, B = some bd ∧ ∀ j u, (arcsV xs)[j]? = some u → w.cell? (bd.add j) = some u := by
  intro hm
  obtain ⟨bd, e, _, hc⟩ := h.2 hm
  have hl := h.len
  refine ⟨bd, e, fun j u hj => ?_⟩
  have hjl : j < xs.length * 4 := by
    have := (List.getElem?_eq_some_iff.1 hj).1
    rwa [arcsV_len] at this
  have hk : j / 4 < xs.length := by omega
  have h1 := arcsV_get xs (j / 4) (j % 4) hk (by omega)
  rw [show j / 4 * 4 + j % 4 = j from by omega, hj] at h1
  have h2 := hc (j / 4) (by omega)
  obtain ⟨c0, c1, c2, c3⟩ := h2
  have hadd : ∀ i, 0 < i → bd.add (j / 4 * 4 + i) = ⟨(bd.add (j / 4 * 4)).block, (bd.add (j / 4 * 4)).off + i, none⟩ := by
    intro i hi
    unfold Addr.add
    rw [if_neg (by omega)]
    split
    · rename_i h; rw [h]; simp
    · simp [Nat.add_assoc]
  have hj4 : j % 4 = 0 ∨ j % 4 = 1 ∨ j % 4 = 2 ∨ j % 4 = 3 := by omega
  rw [show j = j / 4 * 4 + j % 4 from by omega]
  rcases hj4 with e4 | e4 | e4 | e4 <;> rw [e4] at h1 ⊢
  · rw [Nat.add_zero, c0]; simpa [ArcR.cells] using h1.symm
  · rw [hadd 1 (by omega), c1]; simpa [ArcR.cells] using h1.symm
  · rw [hadd 2 (by omega), c2]; simpa [ArcR.cells] using h1.symm
  · rw [hadd 3 (by omega), c3]; simpa [ArcR.cells] using h1.symm
theorem arcs_one (xs : List ArcR) : ∀ u ∈ arcsV xs, u.oneCell' = true := by
  intro u hu
  simp only [arcsV, List.mem_flatMap, ArcR.cells, List.mem_cons, List.not_mem_nil, or_false] at hu
  obtain ⟨a, _, h⟩ := hu
  rcases h with rfl | rfl | rfl | rfl <;> rfl
theorem arcsV_append (xs ys : List ArcR) : arcsV xs ++ arcsV ys = arcsV (xs ++ ys) := by simp [arcsV]
end Go.Proofs.YtigaopfhjimpmaaDoor

namespace Go.Proofs.YtigaopfhjimpmaaDoor
open Go.RowKit

def costTo (xs : List ArcR) (fl : List Int) (k : Nat) : Int := (List.range k).foldl (fun s i => s + fl.getD i 0 * (xs.getD i default).cost) 0
theorem costTo_succ (xs : List ArcR) (fl : List Int) (k : Nat) : costTo xs fl (k + 1) = costTo xs fl k + fl.getD k 0 * (xs.getD k default).cost := by
  unfold costTo
  rw [List.range_succ, List.foldl_append]; rfl
theorem mul_bd {y q : Int} (h0 : 0 ≤ y) (h1 : y ≤ 1000000) (h2 : -1000 ≤ q) (h3 : q ≤ 1000) : -1000000000 ≤ y * q ∧ y * q ≤ 1000000000 := by
  have a : y * q ≤ 1000000 * 1000 := by
    by_cases hq : 0 ≤ q
    · exact Int.mul_le_mul h1 h3 hq (by omega)
    · have : y * q ≤ 0 := Int.mul_nonpos_of_nonneg_of_nonpos h0 (by omega)
      omega
  have b : y * (-q) ≤ 1000000 * 1000 := by
    by_cases hq : 0 ≤ -q
    · exact Int.mul_le_mul h1 (by omega) hq (by omega)
    · have : y * (-q) ≤ 0 := Int.mul_nonpos_of_nonneg_of_nonpos h0 (by omega)
      omega
  rw [Int.mul_neg] at b
  omega
def outTo (xs : List ArcR) (fl : List Int) (node : Int) (k : Nat) : Int := (List.range k).foldl (fun s i => s + (if (xs.getD i default).fr = node then fl.getD i 0 else 0) - (if (xs.getD i default).to_ = node then fl.getD i 0 else 0)) 0
theorem outTo_succ (xs : List ArcR) (fl : List Int) (node : Int) (k : Nat) : outTo xs fl node (k + 1) = outTo xs fl node k + (if (xs.getD k default).fr = node then fl.getD k 0 else 0) - (if (xs.getD k default).to_ = node then fl.getD k 0 else 0) := by
  unfold outTo
  rw [List.range_succ, List.foldl_append]; rfl
theorem outTo_bd {xs : List ArcR} {fl : List Int} {n : Nat} (node : Int) (hf : ∀ k, k < n → 0 ≤ fl.getD k 0 ∧ fl.getD k 0 ≤ 1000000) : ∀ k, k ≤ n → -1000000 * (k : Int) ≤ outTo xs fl node k ∧ outTo xs fl node k ≤ 1000000 * (k : Int)
  | 0, _ => by simp [outTo]
  | k + 1, h => by
    have := outTo_bd (xs := xs) node hf k (by omega)
    have := hf k (by omega)
    rw [outTo_succ]
    split <;> split <;> omega




end Go.Proofs.YtigaopfhjimpmaaDoor

namespace Go.Proofs.YtigaopfhjimpmaaDoor
open Go.RowKit

def flowCV (nodes : Int) (xs : List ArcR) (fl : List Int) : Int := if flowB nodes xs fl = true then costTo xs fl xs.length else 0
theorem flowCV_no {nodes : Int} {xs : List ArcR} {fl : List Int} (h : flowB nodes xs fl = false) : flowCV nodes xs fl = 0 := by unfold flowCV; rw [if_neg (by rw [h]; decide)]
theorem flowCV_yes {nodes : Int} {xs : List ArcR} {fl : List Int} (h : flowB nodes xs fl = true) : flowCV nodes xs fl = costTo xs fl xs.length := by unfold flowCV; rw [if_pos h]
def flowAB (nodes : Int) (xs : List ArcR) (fl : List Int) (from_ : Int) : Bool := flowB nodes xs fl && inB from_ 0 (nodes - 1)
def flowAV (nodes : Int) (xs : List ArcR) (fl : List Int) (from_ : Int) : Int := if flowAB nodes xs fl from_ = true then outTo xs fl from_ xs.length else 0
theorem flowAV_no {nodes : Int} {xs : List ArcR} {fl : List Int} {f : Int} (h : flowAB nodes xs fl f = false) : flowAV nodes xs fl f = 0 := by unfold flowAV; rw [if_neg (by rw [h]; decide)]
theorem flowAV_yes {nodes : Int} {xs : List ArcR} {fl : List Int} {f : Int} (h : flowAB nodes xs fl f = true) : flowAV nodes xs fl f = outTo xs fl f xs.length := by unfold flowAV; rw [if_pos h]
def balTo (xs : List ArcR) (fl : List Int) (a b : Int) (k : Nat) : Bool := (List.range k).all fun i => decide ((i : Int) = a) || (decide ((i : Int) = b) || decide (outTo xs fl i xs.length = 0))
theorem balTo_succ (xs : List ArcR) (fl : List Int) (a b : Int) (k : Nat) : balTo xs fl a b (k + 1) = (balTo xs fl a b k && (decide ((k : Int) = a) || (decide ((k : Int) = b) || decide (outTo xs fl k xs.length = 0)))) := by
  unfold balTo
  rw [List.range_succ, List.all_append]; simp
theorem balTo_stop {xs : List ArcR} {fl : List Int} {a b : Int} {k : Nat} (h1 : ¬ (k : Int) = a) (h2 : ¬ (k : Int) = b) (h3 : ¬ outTo xs fl k xs.length = 0) : ∀ d, balTo xs fl a b (k + 1 + d) = false
  | 0 => by rw [Nat.add_zero, balTo_succ]; simp [h1, h2, h3]
  | d + 1 => by rw [← Nat.add_assoc, balTo_succ, balTo_stop h1 h2 h3 d, Bool.false_and]
/-- a list is a flow from a node to another one -/
def isFlowB (nodes : Int) (xs : List ArcR) (fl : List Int) (a b : Int) : Bool := flowB nodes xs fl && (inB a 0 (nodes - 1) && (inB b 0 (nodes - 1) && (decide (a ≠ b) && balTo xs fl a b nodes.toNat)))
theorem flow_cost_bd {nodes : Int} {xs : List ArcR} {fl : List Int} {n : Nat} (hl : xs.length = n) (h : flowB nodes xs fl = true) : n ≤ 48 ∧ fl.length = n ∧ ∀ k, k < n → (0 ≤ fl.getD k 0 ∧ fl.getD k 0 ≤ 1000000) ∧ (-1000 ≤ (xs.getD k default).cost ∧ (xs.getD k default).cost ≤ 1000) := by
  subst hl
  obtain ⟨h1, h2, h3⟩ := flow_bd h
  obtain ⟨_, _, h4, h5⟩ := valid_bd h1
  exact ⟨h4, h2, fun k hk => ⟨⟨(h3 k hk).1, (h3 k hk).2.2⟩, (h5 k hk).2.2.2.2⟩⟩



theorem isFlowB_no1 {nodes : Int} {xs : List ArcR} {fl : List Int} {a b : Int} (h : flowB nodes xs fl = false) : isFlowB nodes xs fl a b = false := by simp [isFlowB, h]
theorem isFlowB_no2 {nodes : Int} {xs : List ArcR} {fl : List Int} {a b : Int} (h : inB a 0 (nodes - 1) = false) : isFlowB nodes xs fl a b = false := by simp [isFlowB, h]
theorem isFlowB_no3 {nodes : Int} {xs : List ArcR} {fl : List Int} {a b : Int} (h : inB b 0 (nodes - 1) = false) : isFlowB nodes xs fl a b = false := by simp [isFlowB, h]
theorem isFlowB_no4 {nodes : Int} {xs : List ArcR} {fl : List Int} {a b : Int} (h : a = b) : isFlowB nodes xs fl a b = false := by simp [isFlowB, h]
theorem isFlowB_yes {nodes : Int} {xs : List ArcR} {fl : List Int} {a b : Int} (h1 : flowB nodes xs fl = true) (h2 : inB a 0 (nodes - 1) = true) (h3 : inB b 0 (nodes - 1) = true) (h4 : ¬ a = b) : isFlowB nodes xs fl a b = balTo xs fl a b nodes.toNat := by simp [isFlowB, h1, h2, h3, h4]
def endsB (nodes : Int) (xs : List ArcR) (a b : Int) : Bool := validB nodes xs && (inB a 0 (nodes - 1) && (inB b 0 (nodes - 1) && decide (a ≠ b)))



end Go.Proofs.YtigaopfhjimpmaaDoor

namespace Go.Proofs.YtigaopfhjimpmaaDoor
open Go.RowKit

/-- block g: n cells of type T -/
def VB (w : World) (g T n : Nat) (v : Nat → Value) : Prop := Blk w g T ((List.range n).map v).toArray
section vb
variable {w w' : World} {g T n : Nat} {v : Nat → Value}
theorem VB.lt (h : VB w g T n v) : g < w.heap.size := Blk.lt h
theorem VB.cell (h : VB w g T n v) {j : Nat} (hj : j < n) : w.cell? ⟨g, j, none⟩ = some (v j) := by
  rw [Blk.cell h j]
  simp [hj]
theorem VB.free (h : VB w g T n v) (j : Nat) : w.frozen? ⟨g, j, none⟩ = false := Blk.free h j
theorem VB.drew (h : VB w g T n v) : VB w.drew g T n v := h
theorem VB.alloc (h : VB w g T n v) (o : Obj) : VB (w.alloc o) g T n v := Blk.alloc h o
theorem VB.ext (h : VB w g T n v) (hb : Below w.heap.size w w') : VB w' g T n v := Blk.ext h hb
theorem VB.far (h : VB w g T n v) {p : Addr} (hp : g ≠ p.block) (u : Value) : VB (w.setCell p u) g T n v := Blk.far h hp u
theorem VB.set (h : VB w g T n v) (j : Nat) (u : Value) : VB (w.setCell ⟨g, j, none⟩ u) g T n (fun x => if x = j then u else v x) := by
  have h2 := Blk.set h j u
  unfold VB
  have e : ((List.range n).map v).toArray.setIfInBounds j u = ((List.range n).map fun x => if x = j then u else v x).toArray := by
    apply Array.ext
    · simp
    · intro i h1 h2
      simp only [Array.getElem_setIfInBounds, List.getElem_toArray, List.getElem_map, List.getElem_range]
      by_cases e : j = i
      · simp [e]
      · have : ¬ i = j := fun e2 => e e2.symm
        simp [e, this]
  rw [← e]; exact h2
theorem VB.congr (h : VB w g T n v) {u : Nat → Value} (e : ∀ j, j < n → v j = u j) : VB w g T n u := by
  unfold VB at h ⊢
  have : (List.range n).map v = (List.range n).map u := List.map_congr_left fun x hx => e x (List.mem_range.1 hx)
  rw [← this]; exact h
end vb
theorem OwnC.vb {T base : Nat} {w : World} {g n : Nat} {vs : List Value} (h : OwnC T base 1 w (some ⟨g, 0, none⟩) n n vs) : Blk w g T vs.toArray := by
  rcases h.2 with ⟨h1, _⟩ | ⟨g', cap, cur, h1, _, h3, _, _, h6, h7⟩
  · injection h1 with h1; cases h1
  · injection h1 with h1 _ h2
    injection h1 with h1; injection h1 with h1; subst h1; subst h2
    rw [List.take_of_length_le (by simp [h6])] at h7
    unfold Blk
    rw [h3, ← h7]
theorem rep_range (n : Nat) (z : Value) : List.replicate n z = (List.range n).map fun _ => z := by
  apply List.ext_getElem (by simp)
  intro i h1 h2; simp
/-- a table of rows: R rows of n cells each, of which the first ln are in sight -/
structure KRowsAt (w : World) (TS T gT : Nat) (g : Nat → Nat) (R n : Nat) (ln : Nat → Nat) (f : Nat → Nat → Int) : Prop where
  top : VB w gT TS R (fun i => .slice (some ⟨g i, 0, none⟩) (ln i) n)
  row : ∀ i, i < R → VB w (g i) T n (fun j => .int .i64 (f i j))
  ne : ∀ i, i < R → g i ≠ gT
  inj : ∀ i j, i < R → j < R → g i = g j → i = j
section rows
variable {w w' : World} {TS T gT R n : Nat} {g ln : Nat → Nat} {f : Nat → Nat → Int}
theorem KRowsAt.drew (h : KRowsAt w TS T gT g R n ln f) : KRowsAt w.drew TS T gT g R n ln f := ⟨h.top, h.row, h.ne, h.inj⟩
theorem KRowsAt.alloc (h : KRowsAt w TS T gT g R n ln f) (o : Obj) : KRowsAt (w.alloc o) TS T gT g R n ln f := ⟨h.top.alloc o, fun i hi => (h.row i hi).alloc o, h.ne, h.inj⟩
theorem KRowsAt.ext (h : KRowsAt w TS T gT g R n ln f) (hb : Below w.heap.size w w') : KRowsAt w' TS T gT g R n ln f := ⟨h.top.ext hb, fun i hi => (h.row i hi).ext hb, h.ne, h.inj⟩
theorem KRowsAt.set (h : KRowsAt w TS T gT g R n ln f) {i : Nat} (hi : i < R) (j : Nat) (x : Int) : KRowsAt (w.setCell ⟨g i, j, none⟩ (.int .i64 x)) TS T gT g R n ln (setF f i j x) := by
  refine ⟨h.top.far (fun e => h.ne i hi e.symm) _, fun a ha => ?_, h.ne, h.inj⟩
  by_cases e : a = i
  · subst e
    refine ((h.row a ha).set j (.int .i64 x)).congr fun b _ => ?_
    unfold setF
    by_cases e2 : b = j
    · rw [if_pos e2, if_pos ⟨rfl, e2⟩]
    · rw [if_neg e2, if_neg (fun hh => e2 hh.2)]
  · refine ((h.row a ha).far (p := ⟨g i, j, none⟩) (fun e2 => e (h.inj a i ha hi e2)) _).congr fun b _ => ?_
    unfold setF
    rw [if_neg (fun hh => e hh.1)]
theorem KRowsAt.cut (h : KRowsAt w TS T gT g R n ln f) {i : Nat} (l : Nat) : KRowsAt (w.setCell ⟨gT, i, none⟩ (.slice (some ⟨g i, 0, none⟩) l n)) TS T gT g R n (fun x => if x = i then l else ln x) f := by
  refine ⟨(h.top.set i _).congr fun b hb => ?_, fun a ha => (h.row a ha).far (p := ⟨gT, i, none⟩) (h.ne a ha) _, h.ne, h.inj⟩
  by_cases e : b = i
  · subst e; simp
  · simp [e]
theorem KRowsAt.line (h : KRowsAt w TS T gT g R n ln f) {i : Nat} (hi : i < R) : w.cell? ⟨gT, i, none⟩ = some (.slice (some ⟨g i, 0, none⟩) (ln i) n) := h.top.cell hi
theorem KRowsAt.cell (h : KRowsAt w TS T gT g R n ln f) {i j : Nat} (hi : i < R) (hj : j < n) : w.cell? ⟨g i, j, none⟩ = some (.int .i64 (f i j)) := (h.row i hi).cell hj
theorem KRowsAt.free (h : KRowsAt w TS T gT g R n ln f) {i : Nat} (hi : i < R) (j : Nat) : w.frozen? ⟨g i, j, none⟩ = false := (h.row i hi).free j
theorem KRowsAt.freeT (h : KRowsAt w TS T gT g R n ln f) (j : Nat) : w.frozen? ⟨gT, j, none⟩ = false := h.top.free j
theorem KRowsAt.congr (h : KRowsAt w TS T gT g R n ln f) {f' : Nat → Nat → Int} (e : ∀ a b, a < R → b < n → f a b = f' a b) : KRowsAt w TS T gT g R n ln f' :=
  ⟨h.top, fun i hi => (h.row i hi).congr fun b hb => by rw [e i b hi hb], h.ne, h.inj⟩
end rows
theorem wp_make_valsW {P : Program} (w : World) {ops : Array Oper} {rest : List Oper} {o : Oper} {a : Act} {Q : Exit → Act → World → Prop}
    (hg : o.guard = none) (l c : Operand) (t : TypeId) (hop : o.op = Op.makeSlice t l c) (z : Value) (b : Nat) (hzc : z.cells = #[z]) (hb : b ≤ 64)
    (T : TypeId) (h1 : P.underlying t = some (.slice T)) (hinfo : (P.info? T).map (fun i => (i.zero, i.size, i.bytes)) = some (some z, 1, b))
    (kl kc : IntKind) (L C : Int) (n : Nat) (hl : a.eval l = .int kl L) (hc : a.eval c = .int kc C) (hL : L = (n : Int)) (hC : C = (n : Int)) (hn : n ≤ 1048576)
    (hK : ∀ (w' : World) (g : Nat), OwnC T w.heap.size 1 w' (some ⟨g, 0, none⟩) n n (List.replicate n z) → Below w.heap.size w w' → wpList P ops Q rest (a.put o.dst (.slice (some ⟨g, 0, none⟩) n n)) w') :
    wpList P ops Q (o :: rest) a w := by
  obtain ⟨i0, hi, hz0, hz1, hz2⟩ := info_parts hinfo
  have hmul : n * b ≤ 1048576 * 64 := Nat.mul_le_mul hn hb
  have hmul2 : b * n ≤ 64 * 1048576 := Nat.mul_le_mul hb hn
  refine wpList_make_full w hg l c t hop w.heap.size T i0 _ 1 h1 hi hz0 hz1 kl kc L C n hl hc hL hC (by rw [hz2]; omega) (by simp [maxLen]; omega) (Nat.le_refl _) ?_
  intro w' h2 h3
  refine hK w' w.heap.size ?_ (Upd.ext ((Upd.refl _ _).grown h3 (by intro k hk; cases hk)))
  have e : (madeCells z.cells (n * 1)).toList = List.replicate n z := by
    rw [hzc]
    show (madeCells #[z] (n * 1)).toList = _
    rw [toList_madeCells_one]; simp
  rw [← e]
  exact h2
end Go.Proofs.YtigaopfhjimpmaaDoor
