/- How many zeros a number below 4096 ends in: the library's way by a table. -/
import Derived.Test.YtigaopfhjimpmaaDoorJ2
namespace Go.Proofs.YtigaopfhjimpmaaDoor
open Go.RowKit

/-- the library's table -/
def tz64 : List Int := [0, 1, 56, 2, 57, 49, 28, 3, 61, 58, 42, 50, 38, 29, 17, 4, 62, 47, 59, 36, 45, 43, 51, 22, 53, 39, 33, 30, 24, 18, 12, 5, 63, 55, 48, 27, 60, 41, 37, 16, 46, 35, 44, 21, 52, 32, 23, 11, 54, 26, 40, 15, 34, 20, 31, 10, 25, 14, 19, 9, 13, 8, 7, 6]
/-- the table lies where the program laid it -/
def HTab (w : World) : Prop := 1 < w.heap.size ∧ ∀ i, i < 64 → w.cell? ⟨1, i, none⟩ = some (.int .u8 (tz64.getD i 0))
theorem HTab.keep {w w' : World} (h : HTab w) (hs : w.heap.size ≤ w'.heap.size) (hk : w'.heap[1]? = w.heap[1]?) : HTab w' :=
  ⟨by have := h.1; omega, fun i hi => by rw [← h.2 i hi]; exact World.cell?_of_block hk⟩
theorem HTab.below {w w' : World} (h : HTab w) (hb : Below w.heap.size w w') : HTab w' := h.keep hb.size (hb.block 1 h.1)
theorem HTab.upd {w w' : World} {S : Nat → Prop} (h : HTab w) (hb : Upd S w w') (hS : ¬ S 1) : HTab w' := h.keep hb.size (hb.block 1 h.1 hS)
theorem HTab.alloc {w : World} (h : HTab w) (o : Obj) : HTab (w.alloc o) := h.keep (by simp) (Below.heap_alloc w o 1 h.1)
theorem HTab.drewN {w : World} (h : HTab w) (n : Nat) : HTab (w.drewN n) := h
def tzI (x : Nat) : Nat := (x &&& (18446744073709551616 - x)) * 285870213051353865 % 18446744073709551616 / 288230376151711744
def tzC (x : Nat) : Bool := x == 0 || (tz64.getD (tzI x) 0 == (lowF x 12 0 : Int) && decide (tzI x < 64))
def tzA : Nat → Nat → Bool
  | 0, lo => tzC lo
  | k + 1, lo => tzA k lo && tzA k (lo + 2 ^ k)
theorem tzA_at : ∀ (k lo x : Nat), tzA k lo = true → lo ≤ x → x < lo + 2 ^ k → tzC x = true
  | 0, lo, x, h, h1, h2 => by
    have : x = lo := by simp at h2; omega
    rw [this]; exact h
  | k + 1, lo, x, h, h1, h2 => by
    rw [tzA, Bool.and_eq_true] at h
    rw [Nat.pow_succ] at h2
    by_cases e : x < lo + 2 ^ k
    · exact tzA_at k lo x h.1 h1 e
    · exact tzA_at k (lo + 2 ^ k) x h.2 (by omega) (by omega)
theorem tzA_all : tzA 12 0 = true := by decide +kernel
theorem tz_is {x : Nat} (h0 : x ≠ 0) (hx : x < 4096) : tz64.getD (tzI x) 0 = (lowN x : Int) ∧ tzI x < 64 := by
  have h := tzA_at 12 0 x tzA_all (Nat.zero_le _) (by omega)
  unfold tzC at h
  rw [Bool.or_eq_true, Bool.and_eq_true, beq_iff_eq, beq_iff_eq, decide_eq_true_eq] at h
  rcases h with h | h
  · exact absurd h h0
  · exact h
theorem ofInt_u64_z (a : Nat) (ha : a < 18446744073709551616) : (BitVec.ofInt 64 (a : Int)).toNat = a := by
  rw [BitVec.ofInt_natCast, BitVec.toNat_ofNat]; exact Nat.mod_eq_of_lt (by omega)
theorem u64_and_nat_z (a b : Nat) (ha : a < 9223372036854775808) (hb : b < 18446744073709551616) : bits .and .u64 (a : Int) (b : Int) = ((Nat.land a b : Nat) : Int) := by
  have hx : a &&& b ≤ a := Nat.and_le_left
  show IntKind.u64.wrap ((BitVec.ofInt 64 (a : Int) &&& BitVec.ofInt 64 (b : Int)).toNat : Int) = ((a &&& b : Nat) : Int)
  rw [BitVec.toNat_and, ofInt_u64_z a (by omega), ofInt_u64_z b hb]
  exact IntWalk.u64_in _ (by omega)

set_option maxRecDepth 100000 in
theorem tz64_any (x : Nat) (w : World) (h0 : x ≠ 0) (hx : x < 4096) (ht : HTab w) :
    Calls Tryd.prog 48 #[.int .u64 x] w fun e w' => e = .returned (.int .i64 (lowN x : Nat)) ∧ w = w' := by
  obtain ⟨t1, t2⟩ := tz_is h0 hx
  have HL := Lib.hid t1
  have a1 : IntKind.u64.wrap (-(x : Int)) = ((18446744073709551616 - x : Nat) : Int) := by rw [IntKind.wrap_u64]; omega
  have a2 : bits .and .u64 (x : Int) ((18446744073709551616 - x : Nat) : Int) = ((x &&& (18446744073709551616 - x) : Nat) : Int) := u64_and_nat_z _ _ (by omega) (by omega)
  have hy : x &&& (18446744073709551616 - x) ≤ x := Nat.and_le_left
  have c1 := ht.2 (tzI x) t2
  rw [t1] at c1
  have hl12 : lowN x < 12 := by
    by_cases hh : lowN x < 12
    · exact hh
    · exact (low_ok (N := 12) h0 (by omega) (by omega)).1
  obtain ⟨ix, hix⟩ : ∃ ix, tzI x = ix := ⟨_, rfl⟩
  rw [hix] at c1 t2
  have hI : ix = (x &&& (18446744073709551616 - x)) * 285870213051353865 % 18446744073709551616 / 288230376151711744 := hix.symm
  clear hix
  generalize hyy : x &&& (18446744073709551616 - x) = y at *
  clear t1 ht
  have a3 : IntKind.u64.wrap ((y : Int) * 285870213051353865) = ((y * 285870213051353865 % 18446744073709551616 : Nat) : Int) := by rw [IntKind.wrap_u64]; omega
  rw [hI] at c1 t2
  have d0 : ((x : Int) == 0) = false := by rw [beq_eq_false_iff_ne]; omega
  generalize hz : y * 285870213051353865 % 18446744073709551616 = z at *
  clear hz hyy hI
  generalize lowN x = l at *
  go_enter Tryd.func48, Tryd.ntmps48
  go_wp2
  go_ret
  exact ⟨rfl, rfl⟩
set_option maxRecDepth 100000 in
theorem tz_any (x : Nat) (w : World) (h0 : x ≠ 0) (hx : x < 4096) (ht : HTab w) :
    Calls Tryd.prog 28 #[.int .u64 x] w fun e w' => e = .returned (.int .i64 (lowN x : Nat)) ∧ w = w' := by
  go_enter Tryd.func28, Tryd.ntmps28
  go_wp2_with (go_at_call 48; refine (tz64_any x _ h0 hx ht).mono ?_; rintro e w1 ⟨rfl, rfl⟩)
  go_ret
  exact ⟨rfl, rfl⟩
end Go.Proofs.YtigaopfhjimpmaaDoor
