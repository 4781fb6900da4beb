/- Contracts of the laws' marking of memory, and posts of several results. -/
import Derived.Test.YtigaopfhjimpmaaDoorZLaw
namespace Go.Proofs.YtigaopfhjimpmaaDoor
open Go.RowKit

def RetV (v : Value) (w : World) (e : Ending) (w' : World) : Prop := e = .returned v ∧ Below w.heap.size w w'
def RetLB (T : Nat) (zs : List Int) (b : Bool) (w : World) (e : Ending) (w' : World) : Prop :=
  ∃ (A : Option Addr) (n c : Nat), e = .returned (.tuple #[.slice A n c, .bool b]) ∧ OwnI T w.heap.size w' A n c zs ∧ Below w.heap.size w w'
def RetLIB (T : Nat) (zs : List Int) (i : Int) (b : Bool) (w : World) (e : Ending) (w' : World) : Prop :=
  ∃ (A : Option Addr) (n c : Nat), e = .returned (.tuple #[.slice A n c, .int .i64 i, .bool b]) ∧ OwnI T w.heap.size w' A n c zs ∧ Below w.heap.size w w'

theorem ret_IB {i j : Int} {a b : Bool} (h1 : i = j) (h2 : a = b) : Ending.returned (.tuple #[.int .i64 i, .bool a]) = .returned (.tuple #[.int .i64 j, .bool b]) := by rw [h1, h2]
theorem pure_ret {P : Program} {f : FuncId} {args : Array Value} {w : World} {v : Value} (h : Calls P f args w fun e w' => e = .returned v ∧ w = w') : Calls P f args w (RetV v w) :=
  h.mono fun _ _ ⟨h1, h2⟩ => ⟨h1, h2 ▸ Below.refl _ _⟩

theorem eqInt64S_same (A B : Option Addr) (n c m d : Nat) (zs : List Int) (w : World) (hx : IntsAt w A n zs) (hy : IntsAt w B m zs) (hn : n ≤ maxLen) :
    Calls Tryd.prog 9 #[.slice A n c, .slice B m d] w (RetV (.bool true) w) :=
  (eqInt64S_any A B n c m d zs zs w hx hy hn).mono fun _ _ ⟨h1, q, h2⟩ => ⟨by rw [h1, decide_eq_true rfl], h2 ▸ ext_drewN (Below.refl _ _) q⟩

theorem seq_step (zs : List Int) (k : Int) (n j : Nat) (hl : zs.length = n) (hj : j < n) : (seqI k j ++ zs.drop j).set j (k + j) = seqI k (j + 1) ++ zs.drop (j + 1) := by
  apply List.ext_getElem?
  intro i
  have hs := seqI_len k j
  have hs1 := seqI_len k (j+1)
  rw [List.getElem?_set]
  simp only [List.length_append, List.length_drop, hs]
  by_cases h1 : j = i
  · subst h1
    rw [if_pos rfl, if_pos (by omega), List.getElem?_append_left (by omega)]
    simp [seqI]
  · rw [if_neg h1]
    by_cases h2 : i < j
    · rw [List.getElem?_append_left (by omega), List.getElem?_append_left (by omega)]
      simp [seqI, h2, Nat.lt_succ_of_lt h2]
    · rw [List.getElem?_append_right (by omega), List.getElem?_append_right (by omega), hs, hs1, List.getElem?_drop, List.getElem?_drop]
      congr 1
      omega

theorem markInt64S_any (T base : Nat) (A : Option Addr) (n c : Nat) (zs : List Int) (k : Int) (w : World) (h : OwnI T base w A n c zs) (hk : 0 ≤ k) (hb : k + n ≤ 4611686018427387904) :
    Calls Tryd.prog 12 #[.slice A n c, .int .i64 k] w fun e w' => e = .returned (.int .i64 (k + n)) ∧ OwnI T base w' A n c (seqI k n) ∧ Upd (blk A) w w' := by
  have HL := Lib.hid h.len
  go_enter Tryd.func12, Tryd.ntmps12
  go_wp2
  go_loopg [1, 5] n (fun r kk i wr => ∃ j : Nat, r = n - j ∧ j ≤ n ∧ i = .int .i64 j ∧ kk = .int .i64 (k + j) ∧ OwnI T base wr A n c (seqI k j ++ zs.drop j) ∧ Upd (blk A) w wr)
  case atStart => exact ⟨0, by omega, by omega, rfl, by simp, by simpa [seqI] using h, Upd.refl _ _⟩
  case round =>
    obtain ⟨j, hr, hj, rfl, rfl, hown, hu⟩ := hrel
    have HR := Lib.hid hr
    clear hr
    by_cases hlt : j < n
    · obtain ⟨g, rfl, _, _, _, _⟩ := hown.pos (by omega)
      have hfree := hown.free j
      have hc0 := hown.cell hlt
      have HS := Lib.hid (seq_step zs k n j HL.out hlt)
      have hset := hown.set j (k + j)
      rw [HS.out] at hset
      generalize hy : (seqI k j ++ zs.drop j).getD j 0 = y at *
      clear hy hown
      go_wp2
      go_roundg (n - (j + 1))
      case measure => rw [HR.out]; omega
      case rel => exact ⟨j + 1, rfl, by omega, by go_num, by go_num, hset, hu.setCell (p := ⟨g, j, none⟩) (.inl ⟨_, rfl, rfl⟩) _⟩
    · go_wp2
      go_ret
      have e : j = n := by omega
      subst e
      refine ⟨rfl, ?_, hu⟩
      rw [List.drop_of_length_le (by rw [HL.out]; exact Nat.le_refl _), List.append_nil] at hown
      exact hown

theorem markInt64S_ret (T base : Nat) (A : Option Addr) (n c : Nat) (zs : List Int) (k : Int) (w : World) (h : OwnI T base w A n c zs) (hk : 0 ≤ k) (hb : k + n ≤ 4611686018427387904) :
    Calls Tryd.prog 12 #[.slice A n c, .int .i64 k] w fun e w' => ∃ k' : Int, e = .returned (.int .i64 k') ∧ Hid (k' = k + n) ∧ 0 ≤ k' ∧ k' ≤ k + n ∧ OwnI T base w' A n c (seqI k n) ∧ Upd (blk A) w w' :=
  (markInt64S_any T base A n c zs k w h hk hb).mono fun _ _ ⟨h1, h2, h3⟩ => ⟨_, h1, Lib.hid rfl, by omega, by omega, h2, h3⟩

theorem heldInt64S_any (A : Option Addr) (n c : Nat) (k : Int) (w : World) (h : IntsAt w A n (seqI k n)) (hk : 0 ≤ k) (hb : k + n ≤ 4611686018427387904) :
    Calls Tryd.prog 13 #[.slice A n c, .int .i64 k] w fun e w' => e = .returned (.int .i64 (k + n)) ∧ w = w' := by
  go_enter Tryd.func13, Tryd.ntmps13
  go_wp2
  go_loop [1, 5] (fun kk i => ∃ j : Nat, j ≤ n ∧ i = .int .i64 j ∧ kk = .int .i64 (k + j)) (fun _ i => n - (intOf i).toNat)
  case atStart => exact ⟨0, by omega, rfl, by simp⟩
  case round =>
    obtain ⟨j, hj, rfl, rfl⟩ := hrel
    by_cases hlt : j < n
    · obtain ⟨ad, rfl, _, hcell⟩ := h.at_ hlt
      rw [seqI_get k n j hlt] at hcell
      go_wp2
      go_round
      case rel => exact ⟨j + 1, by omega, by go_num, by go_num⟩
      case measure => simp [intOf]; omega
    · go_wp2
      go_ret
      have e : j = n := by omega
      subst e
      exact ⟨rfl, rfl⟩
end Go.Proofs.YtigaopfhjimpmaaDoor
