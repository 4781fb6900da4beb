/- slices.Reverse of a list of ints. -/
import Derived.Test.YtpaahjeohigngaaJ1
import Derived.RegionTactic
namespace Go.Proofs.Ytpaahjeohigngaa
open Go.RowKit

/-- a list with its first k and last k turned round -/
def revTo (zs : List Int) (k : Nat) : List Int := (List.range zs.length).map fun i => if i < k ∨ zs.length - k ≤ i then zs.getD (zs.length - 1 - i) 0 else zs.getD i 0
theorem revTo_len (zs : List Int) (k : Nat) : (revTo zs k).length = zs.length := by simp [revTo]
theorem revTo_get {zs : List Int} {k i : Nat} (h : i < zs.length) : (revTo zs k).getD i 0 = if i < k ∨ zs.length - k ≤ i then zs.getD (zs.length - 1 - i) 0 else zs.getD i 0 := by
  simp [revTo, List.getD, h]
theorem revTo_zero (zs : List Int) : revTo zs 0 = zs := by
  apply getD_ext (revTo_len _ _)
  intro j hj
  rw [revTo_len] at hj
  rw [revTo_get hj, if_neg (by omega)]
theorem getD_set2 (zs : List Int) (i j : Nat) (x : Int) (h : i < zs.length) : (zs.set i x).getD j 0 = if i = j then x else zs.getD j 0 := by
  simp only [List.getD, List.getElem?_set]
  by_cases e : i = j
  · rw [if_pos e, if_pos e, if_pos h]; rfl
  · rw [if_neg e, if_neg e]
theorem revTo_step {zs : List Int} {n k : Nat} (hn : zs.length = n) (h : 2 * k + 1 < n) : ((revTo zs k).set k (zs.getD (n - 1 - k) 0)).set (n - 1 - k) (zs.getD k 0) = revTo zs (k + 1) := by
  subst hn
  apply getD_ext (by simp [revTo_len])
  intro j hj
  rw [List.length_set, List.length_set, revTo_len] at hj
  rw [getD_set2 _ _ _ _ (by rw [List.length_set, revTo_len]; omega), getD_set2 _ _ _ _ (by rw [revTo_len]; omega), revTo_get hj, revTo_get hj]
  by_cases e1 : zs.length - 1 - k = j
  · rw [if_pos e1, if_pos (by omega), ← e1]; congr 1; omega
  · rw [if_neg e1]
    by_cases e2 : k = j
    · rw [if_pos e2, if_pos (by omega), ← e2]
    · rw [if_neg e2]
      by_cases e3 : j < k ∨ zs.length - k ≤ j
      · rw [if_pos e3, if_pos (by omega)]
      · rw [if_neg e3, if_neg (by omega)]
theorem revTo_end {zs : List Int} {n k : Nat} (hn : zs.length = n) (h1 : 2 * k ≤ n) (h2 : n ≤ 2 * k + 1) : revTo zs k = zs.reverse := by
  subst hn
  apply getD_ext (by simp [revTo_len])
  intro j hj
  rw [revTo_len] at hj
  rw [revTo_get hj]
  have e : zs.reverse.getD j 0 = zs.getD (zs.length - 1 - j) 0 := by
    simp [List.getD, List.getElem?_reverse hj]
  rw [e]
  split
  · rfl
  · congr 1; omega
theorem revTo_lo {zs : List Int} {n k : Nat} (hn : zs.length = n) (h : 2 * k + 1 < n) : (revTo zs k).getD k 0 = zs.getD k 0 ∧ (revTo zs k).getD (n - 1 - k) 0 = zs.getD (n - 1 - k) 0 := by
  subst hn
  rw [revTo_get (by omega), revTo_get (by omega), if_neg (by omega), if_neg (by omega)]
  exact ⟨rfl, rfl⟩
theorem rev_snoc {zs : List Int} {n j : Nat} (hn : zs.length = n) (h : j < n) : zs.reverse.take (j + 1) = zs.reverse.take j ++ [zs.getD (n - 1 - j) 0] := by
  subst hn
  have hr : j < zs.reverse.length := by simpa using h
  rw [List.take_succ_eq_append_getElem hr]
  congr 2
  rw [List.getElem_reverse]
  simp [List.getD, show zs.length - 1 - j < zs.length by omega]


set_option maxHeartbeats 800000 in
theorem reverse_any (base : Nat) (A : Option Addr) (n c : Nat) (zs : List Int) (w : World) (h : OwnI 2 base w A n c zs) (hn : n ≤ 1048576) :
    Calls Try.prog 37 #[.slice A n c] w fun e w' => e = .returned (.tuple #[]) ∧ OwnI 2 base w' A n c zs.reverse ∧ Upd (blk A) w w' := by
  have HL := Lib.hid h.len
  go_enter Try.func37, Try.ntmps37
  go_wp2
  go_loopg [2, 3] n (fun r i j wr => ∃ k : Nat, r = n - k ∧ 2 * k ≤ n ∧ i = .int .i64 k ∧ j = .int .i64 ((n : Int) - 1 - k) ∧ OwnI 2 base wr A n c (revTo zs k) ∧ Upd (blk A) w wr)
  case atStart => exact ⟨0, rfl, by omega, rfl, by simp, by rw [revTo_zero]; exact h, Upd.refl _ _⟩
  case round =>
    obtain ⟨k, hr, hk, rfl, rfl, hown, hu⟩ := hrel
    have HR := Lib.hid hr
    clear hr
    by_cases hlt : 2 * k + 1 < n
    · have e1 : ((n : Int) - 1 - k) = ((n - 1 - k : Nat) : Int) := by omega
      rw [e1]
      have hlt' : (k : Int) < ((n - 1 - k : Nat) : Int) := by omega
      obtain ⟨g, rfl, _, _, _, _⟩ := hown.pos (by omega)
      have c1 := hown.cell (j := k) (by omega)
      have c2 := hown.cell (j := n - 1 - k) (by omega)
      obtain ⟨q1, q2⟩ := revTo_lo HL.out hlt
      rw [q1] at c1
      rw [q2] at c2
      have f1 := hown.free k
      have f2 := (hown.set k (zs.getD (n - 1 - k) 0)).free (n - 1 - k)
      have o1 := (hown.set k (zs.getD (n - 1 - k) 0)).set (n - 1 - k) (zs.getD k 0)
      rw [revTo_step HL.out hlt] at o1
      have HE := Lib.hid (show ((n - 1 - k : Nat) : Int) - 1 = (n : Int) - 1 - ((k + 1 : Nat) : Int) by omega)
      have hin : n - 1 - k < n := by omega
      have hin2 : k < n := by omega
      have u1 := (hu.setCell (p := ⟨g, k, none⟩) (.inl ⟨_, rfl, rfl⟩) (.int .i64 (zs.getD (n - 1 - k) 0))).setCell (p := ⟨g, n - 1 - k, none⟩) (.inl ⟨_, rfl, rfl⟩) (.int .i64 (zs.getD k 0))
      clear e1 hu hown q1 q2
      generalize zs.getD k 0 = y at *
      generalize zs.getD (n - 1 - k) 0 = x at *
      generalize n - 1 - k = i at *
      go_wp2
      go_region
      go_wp2
      go_roundg (n - (k + 1))
      case measure => rw [HR.out]; omega
      case rel => exact ⟨k + 1, rfl, by omega, by go_num, by rw [← HE.out], o1.drew, u1.drew⟩
    · have hge : ¬ (k : Int) < (n : Int) - 1 - k := by omega
      have HT := Lib.hid (revTo_end HL.out hk (by omega))
      rw [HT.out] at hown
      go_wp2
      go_end0
      exact ⟨rfl, hown, hu⟩
end Go.Proofs.Ytpaahjeohigngaa
