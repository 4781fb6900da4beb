/- Best pack, in plain lists; lists turned round. -/
import Derived.Test.YtjpidpocaemkjaaGains3
namespace Go.Proofs.Ytjpidpocaemkjaa
open Go.RowKit

/-- a list with its first k and last k turned round -/
def revTo (zs : List Int) (k : Nat) : List Int := (List.range zs.length).map fun i => if i < k ∨ zs.length - k ≤ i then zs.getD (zs.length - 1 - i) 0 else zs.getD i 0
theorem revTo_len (zs : List Int) (k : Nat) : (revTo zs k).length = zs.length := by simp [revTo]
theorem revTo_get {zs : List Int} {k i : Nat} (h : i < zs.length) : (revTo zs k).getD i 0 = if i < k ∨ zs.length - k ≤ i then zs.getD (zs.length - 1 - i) 0 else zs.getD i 0 := by
  simp [revTo, List.getD, h]
theorem revTo_zero (zs : List Int) : revTo zs 0 = zs := by
  apply getD_ext (revTo_len _ _)
  intro j hj
  rw [revTo_len] at hj
  rw [revTo_get hj, if_neg (by omega)]
theorem getD_set2 (zs : List Int) (i j : Nat) (x : Int) (h : i < zs.length) : (zs.set i x).getD j 0 = if i = j then x else zs.getD j 0 := by
  simp only [List.getD, List.getElem?_set]
  by_cases e : i = j
  · rw [if_pos e, if_pos e, if_pos h]; rfl
  · rw [if_neg e, if_neg e]
theorem revTo_step {zs : List Int} {n k : Nat} (hn : zs.length = n) (h : 2 * k + 1 < n) : ((revTo zs k).set k (zs.getD (n - 1 - k) 0)).set (n - 1 - k) (zs.getD k 0) = revTo zs (k + 1) := by
  subst hn
  apply getD_ext (by simp [revTo_len])
  intro j hj
  rw [List.length_set, List.length_set, revTo_len] at hj
  rw [getD_set2 _ _ _ _ (by rw [List.length_set, revTo_len]; omega), getD_set2 _ _ _ _ (by rw [revTo_len]; omega), revTo_get hj, revTo_get hj]
  by_cases e1 : zs.length - 1 - k = j
  · rw [if_pos e1, if_pos (by omega), ← e1]; congr 1; omega
  · rw [if_neg e1]
    by_cases e2 : k = j
    · rw [if_pos e2, if_pos (by omega), ← e2]
    · rw [if_neg e2]
      by_cases e3 : j < k ∨ zs.length - k ≤ j
      · rw [if_pos e3, if_pos (by omega)]
      · rw [if_neg e3, if_neg (by omega)]
theorem revTo_end {zs : List Int} {n k : Nat} (hn : zs.length = n) (h1 : 2 * k ≤ n) (h2 : n ≤ 2 * k + 1) : revTo zs k = zs.reverse := by
  subst hn
  apply getD_ext (by simp [revTo_len])
  intro j hj
  rw [revTo_len] at hj
  rw [revTo_get hj]
  have e : zs.reverse.getD j 0 = zs.getD (zs.length - 1 - j) 0 := by
    simp [List.getD, List.getElem?_reverse hj]
  rw [e]
  split
  · rfl
  · congr 1; omega
theorem revTo_lo {zs : List Int} {n k : Nat} (hn : zs.length = n) (h : 2 * k + 1 < n) : (revTo zs k).getD k 0 = zs.getD k 0 ∧ (revTo zs k).getD (n - 1 - k) 0 = zs.getD (n - 1 - k) 0 := by
  subst hn
  rw [revTo_get (by omega), revTo_get (by omega), if_neg (by omega), if_neg (by omega)]
  exact ⟨rfl, rfl⟩
theorem rev_snoc {zs : List Int} {n j : Nat} (hn : zs.length = n) (h : j < n) : zs.reverse.take (j + 1) = zs.reverse.take j ++ [zs.getD (n - 1 - j) 0] := by
  subst hn
  have hr : j < zs.reverse.length := by simpa using h
  rw [List.take_succ_eq_append_getElem hr]
  congr 2
  rw [List.getElem_reverse]
  simp [List.getD, show zs.length - 1 - j < zs.length by omega]

/-- the greatest gain of the first k things in room r -/
def gC (zs ys : List Int) (k r : Nat) : Int := (gainT zs ys r k).getD r 0
theorem gC_cut {zs ys : List Int} (hz : ∀ k, 0 ≤ zs.getD k 0) : ∀ (k R r : Nat), r ≤ R → (gainT zs ys R k).getD r 0 = gC zs ys k r
  | 0, R, r, h => by
    unfold gC
    simp [gainT, List.getD, List.getElem?_replicate, show r < R + 1 by omega]
  | k + 1, R, r, h => by
    have h0 := hz k
    unfold gC
    rw [gainT, gainT, gainStep_get (by rw [gainT_len]; omega), gainStep_get (by rw [gainT_len]; omega)]
    split
    · rw [gC_cut hz k R r h, gC_cut hz k r r (Nat.le_refl _), gC_cut hz k R ((r : Int) - zs.getD k 0).toNat (by omega), gC_cut hz k r ((r : Int) - zs.getD k 0).toNat (by omega)]
    · rw [gC_cut hz k R r h, gC_cut hz k r r (Nat.le_refl _)]
theorem gC_big {zs ys : List Int} {k r : Nat} (h : (r : Int) < zs.getD k 0) : gC zs ys (k + 1) r = gC zs ys k r := by
  unfold gC
  rw [gainT, gainStep_get (by rw [gainT_len]; omega), if_neg (by omega)]
theorem gC_gain {zs ys : List Int} {k r : Nat} (h : gC zs ys k r < gC zs ys (k + 1) r) : zs.getD k 0 ≤ (r : Int) := by
  by_cases h2 : (r : Int) < zs.getD k 0
  · rw [gC_big h2] at h; omega
  · omega

/-- the best pack of room R of n things, after j steps from the last thing on; what room is left -/
def packTo (zs ys : List Int) (R n : Nat) : Nat → List Int × Nat
  | 0 => ([], R)
  | j + 1 => if gC zs ys (n - 1 - j) (packTo zs ys R n j).2 < gC zs ys (n - 1 - j + 1) (packTo zs ys R n j).2 then ((packTo zs ys R n j).1 ++ [((n - 1 - j : Nat) : Int)], (packTo zs ys R n j).2 - (zs.getD (n - 1 - j) 0).toNat) else packTo zs ys R n j
theorem packTo_bd (zs ys : List Int) (R n : Nat) : ∀ j, (packTo zs ys R n j).2 ≤ R ∧ (packTo zs ys R n j).1.length ≤ j
  | 0 => by simp [packTo]
  | j + 1 => by
    have := packTo_bd zs ys R n j
    unfold packTo
    split
    · simp only [List.length_append, List.length_cons, List.length_nil]; omega
    · omega
theorem packTo_yes {zs ys : List Int} {R n j : Nat} (h : gC zs ys (n - 1 - j) (packTo zs ys R n j).2 < gC zs ys (n - 1 - j + 1) (packTo zs ys R n j).2) : packTo zs ys R n (j + 1) = ((packTo zs ys R n j).1 ++ [((n - 1 - j : Nat) : Int)], (packTo zs ys R n j).2 - (zs.getD (n - 1 - j) 0).toNat) := by
  rw [packTo, if_pos h]
theorem packTo_no {zs ys : List Int} {R n j : Nat} (h : ¬ gC zs ys (n - 1 - j) (packTo zs ys R n j).2 < gC zs ys (n - 1 - j + 1) (packTo zs ys R n j).2) : packTo zs ys R n (j + 1) = packTo zs ys R n j := by
  rw [packTo, if_neg h]
def packV (zs ys : List Int) (room : Int) : List Int := if canB zs ys room = true then (packTo zs ys room.toNat zs.length zs.length).1.reverse else []
def packL (zs ys : List Int) (room : Int) : Int := if canB zs ys room = true then gC zs ys zs.length room.toNat else 0
theorem packV_no {zs ys : List Int} {room : Int} (h : canB zs ys room = false) : packV zs ys room = [] := by unfold packV; rw [if_neg (by rw [h]; decide)]
theorem packL_no {zs ys : List Int} {room : Int} (h : canB zs ys room = false) : packL zs ys room = 0 := by unfold packL; rw [if_neg (by rw [h]; decide)]
theorem packV_yes {zs ys : List Int} {room : Int} (h : canB zs ys room = true) : packV zs ys room = (packTo zs ys room.toNat zs.length zs.length).1.reverse := by unfold packV; rw [if_pos h]
theorem packL_yes {zs ys : List Int} {room : Int} (h : canB zs ys room = true) : packL zs ys room = gC zs ys zs.length room.toNat := by unfold packL; rw [if_pos h]
theorem packV_len (zs ys : List Int) (room : Int) : (packV zs ys room).length ≤ 1048576 := by
  cases h : canB zs ys room
  · rw [packV_no h]; simp
  · obtain ⟨h1, _⟩ := canB_bd h
    have := sizesB_bd h1
    have h2 := (packTo_bd zs ys room.toNat zs.length zs.length).2
    rw [packV_yes h, List.length_reverse]; omega
theorem zs_pos {zs : List Int} (h : ∀ k, k < zs.length → 1 ≤ zs.getD k 0 ∧ zs.getD k 0 ≤ 1000) (k : Nat) : 0 ≤ zs.getD k 0 := by
  by_cases hk : k < zs.length
  · have := h k hk; omega
  · simp [List.getD, List.getElem?_eq_none (Nat.le_of_not_lt hk)]

set_option maxHeartbeats 800000 in
theorem l04Back_any (A : Option Addr) (n c : Nat) (zs : List Int) (w : World) (h : IntsAt w A n zs) (hn : n ≤ 1048576) :
    Calls Try.prog 44 #[.slice A n c] w (RetI 2 zs.reverse w) := by
  have HL := Lib.hid h.len
  have he : OwnI 2 w.heap.size (w.alloc (.cells #[] 2)) (some ⟨w.heap.size, 0, none⟩) 0 0 [] := World.ownsRow_lit (e := 2) (base := w.heap.size) (size := 1) w #[] 0 (Nat.le_refl _) (Nat.zero_le _) rfl
  have hW : Below w.heap.size w (w.alloc (.cells #[] 2)) := (Below.refl _ _).alloc (Nat.le_refl _) _
  go_enter Try.func44, Try.ntmps44
  go_wp2
  generalize w.alloc (.cells #[] 2) = w0 at *
  go_loopg [3, 4] n (fun r v i wr => ∃ (k : Nat) (B : Option Addr) (d : Nat), r = n - k ∧ k ≤ n ∧ i = .int .i64 ((n : Int) - 1 - k) ∧ v = .slice B k d ∧ OwnI 2 w.heap.size wr B k d (zs.reverse.take k) ∧ Below w.heap.size w wr)
  case atStart => exact ⟨0, _, 0, rfl, Nat.zero_le _, by simp, rfl, he, hW⟩
  case round =>
    clear he hW
    obtain ⟨k, B, d, hr, hk, rfl, rfl, hown, hb⟩ := hrel
    have HR := Lib.hid hr
    clear hr
    by_cases hlt : k < n
    · have e1 : ((n : Int) - 1 - k) = ((n - 1 - k : Nat) : Int) := by omega
      rw [e1]
      have h1 := h.below hb
      obtain ⟨ad, rfl, _, hcell⟩ := h1.at_ (show n - 1 - k < n by omega)
      have HS := Lib.hid (rev_snoc HL.out hlt)
      have HE := Lib.hid (show ((n - 1 - k : Nat) : Int) - 1 = (n : Int) - 1 - ((k + 1 : Nat) : Int) by omega)
      have hin : n - 1 - k < n := by omega
      have hsz := hb.size
      clear e1
      generalize n - 1 - k = i at *
      generalize zs.getD i 0 = x at *
      go_wp2_with (at_builtin; refine wp_append_int wr _ rfl _ _ _ rfl 2 w.heap.size Try.underlying22 info64 B k d _ rfl hown rfl (by omega) hsz ?_; intro g c1 w1 o1 u1 b1 _)
      go_roundg (n - (k + 1))
      case measure => rw [HR.out]; omega
      case rel => exact ⟨k + 1, _, _, rfl, by omega, by rw [← HE.out], rfl, by rw [HS.out]; exact o1, hb.trans b1⟩
    · have e : k = n := by omega
      subst e
      have HT := Lib.hid (show zs.reverse.take k = zs.reverse from List.take_of_length_le (by rw [List.length_reverse, HL.out]; exact Nat.le_refl _))
      rw [HT.out] at hown
      go_wp2
      go_ret
      exact ⟨_, _, _, rfl, hown, hb⟩

set_option maxHeartbeats 800000 in
theorem reverse_any (base : Nat) (A : Option Addr) (n c : Nat) (zs : List Int) (w : World) (h : OwnI 2 base w A n c zs) (hn : n ≤ 1048576) :
    Calls Try.prog 45 #[.slice A n c] w fun e w' => e = .returned (.tuple #[]) ∧ OwnI 2 base w' A n c zs.reverse ∧ Upd (blk A) w w' := by
  have HL := Lib.hid h.len
  go_enter Try.func45, Try.ntmps45
  go_wp2
  go_loopg [2, 3] n (fun r i j wr => ∃ k : Nat, r = n - k ∧ 2 * k ≤ n ∧ i = .int .i64 k ∧ j = .int .i64 ((n : Int) - 1 - k) ∧ OwnI 2 base wr A n c (revTo zs k) ∧ Upd (blk A) w wr)
  case atStart => exact ⟨0, rfl, by omega, rfl, by simp, by rw [revTo_zero]; exact h, Upd.refl _ _⟩
  case round =>
    obtain ⟨k, hr, hk, rfl, rfl, hown, hu⟩ := hrel
    have HR := Lib.hid hr
    clear hr
    by_cases hlt : 2 * k + 1 < n
    · have e1 : ((n : Int) - 1 - k) = ((n - 1 - k : Nat) : Int) := by omega
      rw [e1]
      have hlt' : (k : Int) < ((n - 1 - k : Nat) : Int) := by omega
      obtain ⟨g, rfl, _, _, _, _⟩ := hown.pos (by omega)
      have c1 := hown.cell (j := k) (by omega)
      have c2 := hown.cell (j := n - 1 - k) (by omega)
      obtain ⟨q1, q2⟩ := revTo_lo HL.out hlt
      rw [q1] at c1
      rw [q2] at c2
      have f1 := hown.free k
      have f2 := (hown.set k (zs.getD (n - 1 - k) 0)).free (n - 1 - k)
      have o1 := (hown.set k (zs.getD (n - 1 - k) 0)).set (n - 1 - k) (zs.getD k 0)
      rw [revTo_step HL.out hlt] at o1
      have HE := Lib.hid (show ((n - 1 - k : Nat) : Int) - 1 = (n : Int) - 1 - ((k + 1 : Nat) : Int) by omega)
      have hin : n - 1 - k < n := by omega
      have hin2 : k < n := by omega
      have u1 := (hu.setCell (p := ⟨g, k, none⟩) (.inl ⟨_, rfl, rfl⟩) (.int .i64 (zs.getD (n - 1 - k) 0))).setCell (p := ⟨g, n - 1 - k, none⟩) (.inl ⟨_, rfl, rfl⟩) (.int .i64 (zs.getD k 0))
      clear e1 hu hown q1 q2
      generalize zs.getD k 0 = y at *
      generalize zs.getD (n - 1 - k) 0 = x at *
      generalize n - 1 - k = i at *
      go_wp2
      go_region
      go_wp2
      go_roundg (n - (k + 1))
      case measure => rw [HR.out]; omega
      case rel => exact ⟨k + 1, rfl, by omega, by go_num, by rw [← HE.out], o1.drew, u1.drew⟩
    · have hge : ¬ (k : Int) < (n : Int) - 1 - k := by omega
      have HT := Lib.hid (revTo_end HL.out hk (by omega))
      rw [HT.out] at hown
      go_wp2
      go_end0
      exact ⟨rfl, hown, hu⟩
end Go.Proofs.Ytjpidpocaemkjaa
