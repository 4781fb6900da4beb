/- Parts of tours turned around: the reference's and the program's. -/
import Derived.Test.YtnliekbckdbaaaaSwapPlain
import Derived.Test.YtnliekbckdbaaaaGrid
import Derived.Test.YtnliekbckdbaaaaReverse
import Derived.RegionTactic
namespace Go.Proofs.Ytnliekbckdbaaaa
open Go.RowKit

/-- a list whose part from i to j - 1 has been turned -/
def TurnAt (ts : List Int) (N i k j : Nat) (zs : List Int) : Prop := ∀ x, x < N → zs.getD x 0 = if i ≤ x ∧ x < j then ts.getD (i + k - x) 0 else ts.getD x 0
theorem TurnAt.zero (ts : List Int) (N i k : Nat) : TurnAt ts N i k i ts := fun x hx => by rw [if_neg (by omega)]
theorem TurnAt.next {ts zs : List Int} {N i k j : Nat} (hz : zs.length = N) (h1 : i ≤ j) (h : TurnAt ts N i k j zs) : TurnAt ts N i k (j + 1) (zs.set j (ts.getD (i + k - j) 0)) := fun x hx => by
  by_cases e : j = x
  · subst e
    rw [if_pos (by omega)]
    simp [List.getD, hz, hx]
  · have h2 : (zs.set j (ts.getD (i + k - j) 0)).getD x 0 = zs.getD x 0 := by simp [List.getD, List.getElem?_set_ne e]
    rw [h2, h x hx]
    by_cases e2 : i ≤ x ∧ x < j
    · rw [if_pos e2, if_pos (by omega)]
    · rw [if_neg e2, if_neg (by omega)]
theorem TurnAt.done {ts zs : List Int} {N i k : Nat} (hz : zs.length = N) (hl : ts.length = N) (h : TurnAt ts N i k (k + 1) zs) : zs = turnT ts i k := by
  refine List.ext_getElem (by rw [hz, turnT_len, hl]) fun x h1 h2 => ?_
  have h3 := h x (by omega)
  have h4 := turnT_get (ts := ts) (i := i) (k := k) (j := x) (by omega)
  have e1 : zs.getD x 0 = zs[x] := by simp [List.getD, h1]
  have e2 : (turnT ts i k).getD x 0 = (turnT ts i k)[x] := by simp [List.getD, h2]
  rw [← e1, ← e2, h3, h4]
  by_cases e : i ≤ x ∧ x ≤ k
  · rw [if_pos e, if_pos (by omega)]
  · rw [if_neg e, if_neg (by omega)]

set_option maxRecDepth 100000 in
set_option maxHeartbeats 1600000 in
theorem l04Turned_any (A : Option Addr) (N c : Nat) (ts : List Int) (i k : Nat) (w : World) (h : IntsAt w A N ts) (hN : N ≤ 10) (hi : i < k) (hk : k < N) :
    Calls Try.prog 72 #[.slice A N c, .int .i64 i, .int .i64 k] w fun e w' => ∃ (A' : Option Addr) (c' : Nat), e = .returned (.slice A' N c') ∧ OwnI 2 w.heap.size w' A' N c' (turnT ts i k) ∧ Below w.heap.size w w' := by
  have he : OwnI 2 w.heap.size (w.alloc (.cells #[] 2)) (some ⟨w.heap.size, 0, none⟩) 0 0 [] := World.ownsRow_lit (e := 2) (base := w.heap.size) (size := 1) w #[] 0 (Nat.le_refl _) (Nat.zero_le _) rfl
  have hW : Below w.heap.size w (w.alloc (.cells #[] 2)) := (Below.refl _ _).alloc (Nat.le_refl _) _
  go_enter Try.func72, Try.ntmps72
  go_wp2_with (at_builtin; refine wp_append_ints _ rfl _ _ _ rfl 2 w.heap.size Try.underlying22 info64 _ 0 0 _ rfl he A N c ts rfl (h.alloc _) (by omega) hW.size ?_; intro A' c' w1 o1 u1 b1 _; simp only [Nat.zero_add, List.nil_append] at o1)
  have hb := hW.trans b1
  have hl := h.len
  obtain ⟨g, rfl, hg1, hg2, _, _⟩ := o1.pos (by omega)
  clear u1 b1 he hW
  go_loopg [8] (k + 1 - i) (fun r jv wr => ∃ (j : Nat) (zs : List Int), r = k + 1 - j ∧ i ≤ j ∧ j ≤ k + 1 ∧ jv = .int .i64 j ∧ OwnI 2 w.heap.size wr (some ⟨g, 0, none⟩) N c' zs ∧ Hid (TurnAt ts N i k j zs) ∧ Below w.heap.size w wr)
  case atStart => exact ⟨i, ts, rfl, Nat.le_refl _, by omega, rfl, o1, Lib.hid (TurnAt.zero _ _ _ _), hb⟩
  case round =>
    clear o1 hb
    obtain ⟨j, zs, hr, hj1, hj2, rfl, oR, HT, hbw⟩ := hrel
    have HR := Lib.hid hr
    clear hr
    by_cases hlj : j ≤ k
    · obtain ⟨p, hp⟩ : ∃ p : Nat, i + k - j = p := ⟨_, rfl⟩
      obtain ⟨ad, rfl, _, hc⟩ := (h.below hbw).at_ (k := p) (by omega)
      have fR := OwnI.free oR j
      have cR := OwnI.cell oR (show j < N by omega)
      have oS := OwnI.set oR j (ts.getD p 0)
      have HS := Lib.hid (TurnAt.next (OwnI.len oR) hj1 HT.out)
      have bS := hbw.setCell (p := ⟨g, j, none⟩) hg1 (.int .i64 (ts.getD p 0))
      rw [hp] at HS
      have v1 : (i : Int) + (k : Int) - (j : Int) = (p : Int) := by omega
      clear oR hbw
      generalize ts.getD p 0 = x at *
      generalize zs.getD j 0 = y at *
      go_wp2_with fail
      go_roundg (k + 1 - (j + 1))
      case measure => rw [HR.out]; omega
      case rel => exact ⟨j + 1, _, rfl, by omega, by omega, by go_num, oS, HS, bS⟩
    · have e : j = k + 1 := by omega
      subst e
      have HD := Lib.hid (TurnAt.done (OwnI.len oR) hl HT.out)
      rw [HD.out] at oR
      go_wp2_with fail
      go_ret
      exact ⟨_, _, rfl, oR, hbw⟩

/-- a list whose part from i to k has been turned by a exchanges from both ends -/
def MidAt (ts : List Int) (N i k a : Nat) (zs : List Int) : Prop := ∀ x, x < N → zs.getD x 0 = if (i ≤ x ∧ x < i + a) ∨ (k < x + a ∧ x ≤ k) then ts.getD (i + k - x) 0 else ts.getD x 0
theorem MidAt.zero (ts : List Int) (N i k : Nat) : MidAt ts N i k 0 ts := fun x hx => by rw [if_neg (by omega)]
theorem MidAt.two {ts zs : List Int} {N i k a p : Nat} (h1 : i + p + a = k) (h2 : a < p) (hk : k < N) (h : MidAt ts N i k a zs) : zs.getD (i + a) 0 = ts.getD (i + a) 0 ∧ zs.getD (i + p) 0 = ts.getD (i + p) 0 := by
  rw [h _ (by omega), h _ (by omega), if_neg (by omega), if_neg (by omega)]; exact ⟨rfl, rfl⟩
theorem MidAt.next {ts zs : List Int} {N i k a p : Nat} (hz : zs.length = N) (h1 : i + p + a = k) (h2 : a < p) (hk : k < N) (h : MidAt ts N i k a zs) :
    MidAt ts N i k (a + 1) ((zs.set (i + a) (ts.getD (i + p) 0)).set (i + p) (ts.getD (i + a) 0)) := fun x hx => by
  rw [getD_set2 _ _ _ _ (by rw [List.length_set]; omega), getD_set2 _ _ _ _ (by omega)]
  by_cases e1 : i + p = x
  · rw [if_pos e1, if_pos (by omega)]; congr 1; omega
  · rw [if_neg e1]
    by_cases e2 : i + a = x
    · rw [if_pos e2, if_pos (by omega)]; congr 1; omega
    · rw [if_neg e2, h x hx]
      by_cases e3 : (i ≤ x ∧ x < i + a) ∨ (k < x + a ∧ x ≤ k)
      · rw [if_pos e3, if_pos (by omega)]
      · rw [if_neg e3, if_neg (by omega)]
theorem MidAt.done {ts zs : List Int} {N i k a : Nat} (hz : zs.length = N) (hl : ts.length = N) (h1 : i + a + a ≤ k + 1) (h2 : k ≤ i + a + a) (h : MidAt ts N i k a zs) : zs = turnT ts i k := by
  refine getD_ext (by rw [hz, turnT_len, hl]) fun x hx => ?_
  rw [h x (by omega), turnT_get (by omega)]
  by_cases e : i ≤ x ∧ x ≤ k
  · rw [if_pos e]
    by_cases e3 : (i ≤ x ∧ x < i + a) ∨ (k < x + a ∧ x ≤ k)
    · rw [if_pos e3]
    · rw [if_neg e3]; congr 1; omega
  · rw [if_neg e, if_neg (by omega)]

set_option maxRecDepth 100000 in
set_option maxHeartbeats 800000 in
theorem reverseMid_any (base g N c C i k L : Nat) (ts : List Int) (w : World) (h : OwnI 2 base w (some ⟨g, 0, none⟩) N c ts) (hN : N ≤ 1048576) (hi : i < k) (hk : k < N) (hL : i + L = k + 1) :
    Calls Try.prog 74 #[.slice (some ⟨g, i, none⟩) L C] w fun e w' => e = .returned (.tuple #[]) ∧ OwnI 2 base w' (some ⟨g, 0, none⟩) N c (turnT ts i k) ∧ Upd (blk (some ⟨g, 0, none⟩)) w w' := by
  have HL := Lib.hid h.len
  go_enter Try.func74, Try.ntmps74
  go_wp2
  go_loopg [2, 3] L (fun r iv jv wr => ∃ (a : Nat) (zs : List Int), r = L - a ∧ 2 * a ≤ L ∧ iv = .int .i64 a ∧ jv = .int .i64 ((L : Int) - 1 - a) ∧ OwnI 2 base wr (some ⟨g, 0, none⟩) N c zs ∧ Hid (MidAt ts N i k a zs) ∧ Upd (blk (some ⟨g, 0, none⟩)) w wr)
  case atStart => exact ⟨0, ts, rfl, by omega, rfl, by simp, h, Lib.hid (MidAt.zero _ _ _ _), Upd.refl _ _⟩
  case round =>
    clear h
    obtain ⟨a, zs, hr, ha, rfl, rfl, oR, HT, hu⟩ := hrel
    have HR := Lib.hid hr
    clear hr
    by_cases hlt : 2 * a + 1 < L
    · obtain ⟨p, hp⟩ : ∃ p : Nat, L - 1 - a = p := ⟨_, rfl⟩
      have e1 : ((L : Int) - 1 - a) = ((p : Nat) : Int) := by omega
      rw [e1]
      have hlt' : (a : Int) < (p : Int) := by omega
      have h1 : i + p + a = k := by omega
      have c1 := oR.cell (j := i + a) (by omega)
      have c2 := oR.cell (j := i + p) (by omega)
      obtain ⟨q1, q2⟩ := MidAt.two h1 (by omega) hk HT.out
      rw [q1] at c1
      rw [q2] at c2
      have f1 := oR.free (i + a)
      have f2 := (oR.set (i + a) (ts.getD (i + p) 0)).free (i + p)
      have o1 := (oR.set (i + a) (ts.getD (i + p) 0)).set (i + p) (ts.getD (i + a) 0)
      have HS := Lib.hid (MidAt.next (OwnI.len oR) h1 (by omega) hk HT.out)
      have HE := Lib.hid (show (p : Int) - 1 = (L : Int) - 1 - ((a + 1 : Nat) : Int) by omega)
      have hin : p < L := by omega
      have hin2 : a < L := by omega
      have u1 := (hu.setCell (p := ⟨g, i + a, none⟩) (.inl ⟨_, rfl, rfl⟩) (.int .i64 (ts.getD (i + p) 0))).setCell (p := ⟨g, i + p, none⟩) (.inl ⟨_, rfl, rfl⟩) (.int .i64 (ts.getD (i + a) 0))
      have HP := Lib.hid (show 2 * (a + 1) ≤ L by omega)
      have HLL := Lib.hid (show L ≤ 1048576 by omega)
      clear e1 hu q1 q2 oR hp
      generalize ts.getD (i + a) 0 = y at *
      generalize ts.getD (i + p) 0 = x at *
      go_wp2
      go_region
      go_wp2
      go_roundg (L - (a + 1))
      case measure => rw [HR.out]; omega
      case rel => exact ⟨a + 1, _, rfl, HP.out, by go_num, by rw [← HE.out], o1.drew, HS, u1.drew⟩
    · have hge : ¬ (a : Int) < (L : Int) - 1 - a := by omega
      have HD := Lib.hid (MidAt.done (OwnI.len oR) HL.out (by omega) (by omega) HT.out)
      rw [HD.out] at oR
      go_wp2
      go_end0
      exact ⟨rfl, oR, hu⟩

set_option maxRecDepth 100000 in
set_option maxHeartbeats 800000 in
theorem swapped_any (A : Option Addr) (N c : Nat) (ts : List Int) (i k : Nat) (w : World) (h : IntsAt w A N ts) (hN : N ≤ 10) (hi : i < k) (hk : k < N) :
    Calls Try.prog 56 #[.slice A N c, .int .i64 i, .int .i64 k] w fun e w' => ∃ (A' : Option Addr) (c' : Nat), e = .returned (.slice A' N c') ∧ OwnI 2 w.heap.size w' A' N c' (turnT ts i k) ∧ Below w.heap.size w w' := by
  go_enter Try.func56, Try.ntmps56
  go_wp2_with fail
  refine (copyInts_any A N c ts _ h (by omega)).mono ?_
  rintro e w1 ⟨A', c', rfl, o1, b1⟩
  obtain ⟨g, rfl, hg1, hg2, hc1, hc2⟩ := o1.pos (by omega)
  go_wp2_with fail
  refine (reverseMid_any w.heap.size g N c' _ i k _ ts _ o1 (by omega) hi hk ?_).mono ?_
  · omega
  rintro e w2 ⟨rfl, o2, u2⟩
  go_wp2_with fail
  go_ret
  exact ⟨_, _, rfl, o2, below_blk b1 b1.size u2 o1 (Nat.le_refl _)⟩
end Go.Proofs.Ytnliekbckdbaaaa
