/- Tours made shorter by parts turned around: the searches. -/
import Derived.Test.YtnliekbckdbaaaaSwapT
namespace Go.Proofs.Ytnliekbckdbaaaa
open Go.RowKit

theorem ret_LIsw {A : Option Addr} {n c : Nat} {i j : Int} (h : i = j) : Ending.returned (.tuple #[.slice A n c, .int .i64 i]) = .returned (.tuple #[.slice A n c, .int .i64 j]) := by rw [h]

/-- how far the search has come -/
def SwSt (ws : List Int) (N : Nat) (ts cur : List Int) (cnt : Nat) : Prop :=
  TourOk N cur ∧ (swapV ws N ts).1 = (swapV ws N cur).1 ∧ (swapV ws N ts).2 = (swapV ws N cur).2 + cnt ∧ (cnt : Int) + longTo ws cur N N ≤ 10000 ∧ 0 ≤ longTo ws cur N N
theorem SwSt.zero {ws : List Int} {N : Nat} {ts : List Int} (hN1 : 1 ≤ N) (hN : N ≤ 10) (hl : ws.length = N * N) (hw : ∀ j, j < N * N → 0 ≤ ws.getD j 0 ∧ ws.getD j 0 ≤ 1000) (ht : TourOk N ts) : SwSt ws N ts ts 0 := by
  have h1 := longTo_bd hN1 hl hw ht.2 N (Nat.le_refl _)
  exact ⟨ht, rfl, by omega, by omega, h1.1⟩
theorem SwSt.next {ws : List Int} {N : Nat} {ts cur : List Int} {cnt i k : Nat} (hl : ws.length = N * N) (hw : ∀ j, j < N * N → 0 ≤ ws.getD j 0 ∧ ws.getD j 0 ≤ 1000) (h : SwSt ws N ts cur cnt)
    (hb : NoB ws N cur i k) (h1 : i < k) (h2 : k < N) (h3 : longTo ws (turnT cur i k) N N < longTo ws cur N N) : SwSt ws N ts (turnT cur i k) (cnt + 1) := by
  obtain ⟨a1, a2, a3, a4, a5⟩ := h
  obtain ⟨b1, b2⟩ := swapV_step hl hw a1 hb h1 h2 (by simpa [lessB] using h3)
  have h4 := longTo_bd (by omega) hl hw (a1.turn i h2).2 N (Nat.le_refl _)
  exact ⟨a1.turn i h2, by rw [a2, b1], by rw [a3, b2]; omega, by omega, h4.1⟩
theorem SwSt.done {ws : List Int} {N : Nat} {ts cur : List Int} {cnt : Nat} (h : SwSt ws N ts cur cnt) (hb : NoB ws N cur N 0) : cur = (swapV ws N ts).1 ∧ (cnt : Int) = (((swapV ws N ts).2 : Nat) : Int) := by
  obtain ⟨a1, a2, a3, a4, a5⟩ := h
  rw [swapV_end hb] at a2 a3
  exact ⟨a2.symm, by rw [a3]; simp⟩

set_option maxRecDepth 100000 in
set_option maxHeartbeats 3200000 in
theorem l04Swap_any (A : Option Addr) (n c : Nat) (ws : List Int) (B : Option Addr) (N d : Nat) (ts : List Int) (w : World) (h : IntsAt w A n ws) (hy : IntsAt w B N ts) (hn : n = N * N) (hN1 : 1 ≤ N) (hN : N ≤ 10)
    (hw : ∀ j, j < n → 0 ≤ ws.getD j 0 ∧ ws.getD j 0 ≤ 1000) (ht : TourOk N ts) :
    Calls Try.prog 53 #[.slice A n c, .slice B N d] w fun e w' => ∃ (A' : Option Addr) (c' : Nat), e = .returned (.tuple #[.slice A' N c', .int .i64 ((swapV ws N ts).2 : Nat)]) ∧ OwnI 2 w.heap.size w' A' N c' (swapV ws N ts).1 ∧ Below w.heap.size w w' := by
  have HLW := Lib.hid (show ws.length = N * N by rw [h.len]; exact hn)
  have HWN := Lib.hid (show ∀ j, j < N * N → 0 ≤ ws.getD j 0 ∧ ws.getD j 0 ≤ 1000 from fun j hj => hw j (by rw [hn]; exact hj))
  have HW := Lib.hid hw
  have HN := Lib.hid hn
  have HS0 := Lib.hid (SwSt.zero hN1 hN HLW.out HWN.out ht)
  have he : OwnI 2 w.heap.size (w.alloc (.cells #[] 2)) (some ⟨w.heap.size, 0, none⟩) 0 0 [] := World.ownsRow_lit (e := 2) (base := w.heap.size) (size := 1) w #[] 0 (Nat.le_refl _) (Nat.zero_le _) rfl
  have hW : Below w.heap.size w (w.alloc (.cells #[] 2)) := (Below.refl _ _).alloc (Nat.le_refl _) _
  clear hw hn ht
  go_enter Try.func53, Try.ntmps53
  go_wp2_with (at_builtin; refine wp_append_ints _ rfl _ _ _ rfl 2 w.heap.size Try.underlying22 info64 _ 0 0 _ rfl he B N d ts rfl (hy.alloc _) (by omega) hW.size ?_; intro A' c' w1 o1 u1 b1 _; simp only [Nat.zero_add, List.nil_append] at o1)
  have hb := hW.trans b1
  clear u1 b1 he hW
  go_loopg [6, 7, 8] ((longTo ws ts N N).toNat * 11 + N) (fun r nv cv iv wr => ∃ (i cnt : Nat) (cur : List Int) (Q : Option Addr) (cq : Nat), r = (longTo ws cur N N).toNat * 11 + (N - i) ∧ i ≤ N ∧ nv = .slice Q N cq ∧ cv = .int .i64 cnt ∧ iv = .int .i64 i ∧ OwnI 2 w.heap.size wr Q N cq cur ∧ Below w.heap.size w wr ∧ Hid (SwSt ws N ts cur cnt) ∧ Hid (NoB ws N cur i (i + 1)))
  case atStart => exact ⟨0, 0, ts, A', c', rfl, Nat.zero_le _, rfl, rfl, rfl, o1, hb, HS0, Lib.hid (NoB.zero _ _ _)⟩
  case round =>
    clear o1 hb HS0
    obtain ⟨i, cnt, cur, Q, cq, hr, hi, rfl, rfl, rfl, oQ, hbw, HS, HB⟩ := hrel
    have HR := Lib.hid hr
    clear hr
    by_cases hlt : i < N
    · obtain ⟨wo, rfl⟩ : ∃ wo : World, wo = wr := ⟨_, rfl⟩
      go_wp2_with fail
      go_loopg [6, 7, 8, 9] (N - (i + 1)) (fun r nv cv iv kv wi => ∃ (k : Nat), r = N - k ∧ i < k ∧ k ≤ N ∧ nv = .slice Q N cq ∧ cv = .int .i64 cnt ∧ iv = .int .i64 i ∧ kv = .int .i64 k ∧ OwnI 2 w.heap.size wi Q N cq cur ∧ Below w.heap.size w wi ∧ Hid (NoB ws N cur i k))
      case atStart => exact ⟨i + 1, rfl, Nat.lt_succ_self _, by omega, rfl, rfl, rfl, by go_num, oQ, hbw, HB⟩
      case round =>
        clear oQ hbw HB
        obtain ⟨k, hr, hk1, hk2, rfl, rfl, rfl, rfl, oQ, hbw, HB⟩ := hrel
        have HRK := Lib.hid hr
        clear hr
        by_cases hlk : k < N
        · go_wp2_with fail
          refine (l04Turned_any Q N cq cur i k _ oQ.ints hN hk1 hlk).mono ?_
          rintro e w4 ⟨X, cx, rfl, oX, b4⟩
          replace oX := OwnI.low oX hbw.size
          replace oQ := OwnI.below oQ b4
          replace hbw := below_ext hbw hbw.size b4
          have HTX := Lib.hid (HS.out.1.turn i hlk).2
          have HTC := Lib.hid HS.out.1.2
          clear b4
          go_wp2_with fail
          refine (l04Long_any A n c ws X N cx _ _ (h.below hbw) oX.ints HN.out hN1 hN HW.out HTX.out).mono ?_
          rintro e w5 ⟨rfl, b5⟩
          replace oX := OwnI.below oX b5
          replace oQ := OwnI.below oQ b5
          replace hbw := below_ext hbw hbw.size b5
          clear b5
          go_wp2_with fail
          refine (l04Long_any A n c ws Q N cq _ _ (h.below hbw) oQ.ints HN.out hN1 hN HW.out HTC.out).mono ?_
          rintro e w6 ⟨rfl, b6⟩
          replace oX := OwnI.below oX b6
          replace oQ := OwnI.below oQ b6
          replace hbw := below_ext hbw hbw.size b6
          clear b6
          by_cases hless : longTo ws (turnT cur i k) N N < longTo ws cur N N
          · have HSN := Lib.hid (SwSt.next HLW.out HWN.out HS.out HB.out hk1 hlk hless)
            have hc1 : (cnt : Int) + 1 ≤ 10000 := by have := HSN.out.2.2.2.1; have := HSN.out.2.2.2.2; omega
            have HM := Lib.hid (show (longTo ws (turnT cur i k) N N).toNat * 11 + (N - 0) < (longTo ws cur N N).toNat * 11 + (N - i) by have := HSN.out.2.2.2.2; omega)
            go_wp2_with fail
            go_roundg ((longTo ws (turnT cur i k) N N).toNat * 11 + (N - 0))
            case measure => rw [HR.out]; exact HM.out
            case rel => exact ⟨0, cnt + 1, turnT cur i k, X, cx, rfl, Nat.zero_le _, rfl, by go_num, by go_num, oX, hbw, HSN, Lib.hid (NoB.zero _ _ _)⟩
          · have HBN := Lib.hid (NoB.next HB.out (show lessB ws N cur i k = false from by unfold lessB; exact decide_eq_false hless))
            go_wp2_with fail
            go_roundg (N - (k + 1))
            case measure => rw [HRK.out]; omega
            case rel => exact ⟨k + 1, rfl, by omega, by omega, rfl, rfl, rfl, by go_num, oQ, hbw, HBN⟩
        · have HBR := Lib.hid (NoB.row HB.out (show N ≤ k by omega))
          go_wp2_with fail
          go_roundg ((longTo ws cur N N).toNat * 11 + (N - (i + 1)))
          case measure => rw [HR.out]; omega
          case rel => exact ⟨i + 1, cnt, cur, Q, cq, rfl, hlt, rfl, rfl, by go_num, oQ, hbw, HS, HBR⟩
    · have HD := Lib.hid (SwSt.done HS.out (NoB.all HB.out (show N ≤ i by omega)))
      have e1 := HD.out.1
      rw [e1] at oQ
      clear e1
      go_wp2_with fail
      go_ret2
      exact ⟨Q, cq, ret_LIsw HD.out.2, oQ, hbw⟩
end Go.Proofs.Ytnliekbckdbaaaa
