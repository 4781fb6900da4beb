/- Tours made shorter by parts turned around: the program's search. -/
import Derived.Test.YtnliekbckdbaaaaSwap
namespace Go.Proofs.Ytnliekbckdbaaaa
open Go.RowKit

/-- how the search stands: nothing found before the pair (i, k), or a shorter tour found -/
def SwIn (ws : List Int) (N : Nat) (ts cur : List Int) (cnt i k : Nat) (bt : Bool) (cur2 : List Int) (cnt2 : Nat) : Prop :=
  if bt = true then SwSt ws N ts cur2 cnt2 ∧ longTo ws cur2 N N < longTo ws cur N N else cur2 = cur ∧ cnt2 = cnt ∧ NoB ws N cur i k
theorem SwIn.no {ws : List Int} {N : Nat} {ts cur : List Int} {cnt i k : Nat} (h : NoB ws N cur i k) : SwIn ws N ts cur cnt i k false cur cnt := ⟨rfl, rfl, h⟩
theorem SwIn.yes {ws : List Int} {N : Nat} {ts cur cur2 : List Int} {cnt cnt2 i k : Nat} (h : SwSt ws N ts cur2 cnt2) (h2 : longTo ws cur2 N N < longTo ws cur N N) : SwIn ws N ts cur cnt i k true cur2 cnt2 := ⟨h, h2⟩
theorem SwIn.ofNo {ws : List Int} {N : Nat} {ts cur cur2 : List Int} {cnt cnt2 i k : Nat} (h : SwIn ws N ts cur cnt i k false cur2 cnt2) : cur2 = cur ∧ cnt2 = cnt ∧ NoB ws N cur i k := h
theorem SwIn.ofYes {ws : List Int} {N : Nat} {ts cur cur2 : List Int} {cnt cnt2 i k : Nat} (h : SwIn ws N ts cur cnt i k true cur2 cnt2) : SwSt ws N ts cur2 cnt2 ∧ longTo ws cur2 N N < longTo ws cur N N := h

set_option maxRecDepth 100000 in
set_option maxHeartbeats 3200000 in
theorem shortened_any (A : Option Addr) (n c : Nat) (ws : List Int) (B : Option Addr) (N d : Nat) (ts : List Int) (w : World) (h : IntsAt w A n ws) (hy : IntsAt w B N ts) (hn : n = N * N) (hN1 : 1 ≤ N) (hN : N ≤ 10)
    (hw : ∀ j, j < n → 0 ≤ ws.getD j 0 ∧ ws.getD j 0 ≤ 1000) (ht : TourOk N ts) :
    Calls Try.prog 55 #[.slice A n c, .slice B N d, .bool true, .func (.func 56) #[] #[]] w fun e w' => ∃ (A' : Option Addr) (c' : Nat), e = .returned (.tuple #[.slice A' N c', .int .i64 ((swapV ws N ts).2 : Nat)]) ∧ OwnI 2 w.heap.size w' A' N c' (swapV ws N ts).1 ∧ Below w.heap.size w w' := by
  have HLW := Lib.hid (show ws.length = N * N by rw [h.len]; exact hn)
  have HWN := Lib.hid (show ∀ j, j < N * N → 0 ≤ ws.getD j 0 ∧ ws.getD j 0 ≤ 1000 from fun j hj => hw j (by rw [hn]; exact hj))
  have HW := Lib.hid hw
  have HN := Lib.hid hn
  have HS0 := Lib.hid (SwSt.zero hN1 hN HLW.out HWN.out ht)
  clear hw hn ht
  go_enter Try.func55, Try.ntmps55
  go_wp2_with fail
  refine (copyInts_any B N d ts _ hy (by omega)).mono ?_
  rintro e w1 ⟨A', c', rfl, o1, hb⟩
  go_wp2_with fail
  go_loopg [10, 11, 12] ((longTo ws ts N N).toNat + 1) (fun r nv cv bv wr => ∃ (cnt : Nat) (cur : List Int) (Q : Option Addr) (cq : Nat) (bt : Bool), r = (longTo ws cur N N).toNat + bt.toNat ∧ nv = .slice Q N cq ∧ cv = .int .i64 cnt ∧ bv = .bool bt ∧ OwnI 2 w.heap.size wr Q N cq cur ∧ Below w.heap.size w wr ∧ Hid (SwSt ws N ts cur cnt) ∧ Hid (bt = false → NoB ws N cur N 0))
  case atStart => exact ⟨0, ts, A', c', true, rfl, rfl, rfl, rfl, o1, hb, HS0, Lib.hid (fun e => by cases e)⟩
  case round =>
    clear o1 hb HS0
    obtain ⟨cnt, cur, Q, cq, bt, hr, rfl, rfl, rfl, oQ, hbw, HS, HB⟩ := hrel
    have HR := Lib.hid hr
    clear hr
    cases bt
    · have HD := Lib.hid (SwSt.done HS.out (HB.out rfl))
      have e1 := HD.out.1
      rw [e1] at oQ
      clear e1
      go_wp2_with fail
      go_ret2
      exact ⟨Q, cq, ret_LIsw HD.out.2, oQ, hbw⟩
    · clear HB
      obtain ⟨wo, rfl⟩ : ∃ wo : World, wo = wr := ⟨_, rfl⟩
      go_wp2_with fail
      go_loopg [10, 11, 12, 13] (N + 1) (fun r nv cv bv iv wi => ∃ (i cnt2 : Nat) (cur2 : List Int) (Q2 : Option Addr) (cq2 : Nat) (bt : Bool), r = cond bt 0 (N - i + 1) ∧ i ≤ N ∧ nv = .slice Q2 N cq2 ∧ cv = .int .i64 cnt2 ∧ bv = .bool bt ∧ iv = .int .i64 i ∧ OwnI 2 w.heap.size wi Q2 N cq2 cur2 ∧ Below w.heap.size w wi ∧ Hid (SwIn ws N ts cur cnt i (i + 1) bt cur2 cnt2))
      case atStart => exact ⟨0, cnt, cur, Q, cq, false, rfl, Nat.zero_le _, rfl, rfl, rfl, rfl, oQ, hbw, Lib.hid (SwIn.no (NoB.zero _ _ _))⟩
      case round =>
        clear oQ hbw
        obtain ⟨i, cnt2, cur2, Q2, cq2, bt, hr, hi, rfl, rfl, rfl, rfl, oQ, hbw, HI⟩ := hrel
        have HRI := Lib.hid hr
        clear hr
        cases bt
        · obtain ⟨e1, e2, HB0⟩ := HI.out.ofNo
          subst e1 e2
          have HB := Lib.hid HB0
          clear HB0 HI
          by_cases hlt : i < N
          · obtain ⟨wo2, rfl⟩ : ∃ wo2 : World, wo2 = wr := ⟨_, rfl⟩
            go_wp2_with fail
            go_loopg [10, 11, 12, 15] (N - (i + 1) + 1) (fun r nv cv bv kv wi => ∃ (k cnt3 : Nat) (cur3 : List Int) (Q3 : Option Addr) (cq3 : Nat) (bt : Bool), r = cond bt 0 (N - k + 1) ∧ i < k ∧ k ≤ N ∧ nv = .slice Q3 N cq3 ∧ cv = .int .i64 cnt3 ∧ bv = .bool bt ∧ kv = .int .i64 k ∧ OwnI 2 w.heap.size wi Q3 N cq3 cur3 ∧ Below w.heap.size w wi ∧ Hid (SwIn ws N ts cur2 cnt2 i k bt cur3 cnt3))
            case atStart => exact ⟨i + 1, cnt2, cur2, Q2, cq2, false, rfl, Nat.lt_succ_self _, by omega, rfl, rfl, rfl, by go_num, oQ, hbw, Lib.hid (SwIn.no HB.out)⟩
            case round =>
              clear oQ hbw HB
              obtain ⟨k, cnt3, cur3, Q3, cq3, bt, hr, hk1, hk2, rfl, rfl, rfl, rfl, oQ, hbw, HK⟩ := hrel
              have HRK := Lib.hid hr
              clear hr
              cases bt
              · obtain ⟨e1, e2, HB0⟩ := HK.out.ofNo
                subst e1 e2
                have HB := Lib.hid HB0
                clear HB0 HK
                by_cases hlk : k < N
                · have d1 : ((k : Int) == (i : Int)) = false := by rw [beq_eq_false_iff_ne]; omega
                  go_wp2_with fail
                  refine (swapped_any Q3 N cq3 cur3 i k _ oQ.ints hN hk1 hlk).mono ?_
                  rintro e w4 ⟨X, cx, rfl, oX, b4⟩
                  replace oX := OwnI.low oX hbw.size
                  replace oQ := OwnI.below oQ b4
                  replace hbw := below_ext hbw hbw.size b4
                  have HTX := Lib.hid (HS.out.1.turn i hlk).2
                  have HTC := Lib.hid HS.out.1.2
                  clear b4
                  go_wp2_with fail
                  refine (tourLong_any A n c ws X N cx _ _ (h.below hbw) oX.ints HN.out hN1 hN HW.out HTX.out).mono ?_
                  rintro e w5 ⟨rfl, b5⟩
                  replace oX := OwnI.below oX b5
                  replace oQ := OwnI.below oQ b5
                  replace hbw := below_ext hbw hbw.size b5
                  clear b5
                  go_wp2_with fail
                  refine (tourLong_any A n c ws Q3 N cq3 _ _ (h.below hbw) oQ.ints HN.out hN1 hN HW.out HTC.out).mono ?_
                  rintro e w6 ⟨rfl, b6⟩
                  replace oX := OwnI.below oX b6
                  replace oQ := OwnI.below oQ b6
                  replace hbw := below_ext hbw hbw.size b6
                  clear b6
                  by_cases hless : longTo ws (turnT cur3 i k) N N < longTo ws cur3 N N
                  · have HSN := Lib.hid (SwSt.next HLW.out HWN.out HS.out HB.out hk1 hlk hless)
                    have hc1 : (cnt3 : Int) + 1 ≤ 10000 := by have := HSN.out.2.2.2.1; have := HSN.out.2.2.2.2; omega
                    have HLS := Lib.hid hless
                    go_wp2_with fail
                    go_roundg 0
                    case measure => rw [HRK.out]; show 0 < N - k + 1; omega
                    case rel => exact ⟨k + 1, cnt3 + 1, turnT cur3 i k, X, cx, true, rfl, by omega, by omega, rfl, by go_num, rfl, by go_num, oX, hbw, Lib.hid (SwIn.yes HSN.out HLS.out)⟩
                  · have HBN := Lib.hid (NoB.next HB.out (show lessB ws N cur3 i k = false from by unfold lessB; exact decide_eq_false hless))
                    go_wp2_with fail
                    go_roundg (N - (k + 1) + 1)
                    case measure => rw [HRK.out]; show N - (k + 1) + 1 < N - k + 1; omega
                    case rel => exact ⟨k + 1, cnt3, cur3, Q3, cq3, false, rfl, by omega, by omega, rfl, rfl, rfl, by go_num, oQ, hbw, Lib.hid (SwIn.no HBN.out)⟩
                · have HBR := Lib.hid (NoB.row HB.out (show N ≤ k by omega))
                  go_wp2_with fail
                  go_roundg (N - (i + 1) + 1)
                  case measure => rw [HRI.out]; show N - (i + 1) + 1 < N - i + 1; omega
                  case rel => exact ⟨i + 1, cnt3, cur3, Q3, cq3, false, rfl, hlt, rfl, rfl, rfl, by go_num, oQ, hbw, Lib.hid (SwIn.no HBR.out)⟩
              · by_cases hlk : k < N
                · go_wp2_with fail
                  go_roundg 0
                  case measure => rw [HRI.out]; show 0 < N - i + 1; omega
                  case rel => exact ⟨i + 1, cnt3, cur3, Q3, cq3, true, rfl, hlt, rfl, rfl, rfl, by go_num, oQ, hbw, Lib.hid (SwIn.yes HK.out.ofYes.1 HK.out.ofYes.2)⟩
                · go_wp2_with fail
                  go_roundg 0
                  case measure => rw [HRI.out]; show 0 < N - i + 1; omega
                  case rel => exact ⟨i + 1, cnt3, cur3, Q3, cq3, true, rfl, hlt, rfl, rfl, rfl, by go_num, oQ, hbw, Lib.hid (SwIn.yes HK.out.ofYes.1 HK.out.ofYes.2)⟩
          · have HBA := Lib.hid (NoB.all HB.out (show N ≤ i by omega))
            go_wp2_with fail
            go_roundg ((longTo ws cur2 N N).toNat + 0)
            case measure => rw [HR.out]; exact Nat.lt_succ_self _
            case rel => exact ⟨cnt2, cur2, Q2, cq2, false, rfl, rfl, rfl, rfl, oQ, hbw, HS, Lib.hid (fun _ => HBA.out)⟩
        · have HY := Lib.hid HI.out.ofYes
          have HM := Lib.hid (show (longTo ws cur2 N N).toNat + 1 < (longTo ws cur N N).toNat + 1 by have := HY.out.2; have := HY.out.1.2.2.2.2; omega)
          by_cases hlt : i < N
          · go_wp2_with fail
            go_roundg ((longTo ws cur2 N N).toNat + 1)
            case measure => rw [HR.out]; exact HM.out
            case rel => exact ⟨cnt2, cur2, Q2, cq2, true, rfl, rfl, rfl, rfl, oQ, hbw, Lib.hid HY.out.1, Lib.hid (fun e => by cases e)⟩
          · go_wp2_with fail
            go_roundg ((longTo ws cur2 N N).toNat + 1)
            case measure => rw [HR.out]; exact HM.out
            case rel => exact ⟨cnt2, cur2, Q2, cq2, true, rfl, rfl, rfl, rfl, oQ, hbw, Lib.hid HY.out.1, Lib.hid (fun e => by cases e)⟩
end Go.Proofs.Ytnliekbckdbaaaa
