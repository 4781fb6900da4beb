/- The program's SolveRows (printed by gen_rowsol.py). -/
import Derived.Test.YtckfmemjcjhaaaaRowI
import Derived.Test.YtckfmemjcjhaaaaRowR
namespace Go.Proofs.Ytckfmemjcjhaaaa
open Go.RowKit

set_option maxRecDepth 100000 in
set_option maxHeartbeats 1000000 in
theorem implSolveRows_r (v : Int) (A : Option Addr) (n c : Nat) (ns : List Nat) (B : Option Addr) (m d : Nat) (bs : List Nat) (G : Option Addr) (p g : Nat) (gs : List Nat) (most : Int) (near : Nat) (w : World) (hN : FltsAt w A n ns) (hB : FltsAt w B m bs) (hG : FltsAt w G p gs) (hn : n ≤ maxLen) (hm : m ≤ maxLen) (hp : p ≤ maxLen) (hcap : n ≤ c ∧ c ≤ maxLen) :
    Calls Try.prog 30 #[.agg #[.int .i64 v, .slice A n c, .slice B m d, .slice G p g], .int .i64 most, .float .f32 near] w (RetFFb (srA v (bestS v ns bs gs most near)) (srB v (bestS v ns bs gs most near)) (bestS v ns bs gs most near).isSome w) := by
  have HLB := Lib.hid hB.len
  obtain ⟨W0, hW0⟩ : ∃ W0, W0 = w.alloc (.cells #[.int .i64 v, .slice A n c, .slice B m d, .slice G p g] 43) := ⟨_, rfl⟩
  have KA := Lib.hid (show Blk W0 w.heap.size 43 #[.int .i64 v, .slice A n c, .slice B m d, .slice G p g] by rw [hW0]; exact Blk.new w _ _)
  have hW : Below w.heap.size w W0 := by rw [hW0]; exact (Below.refl _ _).alloc (Nat.le_refl _) _
  have HSD := Lib.hid (solved_r v A n c ns B m d bs G p g gs most near W0 (hN.below hW) (hB.below hW) (hG.below hW) hn hm hp hcap)
  have HIV := Lib.hid (fun M a b (h : bestS v ns bs gs ((M : Nat) : Int) near = some (a, b)) => bestS_inv h)
  have HMN := Lib.hid (fun (h : ¬ 0 ≤ most) => show bestS v ns bs gs most near = none from bestS_no (rowS_no (by unfold rowOk; cases hi : inB most 0 64 with | false => simp | true => exact absurd (inB_iff.1 hi).1 h)))
  have HW0 := Lib.hid hW0
  clear hN hB hG hW0 hcap
  cases hs : bestS v ns bs gs most near with
  | none =>
    have p0 := KA.out.cell 0
    have p1 := KA.out.cell 1
    have p2 := KA.out.cell 2
    have p3 := KA.out.cell 3
    rw [HW0.out] at p0 p1 p2 p3
    go_enter Try.func30, Try.ntmps30
    go_wp2_with fail
    rw [← HW0.out]
    clear p0 p1 p2 p3 HW0
    refine HSD.out.mono ?_
    rw [hs]
    rintro e w1 ⟨b1, x, N, nn, cn, Q, qn, cq, rfl⟩
    have hW1 := below_ext hW hW.size b1
    have hW2 := hW1.alloc hW1.size (.cells #[.int .i64 x, .slice N nn cn, .slice Q qn cq] 27)
    go_wp2_with fail
    go_ret3
    exact nilFFb _ _ _ hW2
  | some s =>
    obtain ⟨a, b⟩ := s
    have h0 : 0 ≤ most := by
      by_cases h : 0 ≤ most
      · exact h
      · rw [HMN.out h] at hs; cases hs
    obtain ⟨M, rfl⟩ := Int.eq_ofNat_of_zero_le h0
    obtain ⟨V, rfl, hV, hm8, hto, hlb⟩ := HIV.out M a b hs
    have p0 := KA.out.cell 0
    have p1 := KA.out.cell 1
    have p2 := KA.out.cell 2
    have p3 := KA.out.cell 3
    rw [HW0.out] at p0 p1 p2 p3
    go_enter Try.func30, Try.ntmps30
    go_wp2_with fail
    rw [← HW0.out]
    clear p0 p1 p2 p3 HW0
    refine HSD.out.mono ?_
    rw [hs]
    rintro e w1 ⟨b1, N, nn, cn, Q, qn, cq, rfl, oN, oQ⟩
    clear hs HMN HIV
    have HLQ := Lib.hid (show qn = bs.length by rw [← oQ.len, hlb])
    have HNN := Lib.hid (show nn = (qn + 1) * (V + qn + 1) by rw [← oN.len, hto.1, ← oQ.len])
    have HBP := Lib.hid (fun j (hj : j < qn) => show ∃ x : Nat, b.getD j 0 = (x : Int) from by obtain ⟨x, h1, _⟩ := basOk_in hto.2 (show j < b.length by rw [oQ.len]; exact hj); exact ⟨x, h1⟩)
    have HQ8 := Lib.hid (show qn ≤ 8 ∧ b.length = qn from ⟨by rw [HLQ.out]; exact hm8.2, oQ.len⟩)
    have hW1 := below_ext hW hW.size b1
    have hW2 := hW1.alloc hW1.size (.cells #[.int .i64 V, .slice N nn cn, .slice Q qn cq] 27)
    have KO := Lib.hid (Blk.new w1 27 #[.int .i64 V, .slice N nn cn, .slice Q qn cq])
    have HFN := Lib.hid (oN.flts.alloc (.cells #[.int .i64 V, .slice N nn cn, .slice Q qn cq] 27))
    have HIQ := Lib.hid (oQ.ints.alloc (.cells #[.int .i64 V, .slice N nn cn, .slice Q qn cq] 27))
    have HPL := Lib.hid (fun (w : World) hN hB => plan_any V N nn cn a Q qn cq b w hN hB hV.2 HQ8.out.1 HNN.out HBP.out)
    have HPR := Lib.hid (fun (w : World) hN => prices_any V N nn cn a Q qn cq w hN hV.2 HQ8.out.1 HNN.out)
    have HSB := Lib.hid (show srB (V : Int) (some (a, b)) = pricesUp V qn a qn by show pricesUp _ _ a _ = _; rw [HQ8.out.2]; simp only [Int.toNat_natCast])
    have HSA := Lib.hid (show srA (V : Int) (some (a, b)) = planT V a b from rfl)
    clear oN oQ hto hlb b1 hm8
    go_upto_region 4 with (fail)
    generalize w1.alloc (.cells #[.int .i64 V, .slice N nn cn, .slice Q qn cq] 27) = W1 at *
    generalize w1.heap.size = gO at *
    have p0 := KO.out.cell 0
    have p1 := KO.out.cell 1
    have p2 := KO.out.cell 2
    have q0 := KO.out.drew.cell 0
    have q1 := KO.out.drew.cell 1
    have q2 := KO.out.drew.cell 2
    have hbd := Below.drew (Below.refl W1.heap.size W1)
    go_region_with (first
      | (go_at_call 66; refine (HPL.out _ ((HFN.out.drew.below b6)) ((HIQ.out.drew.below b6))).mono ?_; rintro e w5 ⟨A5, c5, rfl, o5, b5⟩)
      | (go_at_call 66; refine (HPL.out _ HFN.out.drew HIQ.out.drew).mono ?_; rintro e w5 ⟨A5, c5, rfl, o5, b5⟩; have r0 := (KO.out.drew.ext b5).cell 0; have r1 := (KO.out.drew.ext b5).cell 1; have r2 := (KO.out.drew.ext b5).cell 2)
      | (go_at_call 67; refine (HPR.out _ ((HFN.out.drew.below b5))).mono ?_; rintro e w6 ⟨A6, c6, rfl, o6, b6⟩)
      | (go_at_call 67; refine (HPR.out _ HFN.out.drew).mono ?_; rintro e w6 ⟨A6, c6, rfl, o6, b6⟩; have r0 := (KO.out.drew.ext b6).cell 0; have r1 := (KO.out.drew.ext b6).cell 1; have r2 := (KO.out.drew.ext b6).cell 2))
    all_goals
      go_wp2_with fail
      go_ret3
      rw [HSA.out, HSB.out]
      have hd2 := below_ext hW2 hW2.size hbd
      first
        | (have hx5 := below_ext hd2 hd2.size b5; exact ⟨A5, _, c5, A6, _, c6, rfl, OwnF.low (OwnF.below o5 b6) hd2.size, OwnF.low o6 hx5.size, sepFF o5 o6, below_ext hx5 hx5.size b6⟩)
        | (have hx6 := below_ext hd2 hd2.size b6; exact ⟨A5, _, c5, A6, _, c6, rfl, OwnF.low o5 hx6.size, OwnF.low (OwnF.below o6 b5) hd2.size, (sepFF o6 o5).symm, below_ext hx6 hx6.size b5⟩)
end Go.Proofs.Ytckfmemjcjhaaaa
