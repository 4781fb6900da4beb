/- The reference's l02Can, l02Best, l02Solve, SolveRows (printed by gen_rowsol.py). -/
import Derived.Test.YtckfmemjcjhaaaaPlanS
import Derived.Test.YtckfmemjcjhaaaaSolU
import Derived.Test.YtckfmemjcjhaaaaTabS
import Derived.Test.YtckfmemjcjhaaaaRowR
namespace Go.Proofs.Ytckfmemjcjhaaaa
open Go.RowKit

set_option maxRecDepth 100000 in
set_option maxHeartbeats 1000000 in
theorem l02Can_any (gr : Nat) (v : Int) (A : Option Addr) (n c : Nat) (ns : List Nat) (B : Option Addr) (m d : Nat) (bs : List Nat) (G : Option Addr) (p g : Nat) (gs : List Nat) (most : Int) (near : Nat) (w : World) (KX : Blk w gr 43 #[.int .i64 v, .slice A n c, .slice B m d, .slice G p g]) (hN : FltsAt w A n ns) (hB : FltsAt w B m bs) (hG : FltsAt w G p gs) (hn : n ≤ maxLen) (hm : m ≤ maxLen) (hp : p ≤ maxLen) :
    Calls Try.prog 54 #[.pointer (some ⟨gr, 0, none⟩), .int .i64 most, .float .f32 near] w fun e w' => e = .returned (.bool (rowOk v ns bs gs most near)) ∧ Drew w w' := by
  have HIS := Lib.hid (l02Is_any gr v A n c ns B m d bs G p g gs w KX hN hB hG hn hm hp)
  have HMO := Lib.hid (fun (w : World) => l02Most_any most w)
  have HNE := Lib.hid (fun (w : World) => l02Least_any near w)
  have HR := Lib.hid (show rowOk v ns bs gs most near = (rowsB v ns bs gs && (inB most 0 64 && leastO (absK .f32 near))) from rfl)
  clear hN hB hG KX
  cases h1 : rowsB v ns bs gs
  · rw [h1] at HIS HR
    go_enter Try.func54, Try.ntmps54
    go_wp2_with fail
    refine HIS.out.mono ?_
    rintro e w1 ⟨rfl, d1⟩
    go_wp2_with fail
    go_ret
    exact ⟨ret_bool (by rw [HR.out]; rfl), d1⟩
  · rw [h1] at HIS HR
    cases h2 : inB most 0 64
    · rw [h2] at HMO HR
      go_enter Try.func54, Try.ntmps54
      go_wp2_with fail
      refine HIS.out.mono ?_
      rintro e w1 ⟨rfl, d1⟩
      go_wp2_with fail
      refine (HMO.out _).mono ?_
      rintro e w2 ⟨rfl, rfl⟩
      go_wp2_with fail
      go_ret
      exact ⟨ret_bool (by rw [HR.out]; rfl), d1⟩
    · rw [h2] at HMO HR
      go_enter Try.func54, Try.ntmps54
      go_wp2_with fail
      refine HIS.out.mono ?_
      rintro e w1 ⟨rfl, d1⟩
      go_wp2_with fail
      refine (HMO.out _).mono ?_
      rintro e w2 ⟨rfl, rfl⟩
      go_wp2_with fail
      refine (HNE.out _).mono ?_
      rintro e w3 ⟨rfl, d3⟩
      go_wp2_with fail
      go_ret
      exact ⟨ret_bool (by rw [HR.out]; rfl), d1.trans d3⟩
set_option maxRecDepth 100000 in
set_option maxHeartbeats 1000000 in
theorem l02Best_any (gr V : Nat) (A : Option Addr) (n c : Nat) (ns : List Nat) (B : Option Addr) (m d : Nat) (bs : List Nat) (G : Option Addr) (p g : Nat) (gs : List Nat) (M near : Nat) (w : World) (KX : Blk w gr 43 #[.int .i64 V, .slice A n c, .slice B m d, .slice G p g]) (hN : FltsAt w A n ns) (hB : FltsAt w B m bs) (hG : FltsAt w G p gs) (hok : rowOk V ns bs gs M near = true) :
    Calls Try.prog 59 #[.pointer (some ⟨gr, 0, none⟩), .int .i64 M, .float .f32 near] w (RetSdS V (bestS V ns bs gs M near) w) := by
  have HLB := Lib.hid hB.len
  have hrb : rowsB V ns bs gs = true := by unfold rowOk at hok; rw [Bool.and_eq_true] at hok; exact hok.1
  have hM : M ≤ 64 := by unfold rowOk at hok; rw [Bool.and_eq_true, Bool.and_eq_true] at hok; have := (inB_iff.1 hok.2.1).2; omega
  obtain ⟨V2, hVV, hV, hm8, hnn, hpp⟩ := rows_bd hrb
  have hVV2 : V = V2 := by omega
  subst hVV2
  rw [HLB.out] at hm8 hnn
  rw [hN.len] at hnn
  rw [hG.len] at hpp
  obtain ⟨W0, hW0⟩ : ∃ W0, W0 = w.alloc (.cells #[.int .i64 0, .slice none 0 0, .slice none 0 0] 27) := ⟨_, rfl⟩
  have KR := Lib.hid (show Blk W0 w.heap.size 27 #[.int .i64 0, .slice none 0 0, .slice none 0 0] by rw [hW0]; exact Blk.new w _ _)
  have hW : Below w.heap.size w W0 := by rw [hW0]; exact (Below.refl _ _).alloc (Nat.le_refl _) _
  have HTO := Lib.hid (l02TableOf_any gr V m A n c ns B d bs G p g gs W0 (KX.ext hW) (hN.below hW) (hB.below hW) (hG.below hW) hV hm8 hnn hpp)
  have HRS := Lib.hid (rowS_yes hok)
  rw [HLB.out] at HRS
  have HSO := Lib.hid (fun g A n c B d (w' : World) KX hN hB hn => l02Solved_any g V A n c (tabT V m ns bs gs (m + 1)) B m d (seqI V m) M near w' KX hN hB hV hm8 hn hM)
  have HW0 := Lib.hid hW0
  obtain ⟨o, ho⟩ : ∃ o, o = bestS V ns bs gs M near := ⟨_, rfl⟩
  have HO := Lib.hid ho
  rw [← ho]
  clear hN hB hG hW0 hok hrb hVV hnn hpp ho KX
  go_enter Try.func59, Try.ntmps59
  go_wp2_with fail
  rw [← HW0.out]
  clear HW0
  refine HTO.out.mono ?_
  rintro e w1 ⟨N, nn, cn, Q, cq, rfl, oN, oQ, b1⟩
  have hW1 := below_ext hW hW.size b1
  have hW2 := hW1.alloc hW1.size (.cells #[.int .i64 V, .slice N nn cn, .slice Q m cq] 27)
  have KR1 := Lib.hid ((KR.out.ext b1).alloc (.cells #[.int .i64 V, .slice N nn cn, .slice Q m cq] 27))
  have HNN := Lib.hid (show nn = (m + 1) * (V + m + 1) by rw [← oN.len, tabT_len])
  have HS := Lib.hid (HSO.out w1.heap.size N nn cn Q cq (w1.alloc (.cells #[.int .i64 V, .slice N nn cn, .slice Q m cq] 27)) (Blk.new w1 _ _) (oN.flts.alloc (.cells #[.int .i64 V, .slice N nn cn, .slice Q m cq] 27)) (oQ.ints.alloc (.cells #[.int .i64 V, .slice N nn cn, .slice Q m cq] 27)) HNN.out)
  clear oN oQ b1 KR HSO
  go_wp2_with fail
  generalize w1.alloc (.cells #[.int .i64 V, .slice N nn cn, .slice Q m cq] 27) = W1 at *
  generalize w1.heap.size = gO at *
  refine HS.out.mono ?_
  cases hs : solveT V near M 0 (tabT V m ns bs gs (m + 1)) (seqI V m) with
  | none =>
    have HF := Lib.hid (show o = none by rw [HO.out]; exact bestS_no (by rw [HRS.out]; exact hs))
    rintro e w6 ⟨b6, rfl⟩
    have hW6 := below_ext hW2 hW2.size b6
    have hW7 := hW6.alloc hW6.size (.cells #[.int .i64 0, .slice none 0 0, .slice none 0 0] 27)
    have KR7 := (KR1.out.ext b6).alloc (.cells #[.int .i64 0, .slice none 0 0, .slice none 0 0] 27)
    have KO := Blk.new w6 27 #[.int .i64 0, .slice none 0 0, .slice none 0 0]
    have p0 := KO.cell 0
    have p1 := KO.cell 1
    have p2 := KO.cell 2
    have k0 := KR7.cell 0
    have k1 := KR7.cell 1
    have k2 := KR7.cell 2
    have l0 := KR7.free 0
    have l1 := KR7.free 1
    have l2 := KR7.free 2
    go_wp2_with fail
    refine bodyPost_ret (v := .tuple #[.agg #[.int .i64 0, .slice none 0 0, .slice none 0 0], .bool false]) (by simp [results, Try.results59, go_sem, k0, k1, k2]) rfl ?_
    rw [HF.out]
    exact ⟨zero_set hW7 (Nat.le_refl _) _ _ _, _, _, _, _, _, _, _, rfl⟩
  | some s =>
    obtain ⟨a, b, cnt, col⟩ := s
    have HF0 := Lib.hid (show o = if col < 0 then some (a, b) else none by rw [HO.out]; exact bestS_of (by rw [HRS.out]; exact hs))
    have HINV := Lib.hid (rowS_inv (show rowS V ns bs gs M near = some (a, b, cnt, col) by rw [HRS.out]; exact hs))
    clear hs
    rintro e w6 ⟨b6, A6, n6, c6, B6, m6, d6, rfl, o6, q6⟩
    have hW6 := below_ext hW2 hW2.size b6
    have hW7 := hW6.alloc hW6.size (.cells #[.int .i64 V, .slice A6 n6 c6, .slice B6 m6 d6] 27)
    have KR7 := (KR1.out.ext b6).alloc (.cells #[.int .i64 V, .slice A6 n6 c6, .slice B6 m6 d6] 27)
    have KO := Blk.new w6 27 #[.int .i64 V, .slice A6 n6 c6, .slice B6 m6 d6]
    have p0 := KO.cell 0
    have p1 := KO.cell 1
    have p2 := KO.cell 2
    have k0 := KR7.cell 0
    have k1 := KR7.cell 1
    have k2 := KR7.cell 2
    have l0 := KR7.free 0
    have l1 := KR7.free 1
    have l2 := KR7.free 2
    have O6 := Lib.hid ((OwnF.low o6 hW2.size).alloc (.cells #[.int .i64 V, .slice A6 n6 c6, .slice B6 m6 d6] 27))
    have Q6 := Lib.hid ((OwnI.low q6 hW2.size).alloc (.cells #[.int .i64 V, .slice A6 n6 c6, .slice B6 m6 d6] 27))
    have HP6 := Lib.hid (show 0 < n6 ∧ 0 < m6 by rw [← O6.out.len, ← Q6.out.len, HINV.out.2.1.1, HINV.out.2.2.1, HLB.out]; exact ⟨Nat.mul_pos (by omega) (by omega), by omega⟩)
    have HK7 := Lib.hid KR7
    clear KR7 KO o6 q6
    by_cases hcol : col < 0
    · have HF := Lib.hid (show o = some (a, b) by rw [HF0.out, if_pos hcol])
      have hcd : decide (col < 0) = true := decide_eq_true hcol
      rw [hcd]
      go_wp2_with fail
      refine bodyPost_ret (v := .tuple #[.agg #[.int .i64 V, .slice A6 n6 c6, .slice B6 m6 d6], .bool true]) (by simp [results, Try.results59, go_sem, k0, k1, k2]) rfl ?_
      rw [HF.out]
      exact ⟨zero_set hW7 (Nat.le_refl _) _ _ _, A6, n6, c6, B6, m6, d6, rfl, ((O6.out.far (p := ⟨w.heap.size, 0, none⟩) (own_pos_ne O6.out HP6.out.1 HK7.out (by decide)) _).far (p := ⟨w.heap.size, 1, none⟩) (own_pos_ne O6.out HP6.out.1 HK7.out (by decide)) _).far (p := ⟨w.heap.size, 2, none⟩) (own_pos_ne O6.out HP6.out.1 HK7.out (by decide)) _, ((Q6.out.far (p := ⟨w.heap.size, 0, none⟩) (own_pos_neI Q6.out HP6.out.2 HK7.out (by decide)) _).far (p := ⟨w.heap.size, 1, none⟩) (own_pos_neI Q6.out HP6.out.2 HK7.out (by decide)) _).far (p := ⟨w.heap.size, 2, none⟩) (own_pos_neI Q6.out HP6.out.2 HK7.out (by decide)) _⟩
    · have HF := Lib.hid (show o = none by rw [HF0.out, if_neg hcol])
      have hcd : decide (col < 0) = false := decide_eq_false hcol
      rw [hcd]
      go_wp2_with fail
      refine bodyPost_ret (v := .tuple #[.agg #[.int .i64 V, .slice A6 n6 c6, .slice B6 m6 d6], .bool false]) (by simp [results, Try.results59, go_sem, k0, k1, k2]) rfl ?_
      rw [HF.out]
      exact ⟨zero_set hW7 (Nat.le_refl _) _ _ _, _, _, _, _, _, _, _, rfl⟩
set_option maxRecDepth 100000 in
set_option maxHeartbeats 1000000 in
theorem l02Solve_any (gr V : Nat) (A : Option Addr) (n c : Nat) (ns : List Nat) (B : Option Addr) (m d : Nat) (bs : List Nat) (G : Option Addr) (p g : Nat) (gs : List Nat) (M near : Nat) (w : World) (KX : Blk w gr 43 #[.int .i64 V, .slice A n c, .slice B m d, .slice G p g]) (hN : FltsAt w A n ns) (hB : FltsAt w B m bs) (hG : FltsAt w G p gs) (hok : rowOk V ns bs gs M near = true) :
    Calls Try.prog 65 #[.pointer (some ⟨gr, 0, none⟩), .int .i64 M, .float .f32 near] w (RetFFb (srA V (bestS V ns bs gs M near)) (srB V (bestS V ns bs gs M near)) (bestS V ns bs gs M near).isSome w) := by
  have HSD := Lib.hid (l02Best_any gr V A n c ns B m d bs G p g gs M near w KX hN hB hG hok)
  have HIV := Lib.hid (fun a b (h : bestS V ns bs gs M near = some (a, b)) => bestS_inv h)
  clear hN hB hG KX hok
  cases hs : bestS V ns bs gs M near with
  | none =>
    go_enter Try.func65, Try.ntmps65
    go_wp2_with fail
    refine HSD.out.mono ?_
    rw [hs]
    rintro e w1 ⟨b1, x, N, nn, cn, Q, qn, cq, rfl⟩
    have hW2 := b1.alloc b1.size (.cells #[.int .i64 x, .slice N nn cn, .slice Q qn cq] 27)
    go_wp2_with fail
    go_ret3
    exact nilFFb _ _ _ hW2
  | some s =>
    obtain ⟨a, b⟩ := s
    obtain ⟨V2, hVV, hV, hm8, hto, hlb⟩ := HIV.out a b hs
    have hVV2 : V = V2 := by omega
    subst hVV2
    go_enter Try.func65, Try.ntmps65
    go_wp2_with fail
    refine HSD.out.mono ?_
    rw [hs]
    rintro e w1 ⟨b1, N, nn, cn, Q, qn, cq, rfl, oN, oQ⟩
    clear hs HIV hVV
    have HLQ := Lib.hid (show qn = bs.length by rw [← oQ.len, hlb])
    have HNN := Lib.hid (show nn = (qn + 1) * (V + qn + 1) by rw [← oN.len, hto.1, ← oQ.len])
    have HBP := Lib.hid (fun j (hj : j < qn) => show ∃ x : Nat, b.getD j 0 = (x : Int) from by obtain ⟨x, h1, _⟩ := basOk_in hto.2 (show j < b.length by rw [oQ.len]; exact hj); exact ⟨x, h1⟩)
    have HQ8 := Lib.hid (show qn ≤ 8 ∧ b.length = qn from ⟨by rw [HLQ.out]; exact hm8.2, oQ.len⟩)
    have hW2 := b1.alloc b1.size (.cells #[.int .i64 V, .slice N nn cn, .slice Q qn cq] 27)
    have KO := Lib.hid (Blk.new w1 27 #[.int .i64 V, .slice N nn cn, .slice Q qn cq])
    have HFN := Lib.hid (oN.flts.alloc (.cells #[.int .i64 V, .slice N nn cn, .slice Q qn cq] 27))
    have HIQ := Lib.hid (oQ.ints.alloc (.cells #[.int .i64 V, .slice N nn cn, .slice Q qn cq] 27))
    have HPL := Lib.hid (fun gr (w : World) KX hN hB => l02Plan_any gr V N nn cn a Q qn cq b w KX hN hB hV.2 HQ8.out.1 HNN.out HBP.out)
    have HPR := Lib.hid (fun gr (w : World) KX hN => l02Prices_any gr V N nn cn a Q qn cq w KX hN hV.2 HQ8.out.1 HNN.out)
    have HSB := Lib.hid (show srB (V : Int) (some (a, b)) = pricesUp V qn a qn by show pricesUp _ _ a _ = _; rw [HQ8.out.2]; simp only [Int.toNat_natCast])
    have HSA := Lib.hid (show srA (V : Int) (some (a, b)) = planT V a b from rfl)
    clear oN oQ hto hlb b1 hm8
    go_upto_region 4 with (fail)
    generalize w1.alloc (.cells #[.int .i64 V, .slice N nn cn, .slice Q qn cq] 27) = W1 at *
    generalize w1.heap.size = gO at *
    go_wp2_with fail
    refine (HPL.out gO _ KO.out HFN.out HIQ.out).mono ?_
    rintro e w5 ⟨A5, c5, rfl, o5, b5⟩
    have hx5 := below_ext hW2 hW2.size b5
    go_wp2_with fail
    refine (HPR.out gO _ (KO.out.ext b5) (HFN.out.below b5)).mono ?_
    rintro e w6 ⟨A6, c6, rfl, o6, b6⟩
    go_wp2_with fail
    go_ret3
    rw [HSA.out, HSB.out]
    exact ⟨A5, _, c5, A6, _, c6, rfl, OwnF.low (OwnF.below o5 b6) hW2.size, OwnF.low o6 hx5.size, sepFF o5 o6, below_ext hx5 hx5.size b6⟩
set_option maxRecDepth 100000 in
set_option maxHeartbeats 1000000 in
theorem specSolveRows_r (v : Int) (A : Option Addr) (n c : Nat) (ns : List Nat) (B : Option Addr) (m d : Nat) (bs : List Nat) (G : Option Addr) (p g : Nat) (gs : List Nat) (most : Int) (near : Nat) (w : World) (hN : FltsAt w A n ns) (hB : FltsAt w B m bs) (hG : FltsAt w G p gs) (hn : n ≤ maxLen) (hm : m ≤ maxLen) (hp : p ≤ maxLen) :
    Calls Try.prog 29 #[.agg #[.int .i64 v, .slice A n c, .slice B m d, .slice G p g], .int .i64 most, .float .f32 near] w (RetFFb (srA v (bestS v ns bs gs most near)) (srB v (bestS v ns bs gs most near)) (bestS v ns bs gs most near).isSome w) := by
  obtain ⟨W0, hW0⟩ : ∃ W0, W0 = w.alloc (.cells #[.int .i64 v, .slice A n c, .slice B m d, .slice G p g] 43) := ⟨_, rfl⟩
  have KA := Lib.hid (show Blk W0 w.heap.size 43 #[.int .i64 v, .slice A n c, .slice B m d, .slice G p g] by rw [hW0]; exact Blk.new w _ _)
  have hW : Below w.heap.size w W0 := by rw [hW0]; exact (Below.refl _ _).alloc (Nat.le_refl _) _
  have HN := Lib.hid (hN.below hW)
  have HB := Lib.hid (hB.below hW)
  have HG := Lib.hid (hG.below hW)
  have HCA := Lib.hid (l02Can_any w.heap.size v A n c ns B m d bs G p g gs most near W0 KA.out HN.out HB.out HG.out hn hm hp)
  have HW0 := Lib.hid hW0
  clear hN hB hG hW0
  cases hok : rowOk v ns bs gs most near
  · have HF := Lib.hid (bestS_no (rowS_no hok))
    rw [hok] at HCA
    rw [HF.out]
    go_enter Try.func29, Try.ntmps29
    go_wp2_with fail
    rw [← HW0.out]
    clear HW0
    refine HCA.out.mono ?_
    rintro e w1 ⟨rfl, d1⟩
    have hW1 := below_ext hW hW.size d1.below
    go_wp2_with fail
    go_ret3
    exact nilFFb _ _ _ hW1
  · rw [hok] at HCA
    have hok2 := hok
    unfold rowOk at hok2
    rw [Bool.and_eq_true, Bool.and_eq_true] at hok2
    obtain ⟨h1, h2, -⟩ := hok2
    obtain ⟨V, rfl, -, -, -, -⟩ := rows_bd h1
    obtain ⟨M, rfl⟩ := Int.eq_ofNat_of_zero_le (inB_iff.1 h2).1
    have HSV := Lib.hid (fun (w' : World) KX hN hB hG => l02Solve_any w.heap.size V A n c ns B m d bs G p g gs M near w' KX hN hB hG hok)
    clear h1 h2 hok
    go_enter Try.func29, Try.ntmps29
    go_wp2_with fail
    rw [← HW0.out]
    clear HW0
    refine HCA.out.mono ?_
    rintro e w1 ⟨rfl, d1⟩
    have b1 := d1.below
    have hW1 := below_ext hW hW.size b1
    go_wp2_with fail
    refine (HSV.out _ (KA.out.ext b1) (HN.out.below b1) (HB.out.below b1) (HG.out.below b1)).mono ?_
    rintro e w2 ⟨N, nn, cn, Q, qn, cq, rfl, oN, oQ, sNQ, b2⟩
    go_wp2_with fail
    go_ret3
    exact ⟨N, nn, cn, Q, qn, cq, rfl, OwnF.low oN hW1.size, OwnF.low oQ hW1.size, sNQ, below_ext hW1 hW1.size b2⟩
end Go.Proofs.Ytckfmemjcjhaaaa
