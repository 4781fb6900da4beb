/- The program's rows solved (printed by gen_rowi.py). -/
import Derived.Test.YtckfmemjcjhaaaaPlanI
import Derived.Test.YtckfmemjcjhaaaaSol
import Derived.Test.YtckfmemjcjhaaaaRowSol
namespace Go.Proofs.Ytckfmemjcjhaaaa
open Go.RowKit

/-- what the program's 'solved' hands back -/
def RetSd (v : Int) (o : Option (List Nat × List Int)) (w : World) (e : Ending) (w' : World) : Prop :=
  Below w.heap.size w w' ∧ match o with
    | some (a, b) => ∃ (N : Option Addr) (nn cn : Nat) (Q : Option Addr) (qn cq : Nat), e = .returned (.tuple #[.agg #[.int .i64 v, .slice N nn cn, .slice Q qn cq], .bool true]) ∧ OwnF 34 w.heap.size w' N nn cn a ∧ OwnI 2 w.heap.size w' Q qn cq b
    | none => ∃ (x : Int) (N : Option Addr) (nn cn : Nat) (Q : Option Addr) (qn cq : Nat), e = .returned (.tuple #[.agg #[.int .i64 x, .slice N nn cn, .slice Q qn cq], .bool false])
set_option maxRecDepth 100000 in
set_option maxHeartbeats 1000000 in
theorem solved_r (v : Int) (A : Option Addr) (n c : Nat) (ns : List Nat) (B : Option Addr) (m d : Nat) (bs : List Nat) (G : Option Addr) (p g : Nat) (gs : List Nat) (most : Int) (near : Nat) (w : World) (hN : FltsAt w A n ns) (hB : FltsAt w B m bs) (hG : FltsAt w G p gs) (hn : n ≤ maxLen) (hm : m ≤ maxLen) (hp : p ≤ maxLen) (hcap : n ≤ c ∧ c ≤ maxLen) :
    Calls Try.prog 62 #[.agg #[.int .i64 v, .slice A n c, .slice B m d, .slice G p g], .int .i64 most, .float .f32 near] w (RetSd v (bestS v ns bs gs most near) w) := by
  have HLB := Lib.hid hB.len
  obtain ⟨W0, hW0⟩ : ∃ W0, W0 = (w.alloc (.cells #[.int .i64 v, .slice A n c, .slice B m d, .slice G p g] 43)).alloc (.cells #[.int .i64 0, .slice none 0 0, .slice none 0 0] 27) := ⟨_, rfl⟩
  have KA := Lib.hid (show Blk W0 w.heap.size 43 #[.int .i64 v, .slice A n c, .slice B m d, .slice G p g] by rw [hW0]; exact (Blk.new w _ _).alloc _)
  have KR := Lib.hid (show Blk W0 (w.heap.size + 1) 27 #[.int .i64 0, .slice none 0 0, .slice none 0 0] by
    rw [hW0]
    have h := Blk.new (w.alloc (.cells #[.int .i64 v, .slice A n c, .slice B m d, .slice G p g] 43)) 27 #[.int .i64 0, .slice none 0 0, .slice none 0 0]
    simp only [World.size_alloc] at h
    exact h)
  have hW : Below w.heap.size w W0 := by rw [hW0]; exact ((Below.refl _ _).alloc (Nat.le_refl _) _).alloc (by simp) _
  have HTO := Lib.hid (implTableOf_r v A n c ns B m d bs G p g gs W0 (hN.below hW) (hB.below hW) (hG.below hW) hn hm hp hcap)
  have HMO := Lib.hid (fun (w : World) => isMost_any most w)
  have HNE := Lib.hid (fun (w : World) => isNear_any near w)
  have HW0 := Lib.hid hW0
  obtain ⟨o, ho⟩ : ∃ o, o = bestS v ns bs gs most near := ⟨_, rfl⟩
  have HO := Lib.hid ho
  rw [← ho]
  clear hN hB hG hW0 ho hcap
  cases hrb : rowsB v ns bs gs
  · have HF := Lib.hid (show o = none by rw [HO.out]; exact bestS_no (rowS_no (by unfold rowOk; rw [hrb]; rfl)))
    have p0 := KA.out.cell 0
    have p1 := KA.out.cell 1
    have p2 := KA.out.cell 2
    have p3 := KA.out.cell 3
    rw [HW0.out] at p0 p1 p2 p3
    go_enter Try.func62, Try.ntmps62
    go_wp2_with fail
    rw [← HW0.out]
    clear p0 p1 p2 p3 HW0
    refine HTO.out.mono ?_
    rw [hrb]
    rintro e w1 ⟨N, nn, cn, Q, qn, cq, rfl, oN, oQ, b1⟩
    have hW1 := below_ext hW hW.size b1
    have KR1 := Lib.hid ((KR.out.ext b1).alloc (.cells #[.int .i64 (tabV v ns bs gs), .slice N nn cn, .slice Q qn cq] 27))
    have hW2 := hW1.alloc hW1.size (.cells #[.int .i64 (tabV v ns bs gs), .slice N nn cn, .slice Q qn cq] 27)
    clear KR oN oQ b1 KA hW
    go_upto_region 2 with (fail)
    generalize w1.alloc (.cells #[.int .i64 (tabV v ns bs gs), .slice N nn cn, .slice Q qn cq] 27) = W1 at *
    have k0 := KR1.out.cell 0
    have k1 := KR1.out.cell 1
    have k2 := KR1.out.cell 2
    have l0 := KR1.out.free 0
    have l1 := KR1.out.free 1
    have l2 := KR1.out.free 2
    go_wp2_with fail
    refine bodyPost_ret (v := .tuple #[.agg #[.int .i64 0, .slice none 0 0, .slice none 0 0], .bool false]) (by simp [results, Try.results62, go_sem, k0, k1, k2]) rfl ?_
    rw [HF.out]
    exact ⟨zero_set hW2 (Nat.le_succ _) _ _ _, 0, none, 0, 0, none, 0, 0, rfl⟩
  · have HRB := Lib.hid hrb
    obtain ⟨V, rfl, hV, hm8, -, -⟩ := rows_bd hrb
    rw [HLB.out] at hm8
    have HTV := Lib.hid (show tabV V ns bs gs = (V : Int) ∧ tabN V ns bs gs = tabT V m ns bs gs (m + 1) ∧ tabQ V ns bs gs = seqI V m from ⟨by unfold tabV; rw [if_pos hrb], by unfold tabN; rw [if_pos hrb, HLB.out]; rfl, by unfold tabQ; rw [if_pos hrb, HLB.out]⟩)
    clear hrb
    cases hm64 : inB most 0 64
    · have HF := Lib.hid (show o = none by rw [HO.out]; exact bestS_no (rowS_no (by unfold rowOk; rw [hm64, HRB.out]; rfl)))
      rw [hm64] at HMO
      have p0 := KA.out.cell 0
      have p1 := KA.out.cell 1
      have p2 := KA.out.cell 2
      have p3 := KA.out.cell 3
      rw [HW0.out] at p0 p1 p2 p3
      go_enter Try.func62, Try.ntmps62
      go_wp2_with fail
      rw [← HW0.out]
      clear p0 p1 p2 p3 HW0
      refine HTO.out.mono ?_
      rw [HRB.out, HTV.out.1, HTV.out.2.1, HTV.out.2.2]
      rintro e w1 ⟨N, nn, cn, Q, qn, cq, rfl, oN, oQ, b1⟩
      have hW1 := below_ext hW hW.size b1
      have KR1 := Lib.hid ((KR.out.ext b1).alloc (.cells #[.int .i64 V, .slice N nn cn, .slice Q qn cq] 27))
      have hW2 := hW1.alloc hW1.size (.cells #[.int .i64 V, .slice N nn cn, .slice Q qn cq] 27)
      have KO := Lib.hid (Blk.new w1 27 #[.int .i64 V, .slice N nn cn, .slice Q qn cq])
      have ON := Lib.hid ((OwnF.low oN hW.size).alloc (.cells #[.int .i64 V, .slice N nn cn, .slice Q qn cq] 27))
      have OQ := Lib.hid ((OwnI.low oQ hW.size).alloc (.cells #[.int .i64 V, .slice N nn cn, .slice Q qn cq] 27))
      have HGO := Lib.hid (show w.heap.size ≤ w1.heap.size from hW1.size)
      clear KR oN oQ b1 KA hW
      go_upto_region 2 with (fail)
      generalize w1.alloc (.cells #[.int .i64 V, .slice N nn cn, .slice Q qn cq] 27) = W1 at *
      generalize w1.heap.size = gO at *
      have k0 := KR1.out.cell 0
      have k1 := KR1.out.cell 1
      have k2 := KR1.out.cell 2
      have l0 := KR1.out.free 0
      have l1 := KR1.out.free 1
      have l2 := KR1.out.free 2
      go_wp2_with fail
      refine (HMO.out _).mono ?_
      rintro e w2 ⟨rfl, rfl⟩
      go_wp2_with fail
      refine bodyPost_ret (v := .tuple #[.agg #[.int .i64 0, .slice none 0 0, .slice none 0 0], .bool false]) (by simp [results, Try.results62, go_sem, k0, k1, k2]) rfl ?_
      rw [HF.out]
      exact ⟨zero_set hW2 (Nat.le_succ _) _ _ _, 0, none, 0, 0, none, 0, 0, rfl⟩
    · obtain ⟨m0, m1⟩ := inB_iff.1 hm64
      obtain ⟨M, rfl⟩ := Int.eq_ofNat_of_zero_le m0
      rw [hm64] at HMO
      have HM64 := Lib.hid hm64
      clear hm64
      cases hne : leastO (absK .f32 near)
      · have HF := Lib.hid (show o = none by rw [HO.out]; exact bestS_no (rowS_no (by unfold rowOk; rw [hne, HRB.out, HM64.out]; rfl)))
        rw [hne] at HNE
        have p0 := KA.out.cell 0
        have p1 := KA.out.cell 1
        have p2 := KA.out.cell 2
        have p3 := KA.out.cell 3
        rw [HW0.out] at p0 p1 p2 p3
        go_enter Try.func62, Try.ntmps62
        go_wp2_with fail
        rw [← HW0.out]
        clear p0 p1 p2 p3 HW0
        refine HTO.out.mono ?_
        rw [HRB.out, HTV.out.1, HTV.out.2.1, HTV.out.2.2]
        rintro e w1 ⟨N, nn, cn, Q, qn, cq, rfl, oN, oQ, b1⟩
        have hW1 := below_ext hW hW.size b1
        have KR1 := Lib.hid ((KR.out.ext b1).alloc (.cells #[.int .i64 V, .slice N nn cn, .slice Q qn cq] 27))
        have hW2 := hW1.alloc hW1.size (.cells #[.int .i64 V, .slice N nn cn, .slice Q qn cq] 27)
        have KO := Lib.hid (Blk.new w1 27 #[.int .i64 V, .slice N nn cn, .slice Q qn cq])
        have ON := Lib.hid ((OwnF.low oN hW.size).alloc (.cells #[.int .i64 V, .slice N nn cn, .slice Q qn cq] 27))
        have OQ := Lib.hid ((OwnI.low oQ hW.size).alloc (.cells #[.int .i64 V, .slice N nn cn, .slice Q qn cq] 27))
        have HGO := Lib.hid (show w.heap.size ≤ w1.heap.size from hW1.size)
        clear KR oN oQ b1 KA hW
        go_upto_region 2 with (fail)
        generalize w1.alloc (.cells #[.int .i64 V, .slice N nn cn, .slice Q qn cq] 27) = W1 at *
        generalize w1.heap.size = gO at *
        go_wp2_with fail
        refine (HMO.out _).mono ?_
        rintro e w2 ⟨rfl, rfl⟩
        go_wp2_with fail
        refine (HNE.out _).mono ?_
        rintro e w3 ⟨rfl, dr3⟩
        have b3 := dr3.below
        clear dr3
        have hW3 := below_ext hW2 hW2.size b3
        have KR3 := Lib.hid (KR1.out.ext b3)
        have k0 := KR3.out.cell 0
        have k1 := KR3.out.cell 1
        have k2 := KR3.out.cell 2
        have l0 := KR3.out.free 0
        have l1 := KR3.out.free 1
        have l2 := KR3.out.free 2
        go_wp2_with fail
        refine bodyPost_ret (v := .tuple #[.agg #[.int .i64 0, .slice none 0 0, .slice none 0 0], .bool false]) (by simp [results, Try.results62, go_sem, k0, k1, k2]) rfl ?_
        rw [HF.out]
        exact ⟨zero_set hW3 (Nat.le_succ _) _ _ _, 0, none, 0, 0, none, 0, 0, rfl⟩
      · rw [hne] at HNE
        have HOK := Lib.hid (show rowOk V ns bs gs (M : Int) near = true by unfold rowOk; rw [hne, HRB.out, HM64.out]; rfl)
        clear hne
        have HRS := Lib.hid (rowS_yes HOK.out)
        rw [HLB.out] at HRS
        have HSO := Lib.hid (fun A n c B d (w' : World) oN oB hb hn => solve_any w.heap.size V A n c (tabT V m ns bs gs (m + 1)) B m d (seqI V m) M near w' oN oB hb hV hm8 hn (by omega))
        have p0 := KA.out.cell 0
        have p1 := KA.out.cell 1
        have p2 := KA.out.cell 2
        have p3 := KA.out.cell 3
        rw [HW0.out] at p0 p1 p2 p3
        go_enter Try.func62, Try.ntmps62
        go_wp2_with fail
        rw [← HW0.out]
        clear p0 p1 p2 p3 HW0
        refine HTO.out.mono ?_
        rw [HRB.out, HTV.out.1, HTV.out.2.1, HTV.out.2.2]
        rintro e w1 ⟨N, nn, cn, Q, qn, cq, rfl, oN, oQ, b1⟩
        have hW1 := below_ext hW hW.size b1
        have KR1 := Lib.hid ((KR.out.ext b1).alloc (.cells #[.int .i64 V, .slice N nn cn, .slice Q qn cq] 27))
        have hW2 := hW1.alloc hW1.size (.cells #[.int .i64 V, .slice N nn cn, .slice Q qn cq] 27)
        have KO := Lib.hid (Blk.new w1 27 #[.int .i64 V, .slice N nn cn, .slice Q qn cq])
        have ON := Lib.hid ((OwnF.low oN hW.size).alloc (.cells #[.int .i64 V, .slice N nn cn, .slice Q qn cq] 27))
        have OQ := Lib.hid ((OwnI.low oQ hW.size).alloc (.cells #[.int .i64 V, .slice N nn cn, .slice Q qn cq] 27))
        have HGO := Lib.hid (show w.heap.size ≤ w1.heap.size from hW1.size)
        clear KR oN oQ b1 KA hW
        go_upto_region 2 with (fail)
        generalize w1.alloc (.cells #[.int .i64 V, .slice N nn cn, .slice Q qn cq] 27) = W1 at *
        generalize w1.heap.size = gO at *
        obtain rfl : m = qn := by have h9 := OQ.out.len; simp [seqI] at h9; exact h9
        have HNN := Lib.hid (show nn = (m + 1) * (V + m + 1) by rw [← ON.out.len, tabT_len])
        go_wp2_with fail
        refine (HMO.out _).mono ?_
        rintro e w2 ⟨rfl, rfl⟩
        go_wp2_with fail
        refine (HNE.out _).mono ?_
        rintro e w3 ⟨rfl, dr3⟩
        have b3 := dr3.below
        clear dr3
        have hW3 := below_ext hW2 hW2.size b3
        have KR3 := Lib.hid (KR1.out.ext b3)
        have p0 := (KO.out.ext b3).cell 0
        have p1 := (KO.out.ext b3).cell 1
        have p2 := (KO.out.ext b3).cell 2
        have HS := Lib.hid (HSO.out N nn cn Q cq w3 (ON.out.below b3) (OQ.out.below b3) hW3.size HNN.out)
        clear KO ON OQ b3 HSO
        go_wp2_with fail
        refine HS.out.mono ?_
        cases hs : solveT V near M 0 (tabT V m ns bs gs (m + 1)) (seqI V m) with
        | none =>
          have HF := Lib.hid (show o = none by rw [HO.out]; exact bestS_no (by rw [HRS.out]; exact hs))
          clear p0 p1 p2
          rintro e w6 ⟨b6, rfl⟩
          have hW6 := below_ext hW3 hW3.size b6
          have hW7 := hW6.alloc hW6.size (.cells #[.int .i64 0, .slice none 0 0, .slice none 0 0] 27)
          have KR7 := (KR3.out.ext b6).alloc (.cells #[.int .i64 0, .slice none 0 0, .slice none 0 0] 27)
          have KO := Blk.new w6 27 #[.int .i64 0, .slice none 0 0, .slice none 0 0]
          have p0 := KO.cell 0
          have p1 := KO.cell 1
          have p2 := KO.cell 2
          have k0 := KR7.cell 0
          have k1 := KR7.cell 1
          have k2 := KR7.cell 2
          have l0 := KR7.free 0
          have l1 := KR7.free 1
          have l2 := KR7.free 2
          go_wp2_with fail
          refine bodyPost_ret (v := .tuple #[.agg #[.int .i64 0, .slice none 0 0, .slice none 0 0], .bool false]) (by simp [results, Try.results62, go_sem, k0, k1, k2]) rfl ?_
          rw [HF.out]
          exact ⟨zero_set hW7 (Nat.le_succ _) _ _ _, 0, none, 0, 0, none, 0, 0, rfl⟩
        | some s =>
          obtain ⟨a, b, cnt, col⟩ := s
          have HF0 := Lib.hid (show o = if col < 0 then some (a, b) else none by rw [HO.out]; exact bestS_of (by rw [HRS.out]; exact hs))
          have HINV := Lib.hid (rowS_inv (show rowS V ns bs gs M near = some (a, b, cnt, col) by rw [HRS.out]; exact hs))
          clear p0 p1 p2 hs
          rintro e w6 ⟨b6, A6, n6, c6, B6, m6, d6, rfl, o6, q6⟩
          have hW6 := below_ext hW3 hW3.size b6
          have hW7 := hW6.alloc hW6.size (.cells #[.int .i64 V, .slice A6 n6 c6, .slice B6 m6 d6] 27)
          have KR7 := (KR3.out.ext b6).alloc (.cells #[.int .i64 V, .slice A6 n6 c6, .slice B6 m6 d6] 27)
          have KO := Blk.new w6 27 #[.int .i64 V, .slice A6 n6 c6, .slice B6 m6 d6]
          have p0 := KO.cell 0
          have p1 := KO.cell 1
          have p2 := KO.cell 2
          have k0 := KR7.cell 0
          have k1 := KR7.cell 1
          have k2 := KR7.cell 2
          have l0 := KR7.free 0
          have l1 := KR7.free 1
          have l2 := KR7.free 2
          have O6 := Lib.hid (o6.alloc (.cells #[.int .i64 V, .slice A6 n6 c6, .slice B6 m6 d6] 27))
          have Q6 := Lib.hid (q6.alloc (.cells #[.int .i64 V, .slice A6 n6 c6, .slice B6 m6 d6] 27))
          have HP6 := Lib.hid (show 0 < n6 ∧ 0 < m6 by rw [← O6.out.len, ← Q6.out.len, HINV.out.2.1.1, HINV.out.2.2.1, HLB.out]; exact ⟨Nat.mul_pos (by omega) (by omega), by omega⟩)
          have HK7 := Lib.hid KR7
          clear KR7 KO o6 q6
          by_cases hcol : col < 0
          · have HF := Lib.hid (show o = some (a, b) by rw [HF0.out, if_pos hcol])
            go_wp2_with fail
            refine bodyPost_ret (v := .tuple #[.agg #[.int .i64 V, .slice A6 n6 c6, .slice B6 m6 d6], .bool true]) (by simp [results, Try.results62, go_sem, k0, k1, k2]) rfl ?_
            rw [HF.out]
            exact ⟨zero_set hW7 (Nat.le_succ _) _ _ _, A6, n6, c6, B6, m6, d6, rfl, ((O6.out.far (p := ⟨w.heap.size + 1, 0, none⟩) (own_pos_ne O6.out HP6.out.1 HK7.out (by decide)) _).far (p := ⟨w.heap.size + 1, 1, none⟩) (own_pos_ne O6.out HP6.out.1 HK7.out (by decide)) _).far (p := ⟨w.heap.size + 1, 2, none⟩) (own_pos_ne O6.out HP6.out.1 HK7.out (by decide)) _, ((Q6.out.far (p := ⟨w.heap.size + 1, 0, none⟩) (own_pos_neI Q6.out HP6.out.2 HK7.out (by decide)) _).far (p := ⟨w.heap.size + 1, 1, none⟩) (own_pos_neI Q6.out HP6.out.2 HK7.out (by decide)) _).far (p := ⟨w.heap.size + 1, 2, none⟩) (own_pos_neI Q6.out HP6.out.2 HK7.out (by decide)) _⟩
          · have HF := Lib.hid (show o = none by rw [HF0.out, if_neg hcol])
            have hcg : 0 ≤ col := by omega
            go_wp2_with fail
            refine bodyPost_ret (v := .tuple #[.agg #[.int .i64 V, .slice A6 n6 c6, .slice B6 m6 d6], .bool false]) (by simp [results, Try.results62, go_sem, k0, k1, k2, hcg]) rfl ?_
            rw [HF.out]
            exact ⟨zero_set hW7 (Nat.le_succ _) _ _ _, _, _, _, _, _, _, _, rfl⟩
end Go.Proofs.Ytckfmemjcjhaaaa
