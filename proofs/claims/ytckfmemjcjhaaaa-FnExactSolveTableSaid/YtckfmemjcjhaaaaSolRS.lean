/- The reference's SolveTable (printed by gen_solr.py). -/
import Derived.Test.YtckfmemjcjhaaaaSolR
import Derived.Test.YtckfmemjcjhaaaaSolU
namespace Go.Proofs.Ytckfmemjcjhaaaa
open Go.RowKit

set_option maxRecDepth 100000 in
set_option maxHeartbeats 4000000 in
theorem specSolveTable_r (v : Int) (A : Option Addr) (n c : Nat) (ns : List Nat) (B : Option Addr) (m d : Nat) (bs : List Int) (most : Int) (near : Nat) (w : World) (hN : FltsAt w A n ns) (hB : IntsAt w B m bs) (hn : n ≤ maxLen) (hm : m ≤ maxLen) :
    Calls Try.prog 15 #[.agg #[.int .i64 v, .slice A n c, .slice B m d], .int .i64 most, .float .f32 near] w (RetTib (sV v (solR v ns bs most near)) (sN (solR v ns bs most near)) (sQ (solR v ns bs most near)) (sC (solR v ns bs most near)) (solR v ns bs most near).isSome w) := by
  have HLB := Lib.hid hB.len
  have HLN := Lib.hid hN.len
  obtain ⟨W0, hW0⟩ : ∃ W0, W0 = (w.alloc (.cells #[.int .i64 v, .slice A n c, .slice B m d] 27)).alloc (.cells #[.int .i64 0, .slice none 0 0, .slice none 0 0] 27) := ⟨_, rfl⟩
  have KT := Lib.hid (show Blk W0 w.heap.size 27 #[.int .i64 v, .slice A n c, .slice B m d] by rw [hW0]; exact (Blk.new w _ _).alloc _)
  have KR := Lib.hid (show Blk W0 (w.heap.size + 1) 27 #[.int .i64 0, .slice none 0 0, .slice none 0 0] by
    rw [hW0]
    have h := Blk.new (w.alloc (.cells #[.int .i64 v, .slice A n c, .slice B m d] 27)) 27 #[.int .i64 0, .slice none 0 0, .slice none 0 0]
    simp only [World.size_alloc] at h
    exact h)
  have hW : Below w.heap.size w W0 := by rw [hW0]; exact ((Below.refl _ _).alloc (Nat.le_refl _) _).alloc (by simp) _
  have HN := Lib.hid (hN.below hW)
  have HB := Lib.hid (hB.below hW)
  have HW0 := Lib.hid hW0
  obtain ⟨o, ho⟩ : ∃ o, o = solR v ns bs most near := ⟨_, rfl⟩
  have HO := Lib.hid ho
  rw [← ho]
  have HTB := Lib.hid (fun (w' : World) KX hN hB => l02Table_any w.heap.size v A n c ns B m d bs w' KX hN hB hn hm)
  clear hN hB hW0 ho
  cases ht : tblB v ns bs
  · have HF := Lib.hid (show o = none by rw [HO.out]; exact solR_no (by unfold solOk; rw [ht]; rfl))
    rw [ht] at HTB
    go_enter Try.func15, Try.ntmps15
    go_wp2_with fail
    rw [← HW0.out]
    clear HW0
    refine (HTB.out _ KT.out HN.out HB.out).mono ?_
    rintro e w1 ⟨rfl, dr1⟩
    have b1 := dr1.below
    clear dr1
    have hW1 := below_ext hW hW.size b1
    have KR1 := Lib.hid (KR.out.ext b1)
    have KT1 := Lib.hid (KT.out.ext b1)
    have HN1 := Lib.hid (HN.out.below b1)
    have HB1 := Lib.hid (HB.out.below b1)
    clear KR KT HN HB hW b1
    have k0 := KR1.out.cell 0
    have k1 := KR1.out.cell 1
    have k2 := KR1.out.cell 2
    have l0 := KR1.out.free 0
    have l1 := KR1.out.free 1
    have l2 := KR1.out.free 2
    go_wp2_with fail
    refine bodyPost_ret (v := .tuple #[.agg #[.int .i64 0, .slice none 0 0, .slice none 0 0], .int .i64 0, .bool false]) (by simp [results, Try.results15, go_sem, k0, k1, k2]) rfl ?_
    rw [HF.out]
    exact nilTib _ _ _ (zero_set hW1 (Nat.le_succ _) _ _ _)
  · rw [ht] at HTB
    have HT := Lib.hid ht
    clear ht
    cases hm64 : inB most 0 64
    · have HF := Lib.hid (show o = none by rw [HO.out]; exact solR_no (by unfold solOk; rw [hm64, HT.out]; rfl))
      have HMO := Lib.hid (fun (w : World) => l02Most_any most w)
      rw [hm64] at HMO
      go_enter Try.func15, Try.ntmps15
      go_wp2_with fail
      rw [← HW0.out]
      clear HW0
      refine (HTB.out _ KT.out HN.out HB.out).mono ?_
      rintro e w1 ⟨rfl, dr1⟩
      have b1 := dr1.below
      clear dr1
      have hW1 := below_ext hW hW.size b1
      have KR1 := Lib.hid (KR.out.ext b1)
      have KT1 := Lib.hid (KT.out.ext b1)
      have HN1 := Lib.hid (HN.out.below b1)
      have HB1 := Lib.hid (HB.out.below b1)
      clear KR KT HN HB hW b1
      have k0 := KR1.out.cell 0
      have k1 := KR1.out.cell 1
      have k2 := KR1.out.cell 2
      have l0 := KR1.out.free 0
      have l1 := KR1.out.free 1
      have l2 := KR1.out.free 2
      go_wp2_with fail
      refine (HMO.out _).mono ?_
      rintro e w2 ⟨rfl, rfl⟩
      go_wp2_with fail
      refine bodyPost_ret (v := .tuple #[.agg #[.int .i64 0, .slice none 0 0, .slice none 0 0], .int .i64 0, .bool false]) (by simp [results, Try.results15, go_sem, k0, k1, k2]) rfl ?_
      rw [HF.out]
      exact nilTib _ _ _ (zero_set hW1 (Nat.le_succ _) _ _ _)
    · have HMO := Lib.hid (fun (w : World) => l02Most_any most w)
      rw [hm64] at HMO
      obtain ⟨m0, m1⟩ := inB_iff.1 hm64
      obtain ⟨M, rfl⟩ := Int.eq_ofNat_of_zero_le m0
      have HM64 := Lib.hid hm64
      clear hm64
      have HNE := Lib.hid (fun (w : World) => l02Least_any near w)
      cases hne : leastO (absK .f32 near)
      · have HF := Lib.hid (show o = none by rw [HO.out]; exact solR_no (by unfold solOk; rw [hne, HT.out, HM64.out]; rfl))
        rw [hne] at HNE
        go_enter Try.func15, Try.ntmps15
        go_wp2_with fail
        rw [← HW0.out]
        clear HW0
        refine (HTB.out _ KT.out HN.out HB.out).mono ?_
        rintro e w1 ⟨rfl, dr1⟩
        have b1 := dr1.below
        clear dr1
        have hW1 := below_ext hW hW.size b1
        have KR1 := Lib.hid (KR.out.ext b1)
        have KT1 := Lib.hid (KT.out.ext b1)
        have HN1 := Lib.hid (HN.out.below b1)
        have HB1 := Lib.hid (HB.out.below b1)
        clear KR KT HN HB hW b1
        go_wp2_with fail
        refine (HMO.out _).mono ?_
        rintro e w2 ⟨rfl, rfl⟩
        go_wp2_with fail
        refine (HNE.out _).mono ?_
        rintro e w3 ⟨rfl, dr3⟩
        have b3 := dr3.below
        clear dr3
        have hW3 := below_ext hW1 hW1.size b3
        have KR3 := Lib.hid (KR1.out.ext b3)
        have k0 := KR3.out.cell 0
        have k1 := KR3.out.cell 1
        have k2 := KR3.out.cell 2
        have l0 := KR3.out.free 0
        have l1 := KR3.out.free 1
        have l2 := KR3.out.free 2
        go_wp2_with fail
        refine bodyPost_ret (v := .tuple #[.agg #[.int .i64 0, .slice none 0 0, .slice none 0 0], .int .i64 0, .bool false]) (by simp [results, Try.results15, go_sem, k0, k1, k2]) rfl ?_
        rw [HF.out]
        exact nilTib _ _ _ (zero_set hW3 (Nat.le_succ _) _ _ _)
      · rw [hne] at HNE
        have HOK := Lib.hid (show solOk v ns bs (M : Int) near = true by unfold solOk; rw [hne, HT.out, HM64.out]; rfl)
        clear hne
        obtain ⟨V, rfl, hV, hm8, hn8, -, -⟩ := tbl_bd HT.out
        rw [HLB.out, HLN.out] at hn8
        rw [HLB.out] at hm8
        have HN8 := Lib.hid hn8
        have hbd : n ≤ 153 := by rw [hn8]; exact Nat.mul_le_mul (show m + 1 ≤ 9 by omega) (show V + m + 1 ≤ 17 by omega)
        have hpos : 0 < n := by rw [hn8]; exact Nat.mul_pos (by omega) (by omega)
        clear hn8
        have HSO := Lib.hid (fun (w' : World) KX hN hB => l02Solved_any w.heap.size V A n c ns B m d bs M near w' KX hN hB hV hm8 HN8.out (by omega))
        go_enter Try.func15, Try.ntmps15
        go_wp2_with fail
        rw [← HW0.out]
        clear HW0
        refine (HTB.out _ KT.out HN.out HB.out).mono ?_
        rintro e w1 ⟨rfl, dr1⟩
        have b1 := dr1.below
        clear dr1
        have hW1 := below_ext hW hW.size b1
        have KR1 := Lib.hid (KR.out.ext b1)
        have KT1 := Lib.hid (KT.out.ext b1)
        have HN1 := Lib.hid (HN.out.below b1)
        have HB1 := Lib.hid (HB.out.below b1)
        clear KR KT HN HB hW b1
        go_wp2_with fail
        refine (HMO.out _).mono ?_
        rintro e w2 ⟨rfl, rfl⟩
        go_wp2_with fail
        refine (HNE.out _).mono ?_
        rintro e w3 ⟨rfl, dr3⟩
        have b3 := dr3.below
        clear dr3
        have hW3 := below_ext hW1 hW1.size b3
        have KR3 := Lib.hid (KR1.out.ext b3)
        have KT3 := Lib.hid (KT1.out.ext b3)
        have HN3 := Lib.hid (HN1.out.below b3)
        have HB3 := Lib.hid (HB1.out.below b3)
        clear KT1 HN1 HB1 KR1 b3 hW1
        have KR5 := KR3
        have hW5 := hW3
        go_wp2_with fail
        refine (HSO.out _ KT3.out HN3.out HB3.out).mono ?_
        cases hs : solveT V near M 0 ns bs with
        | none =>
          have HF := Lib.hid (show o = none by rw [HO.out]; exact solR_none hs)
          rintro e w6 ⟨b6, rfl⟩
          have hW6 := below_ext hW5 hW5.size b6
          have hW7 := hW6.alloc hW6.size (.cells #[.int .i64 0, .slice none 0 0, .slice none 0 0] 27)
          have KR7 := (KR5.out.ext b6).alloc (.cells #[.int .i64 0, .slice none 0 0, .slice none 0 0] 27)
          have k0 := KR7.cell 0
          have k1 := KR7.cell 1
          have k2 := KR7.cell 2
          have l0 := KR7.free 0
          have l1 := KR7.free 1
          have l2 := KR7.free 2
          go_wp2_with fail
          refine bodyPost_ret (v := .tuple #[.agg #[.int .i64 0, .slice none 0 0, .slice none 0 0], .int .i64 0, .bool false]) (by simp [results, Try.results15, go_sem, k0, k1, k2]) rfl ?_
          rw [HF.out]
          exact nilTib _ _ _ (zero_set hW7 (Nat.le_succ _) _ _ _)
        | some s =>
          obtain ⟨a, b, cnt, col⟩ := s
          have HF0 := Lib.hid (show o = if col < 0 then some (a, b, cnt) else none by rw [HO.out]; exact solR_some HOK.out hs)
          rintro e w6 ⟨b6, A6, n6, c6, B6, m6, d6, rfl, o6, q6⟩
          have hW6 := below_ext hW5 hW5.size b6
          have hW7 := hW6.alloc hW6.size (.cells #[.int .i64 V, .slice A6 n6 c6, .slice B6 m6 d6] 27)
          have KR7 := (KR5.out.ext b6).alloc (.cells #[.int .i64 V, .slice A6 n6 c6, .slice B6 m6 d6] 27)
          have KO := Blk.new w6 27 #[.int .i64 V, .slice A6 n6 c6, .slice B6 m6 d6]
          have p0 := KO.cell 0
          have p1 := KO.cell 1
          have p2 := KO.cell 2
          have k0 := KR7.cell 0
          have k1 := KR7.cell 1
          have k2 := KR7.cell 2
          have l0 := KR7.free 0
          have l1 := KR7.free 1
          have l2 := KR7.free 2
          have O6 := Lib.hid ((OwnF.low o6 hW5.size).alloc (.cells #[.int .i64 V, .slice A6 n6 c6, .slice B6 m6 d6] 27))
          have Q6 := Lib.hid ((OwnI.low q6 hW5.size).alloc (.cells #[.int .i64 V, .slice A6 n6 c6, .slice B6 m6 d6] 27))
          have HLS := Lib.hid (solveT_inv (tab_ok HT.out) hs)
          have HP6 := Lib.hid (show 0 < n6 ∧ 0 < m6 by rw [← O6.out.len, ← Q6.out.len, HLS.out.1.1, HLS.out.2.1, HLB.out]; exact ⟨Nat.mul_pos (by omega) (by omega), by omega⟩)
          have HK7 := Lib.hid KR7
          clear KR7 KO o6 q6
          by_cases hcol : col < 0
          · have HF := Lib.hid (show o = some (a, b, cnt) by rw [HF0.out, if_pos hcol])
            have hcd : decide (col < 0) = true := decide_eq_true hcol
            rw [hcd]
            go_wp2_with fail
            refine bodyPost_ret (v := .tuple #[.agg #[.int .i64 V, .slice A6 n6 c6, .slice B6 m6 d6], .int .i64 cnt, .bool true]) (by simp [results, Try.results15, go_sem, k0, k1, k2]) rfl ?_
            rw [HF.out]
            exact ⟨A6, n6, c6, B6, m6, d6, rfl, ((O6.out.far (p := ⟨w.heap.size + 1, 0, none⟩) (own_pos_ne O6.out HP6.out.1 HK7.out (by decide)) _).far (p := ⟨w.heap.size + 1, 1, none⟩) (own_pos_ne O6.out HP6.out.1 HK7.out (by decide)) _).far (p := ⟨w.heap.size + 1, 2, none⟩) (own_pos_ne O6.out HP6.out.1 HK7.out (by decide)) _, ((Q6.out.far (p := ⟨w.heap.size + 1, 0, none⟩) (own_pos_neI Q6.out HP6.out.2 HK7.out (by decide)) _).far (p := ⟨w.heap.size + 1, 1, none⟩) (own_pos_neI Q6.out HP6.out.2 HK7.out (by decide)) _).far (p := ⟨w.heap.size + 1, 2, none⟩) (own_pos_neI Q6.out HP6.out.2 HK7.out (by decide)) _, zero_set hW7 (Nat.le_succ _) _ _ _⟩
          · have HF := Lib.hid (show o = none by rw [HF0.out, if_neg hcol])
            have hcd : decide (col < 0) = false := decide_eq_false hcol
            rw [hcd]
            go_wp2_with fail
            refine bodyPost_ret (v := .tuple #[.agg #[.int .i64 0, .slice none 0 0, .slice none 0 0], .int .i64 0, .bool false]) (by simp [results, Try.results15, go_sem, k0, k1, k2]) rfl ?_
            rw [HF.out]
            exact nilTib _ _ _ (zero_set hW7 (Nat.le_succ _) _ _ _)
end Go.Proofs.Ytckfmemjcjhaaaa
