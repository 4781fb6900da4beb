/- The reference's l02Solved: pivots until nothing gains. -/
import Derived.Test.YtckfmemjcjhaaaaSolS
import Derived.Test.YtckfmemjcjhaaaaSolSt
namespace Go.Proofs.Ytckfmemjcjhaaaa
open Go.RowKit

/-- what the reference's l02Solved hands back -/
def RetSolS (V : Nat) (o : Option (List Nat × List Int × Nat × Int)) (w : World) (e : Ending) (w' : World) : Prop :=
  Below w.heap.size w w' ∧ match o with
    | some (ns', bs', cnt, col) => ∃ (A' : Option Addr) (n' c' : Nat) (B' : Option Addr) (m' d' : Nat), e = .returned (.tuple #[.agg #[.int .i64 V, .slice A' n' c', .slice B' m' d'], .int .i64 cnt, .int .i64 col, .bool (decide (col < 0))]) ∧ OwnF 34 w.heap.size w' A' n' c' ns' ∧ OwnI 2 w.heap.size w' B' m' d' bs'
    | none => e = .returned (.tuple #[.agg #[.int .i64 0, .slice none 0 0, .slice none 0 0], .int .i64 0, .int .i64 (-1), .bool false])
set_option maxRecDepth 100000 in
set_option maxHeartbeats 1000000 in
theorem l02Solved_any (gr V : Nat) (A : Option Addr) (n c : Nat) (ns : List Nat) (B : Option Addr) (m d : Nat) (bs : List Int) (M near : Nat) (w : World) (KX : Blk w gr 27 #[.int .i64 V, .slice A n c, .slice B m d]) (hN : FltsAt w A n ns) (hB : IntsAt w B m bs) (hV : 1 ≤ V ∧ V ≤ 8) (hm : 1 ≤ m ∧ m ≤ 8) (hn : n = (m + 1) * (V + m + 1)) (hM : M ≤ 64) :
    Calls Try.prog 48 #[.pointer (some ⟨gr, 0, none⟩), .int .i64 M, .float .f32 near] w (RetSolS V (solveT V near M 0 ns bs) w) := by
  have HPOS := Lib.hid (show 0 < n ∧ 0 < m from ⟨by rw [hn]; exact Nat.mul_pos (by omega) (by omega), by omega⟩)
  have hbd : n ≤ 153 := by rw [hn]; exact Nat.mul_le_mul (show m + 1 ≤ 9 by omega) (show V + m + 1 ≤ 17 by omega)
  have HEN := Lib.hid (fun g A c ns B d (w : World) KX hN => l02Enter_any g V A n c ns B m d near w KX hN hV.2 hm.2 hn)
  have HLV := Lib.hid (fun g A c ns B d bs cc (w : World) KX hN hB hcc => l02Leave_any g V A n c ns B m d bs cc near w KX hN hB hV.2 hm.2 hn hcc)
  have HPV := Lib.hid (fun g A c ns B d bs r cc (w : World) KX hN hB hr hcc => l02Pivot_any g V A n c ns B m d bs r cc w KX hN hB hV hm hn hr hcc)
  have HOT := Lib.hid (fun (w : World) KX hN hB => l02OwnTable_any gr V A n c ns B m d bs w KX hN hB HPOS.out.1 (by omega) (by omega))
  have HNN := Lib.hid hn
  obtain ⟨o, ho⟩ : ∃ o, solveT V near M 0 ns bs = o := ⟨_, rfl⟩
  have HO := Lib.hid ho
  rw [ho]
  obtain ⟨W0, hW0⟩ : ∃ W0, W0 = w.alloc (.cells #[.int .i64 0, .slice none 0 0, .slice none 0 0] 27) := ⟨_, rfl⟩
  have hW : Below w.heap.size w W0 := by rw [hW0]; exact (Below.refl _ _).alloc (Nat.le_refl _) _
  have KR := Lib.hid (show Blk W0 w.heap.size 27 #[.int .i64 0, .slice none 0 0, .slice none 0 0] by rw [hW0]; exact Blk.new w _ _)
  have KX0 := Lib.hid (KX.ext hW)
  have HN0 := Lib.hid (hN.below hW)
  have HB0 := Lib.hid (hB.below hW)
  have HW0 := Lib.hid hW0
  clear hN hB hW0 ho hn KX
  go_enter Try.func48, Try.ntmps48
  go_wp2_with fail
  rw [← HW0.out]
  clear HW0
  refine (HOT.out _ KX0.out HN0.out HB0.out).mono ?_
  rintro e w1 ⟨A1, c1, B1, d1, rfl, oN, oB, -, b1⟩
  have hbx := below_ext hW hW.size b1
  have HGR := Lib.hid (show w.heap.size ≠ w1.heap.size from by have h9 := (KR.out.ext b1).lt; omega)
  have HST0 := Lib.hid (show SolSt w.heap.size w1.heap.size w.heap.size V m n w (w1.alloc (.cells #[.int .i64 V, .slice A1 n c1, .slice B1 m d1] 27)) A1 c1 ns B1 d1 bs from
    ⟨Blk.new w1 _ _, (KR.out.ext b1).alloc _, (OwnF.low oN hW.size).alloc _, (OwnI.low oB hW.size).alloc _, hbx.alloc hbx.size _⟩)
  have HGT := Lib.hid (show w.heap.size ≤ w1.heap.size from hbx.size)
  clear oN oB b1 hbx KR KX0 HN0 HB0
  go_wp2_with fail
  generalize w1.alloc (.cells #[.int .i64 V, .slice A1 n c1, .slice B1 m d1] 27) = W1 at *
  generalize w1.heap.size = gT at *
  go_loopg [11] M (fun rr iv wi => ∃ (k : Nat) (A1 : Option Addr) (c1 : Nat) (ns1 : List Nat) (B1 : Option Addr) (d1 : Nat) (bs1 : List Int), rr = M - k ∧ k ≤ M ∧ iv = .int .i64 k ∧ Hid (solveT V near (M - k) k ns1 bs1 = o) ∧ Hid (SolSt w.heap.size gT w.heap.size V m n w wi A1 c1 ns1 B1 d1 bs1))
  case atStart => exact ⟨0, A1, c1, ns, B1, d1, bs, rfl, Nat.zero_le _, rfl, HO, HST0⟩
  case round =>
    clear HST0 HO
    obtain ⟨k, A1, c1, ns1, B1, d1, bs1, hr', hk, rfl, HSO, HST⟩ := hrel
    have HRK := Lib.hid hr'
    clear hr'
    obtain ⟨wo, hwo⟩ : ∃ x, x = wr := ⟨_, rfl⟩
    rw [← hwo]
    rw [← hwo] at HST
    clear hwo
    have HLB := Lib.hid HST.out.oB.len
    go_wp2_with fail
    refine (HEN.out gT A1 c1 ns1 B1 d1 _ HST.out.kt HST.out.oN.flts).mono ?_
    rintro e w5 ⟨rfl, dr5⟩
    have HS5 := Lib.hid (HST.out.ext dr5.below)
    clear HST dr5
    have HEB := Lib.hid (enterT_bd ns1 m (V + m + 1) near)
    obtain ⟨E, hE⟩ : ∃ E, enterT ns1 m (V + m + 1) near = E := ⟨_, rfl⟩
    rw [hE] at HEB ⊢
    have HE := Lib.hid (show enterT ns1 bs1.length (V + bs1.length + 1) near = E by rw [HLB.out]; exact hE)
    clear hE
    have p0 := HS5.out.kt.cell 0
    have p1 := HS5.out.kt.cell 1
    have p2 := HS5.out.kt.cell 2
    have k0 := HS5.out.kr.cell 0
    have k1 := HS5.out.kr.cell 1
    have k2 := HS5.out.kr.cell 2
    have l0 := HS5.out.kr.free 0
    have l1 := HS5.out.kr.free 1
    have l2 := HS5.out.kr.free 2
    rcases HEB.out with hE1 | ⟨cc, hE1, hcc⟩
    · have HF := Lib.hid (show o = some (ns1, bs1, k, (-1 : Int)) by rw [← HSO.out]; exact solveT_end (by rw [HE.out, hE1]; decide))
      subst hE1
      have HFL := Lib.hid (HS5.out.fill HPOS.out.1 HPOS.out.2 (Nat.le_refl _) (.int .i64 V) (.slice A1 n c1) (.slice B1 m d1))
      go_wp2_with fail
      refine bodyPost_ret (v := .tuple #[.agg #[.int .i64 V, .slice A1 n c1, .slice B1 m d1], .int .i64 k, .int .i64 (-1), .bool true]) (by simp [results, Try.results48, go_sem, k0, k1, k2]) rfl ?_
      rw [HF.out]
      exact ⟨HFL.out.2.2, A1, n, c1, B1, m, d1, rfl, HFL.out.1, HFL.out.2.1⟩
    · subst hE1
      by_cases hkM : k = M
      · have d1' : ((k : Int) == (M : Int)) = true := by rw [hkM]; simp
        have HF := Lib.hid (show o = none by rw [← HSO.out, hkM, Nat.sub_self]; exact solveT_zero (by rw [HE.out]; omega))
        have HFL := Lib.hid (HS5.out.fill HPOS.out.1 HPOS.out.2 (Nat.le_refl _) (.int .i64 0) (.slice none 0 0) (.slice none 0 0))
        clear hkM
        go_wp2_with fail
        refine bodyPost_ret (v := .tuple #[.agg #[.int .i64 0, .slice none 0 0, .slice none 0 0], .int .i64 0, .int .i64 (-1), .bool false]) (by simp [results, Try.results48, go_sem, k0, k1, k2]) rfl ?_
        rw [HF.out]
        exact ⟨HFL.out.2.2, rfl⟩
      · have d1' : ((k : Int) == (M : Int)) = false := by rw [beq_eq_false_iff_ne]; omega
        have hkl : k < M := by omega
        obtain ⟨f, hf⟩ : ∃ f, M - k = f + 1 := ⟨M - k - 1, by omega⟩
        have HFE := Lib.hid (show M - (k + 1) = f by omega)
        have HSO2 := Lib.hid (show solveT V near (f + 1) k ns1 bs1 = o by rw [← hf]; exact HSO.out)
        clear hkM hf HSO
        clear k0 k1 k2 l0 l1 l2
        go_wp2_with fail
        refine (HLV.out gT A1 c1 ns1 B1 d1 bs1 cc _ HS5.out.kt HS5.out.oN.flts HS5.out.oB.ints (by omega)).mono ?_
        rintro e w6 ⟨rfl, dr6⟩
        have HS6 := Lib.hid (HS5.out.ext dr6.below)
        clear HS5 dr6 p0 p1 p2
        have HLVB := Lib.hid (leaveT_bd ns1 bs1 (V + m + 1) near cc)
        rw [HLB.out] at HLVB
        obtain ⟨R, hR⟩ : ∃ R, leaveT ns1 bs1 (V + m + 1) near cc = R := ⟨_, rfl⟩
        rw [hR] at HLVB ⊢
        have HR := Lib.hid (show leaveT ns1 bs1 (V + bs1.length + 1) near cc = R by rw [HLB.out]; exact hR)
        clear hR
        have p0 := HS6.out.kt.cell 0
        have p1 := HS6.out.kt.cell 1
        have p2 := HS6.out.kt.cell 2
        have k0 := HS6.out.kr.cell 0
        have k1 := HS6.out.kr.cell 1
        have k2 := HS6.out.kr.cell 2
        have l0 := HS6.out.kr.free 0
        have l1 := HS6.out.kr.free 1
        have l2 := HS6.out.kr.free 2
        rcases HLVB.out with hR1 | ⟨r, hR1, hr⟩
        · have HF := Lib.hid (show o = some (ns1, bs1, k, (cc : Int)) by rw [← HSO2.out]; exact solveT_free HE.out (by rw [HR.out, hR1]; decide))
          subst hR1
          have HFL := Lib.hid (HS6.out.fill HPOS.out.1 HPOS.out.2 (Nat.le_refl _) (.int .i64 V) (.slice A1 n c1) (.slice B1 m d1))
          have HDC := Lib.hid (show decide ((cc : Int) < 0) = false from decide_eq_false (by omega))
          go_wp2_with fail
          refine bodyPost_ret (v := .tuple #[.agg #[.int .i64 V, .slice A1 n c1, .slice B1 m d1], .int .i64 k, .int .i64 cc, .bool false]) (by simp [results, Try.results48, go_sem, k0, k1, k2]) rfl ?_
          rw [HF.out]
          exact ⟨HFL.out.2.2, A1, n, c1, B1, m, d1, by rw [HDC.out], HFL.out.1, HFL.out.2.1⟩
        · subst hR1
          clear k0 k1 k2 l0 l1 l2
          go_wp2_with fail
          refine (HPV.out gT A1 c1 ns1 B1 d1 bs1 r cc _ HS6.out.kt HS6.out.oN.flts HS6.out.oB.ints hr (by omega)).mono ?_
          clear p0 p1 p2
          cases hp : pivT V ns1 bs1 r cc with
          | none =>
            have HF := Lib.hid (show o = none by rw [← HSO2.out]; exact solveT_stop HE.out HR.out hp)
            rintro e w7 ⟨b7, v4, A4, n4, c4, B4, m4, d4, rfl⟩
            have HS7 := Lib.hid ((HS6.out.ext b7).ext ((Below.refl _ w7).alloc (Nat.le_refl _) (.cells #[.int .i64 v4, .slice A4 n4 c4, .slice B4 m4 d4] 27)))
            have k0 := HS7.out.kr.cell 0
            have k1 := HS7.out.kr.cell 1
            have k2 := HS7.out.kr.cell 2
            have l0 := HS7.out.kr.free 0
            have l1 := HS7.out.kr.free 1
            have l2 := HS7.out.kr.free 2
            have HFL := Lib.hid (HS7.out.fill HPOS.out.1 HPOS.out.2 (Nat.le_refl _) (.int .i64 0) (.slice none 0 0) (.slice none 0 0))
            go_wp2_with fail
            refine bodyPost_ret (v := .tuple #[.agg #[.int .i64 0, .slice none 0 0, .slice none 0 0], .int .i64 0, .int .i64 (-1), .bool false]) (by simp [results, Try.results48, go_sem, k0, k1, k2]) rfl ?_
            rw [HF.out]
            exact ⟨HFL.out.2.2, rfl⟩
          | some o2 =>
            obtain ⟨ns2, bs2⟩ := o2
            have HF := Lib.hid (show solveT V near f (k + 1) ns2 bs2 = o by rw [← HSO2.out]; exact (solveT_go HE.out HR.out hp).symm)
            obtain ⟨hl1, hl2, -⟩ := pivT_len hp
            rintro e w7 ⟨b7, A4, n4, c4, B4, m4, d4, rfl, o4, q4⟩
            obtain rfl : m = m4 := by rw [← q4.len, hl2, HLB.out]
            obtain rfl : n = n4 := by rw [← o4.len, hl1, HLB.out]; exact HNN.out
            clear hl1 hl2 hp
            have HK7 := Lib.hid ((HS6.out.kt.ext b7).alloc (.cells #[.int .i64 V, .slice A4 n c4, .slice B4 m d4] 27))
            have HK8 := Lib.hid (Blk.new w7 27 #[.int .i64 V, .slice A4 n c4, .slice B4 m d4])
            have HNX := Lib.hid (HS6.out.next b7 o4 q4 HPOS.out.1 HPOS.out.2 HS6.out.bl.size HGT.out (Ne.symm HGR.out))
            have p0 := HK7.out.cell 0
            have p1 := HK7.out.cell 1
            have p2 := HK7.out.cell 2
            have l0 := HK7.out.free 0
            have l1 := HK7.out.free 1
            have l2 := HK7.out.free 2
            have q0 := HK8.out.cell 0
            have q1 := HK8.out.cell 1
            have q2 := HK8.out.cell 2
            clear o4 q4 b7 HS6 HK7 HK8
            go_wp2_with fail
            go_roundg (M - (k + 1))
            case measure => rw [HRK.out]; omega
            case rel => exact ⟨k + 1, A4, c4, ns2, B4, d4, bs2, rfl, by omega, by go_num, by rw [HFE.out]; exact HF, HNX⟩
end Go.Proofs.Ytckfmemjcjhaaaa
