/- The program's solve: pivots until nothing gains. -/
import Derived.Test.YtckfmemjcjhaaaaSolI
import Derived.Test.YtckfmemjcjhaaaaPivI
import Derived.Test.YtckfmemjcjhaaaaSolSt
namespace Go.Proofs.Ytckfmemjcjhaaaa
open Go.RowKit

/-- what the program's solve hands back -/
def RetSol (base V : Nat) (o : Option (List Nat × List Int × Nat × Int)) (w : World) (e : Ending) (w' : World) : Prop :=
  Below w.heap.size w w' ∧ match o with
    | some (ns', bs', cnt, col) => ∃ (A' : Option Addr) (n' c' : Nat) (B' : Option Addr) (m' d' : Nat), e = .returned (.tuple #[.agg #[.int .i64 V, .slice A' n' c', .slice B' m' d'], .int .i64 cnt, .int .i64 col, .bool true]) ∧ OwnF 34 base w' A' n' c' ns' ∧ OwnI 2 base w' B' m' d' bs'
    | none => e = .returned (.tuple #[.agg #[.int .i64 0, .slice none 0 0, .slice none 0 0], .int .i64 0, .int .i64 0, .bool false])
set_option maxRecDepth 100000 in
set_option maxHeartbeats 1000000 in
theorem solve_any (base V : Nat) (A : Option Addr) (n c : Nat) (ns : List Nat) (B : Option Addr) (m d : Nat) (bs : List Int) (M near : Nat) (w : World) (oN : OwnF 34 base w A n c ns) (oB : OwnI 2 base w B m d bs) (hbase : base ≤ w.heap.size) (hV : 1 ≤ V ∧ V ≤ 8) (hm : 1 ≤ m ∧ m ≤ 8) (hn : n = (m + 1) * (V + m + 1)) (hM : M ≤ 64) :
    Calls Try.prog 53 #[.agg #[.int .i64 V, .slice A n c, .slice B m d], .int .i64 M, .float .f32 near] w (RetSol base V (solveT V near M 0 ns bs) w) := by
  have HPOS := Lib.hid (show 0 < n ∧ 0 < m from ⟨by rw [hn]; exact Nat.mul_pos (by omega) (by omega), by omega⟩)
  have HEN := Lib.hid (fun A c ns B d (w : World) hN => enter_any V A n c ns B m d near w hN hV.2 hm.2 hn)
  have HLV := Lib.hid (fun A c ns B d bs cc (w : World) hN hB hcc => leave_any V A n c ns B m d bs cc near w hN hB hV.2 hm.2 hn hcc)
  have HPV := Lib.hid (fun A c ns B d bs r cc (w : World) hN hB hr hcc => pivot_any V A n c ns B m d bs r cc w hN hB hV hm hn hr hcc)
  have HNN := Lib.hid hn
  obtain ⟨o, ho⟩ : ∃ o, solveT V near M 0 ns bs = o := ⟨_, rfl⟩
  have HO := Lib.hid ho
  rw [ho]
  obtain ⟨W0, hW0⟩ : ∃ W0, W0 = (w.alloc (.cells #[.int .i64 V, .slice A n c, .slice B m d] 27)).alloc (.cells #[.int .i64 0, .slice none 0 0, .slice none 0 0] 27) := ⟨_, rfl⟩
  have HST0 := Lib.hid (show SolSt base w.heap.size (w.heap.size + 1) V m n w W0 A c ns B d bs by
    rw [hW0]
    refine ⟨(Blk.new w _ _).alloc _, ?_, (oN.alloc _).alloc _, (oB.alloc _).alloc _, ((Below.refl _ _).alloc (Nat.le_refl _) _).alloc (by simp) _⟩
    have h := Blk.new (w.alloc (.cells #[.int .i64 V, .slice A n c, .slice B m d] 27)) 27 #[.int .i64 0, .slice none 0 0, .slice none 0 0]
    simp only [World.size_alloc] at h
    exact h)
  have HW0 := Lib.hid hW0
  have HBA := Lib.hid hbase
  clear oN oB hW0 ho hn hbase
  go_enter Try.func53, Try.ntmps53
  go_wp2_with fail
  rw [← HW0.out]
  clear HW0
  go_loopg [10] M (fun rr iv wi => ∃ (k : Nat) (A1 : Option Addr) (c1 : Nat) (ns1 : List Nat) (B1 : Option Addr) (d1 : Nat) (bs1 : List Int), rr = M - k ∧ k ≤ M ∧ iv = .int .i64 k ∧ Hid (solveT V near (M - k) k ns1 bs1 = o) ∧ Hid (SolSt base w.heap.size (w.heap.size + 1) V m n w wi A1 c1 ns1 B1 d1 bs1))
  case atStart => exact ⟨0, A, c, ns, B, d, bs, rfl, Nat.zero_le _, rfl, HO, HST0⟩
  case round =>
    obtain ⟨k, A1, c1, ns1, B1, d1, bs1, hr', hk, rfl, HSO, HST⟩ := hrel
    have HRK := Lib.hid hr'
    clear hr' HST0 HO
    obtain ⟨wo, hwo⟩ : ∃ x, x = wr := ⟨_, rfl⟩
    rw [← hwo]
    rw [← hwo] at HST
    clear hwo
    have HLB := Lib.hid HST.out.oB.len
    have p0 := HST.out.kt.cell 0
    have p1 := HST.out.kt.cell 1
    have p2 := HST.out.kt.cell 2
    go_wp2_with fail
    refine (HEN.out A1 c1 ns1 B1 d1 _ HST.out.oN.flts).mono ?_
    rintro e w5 ⟨rfl, b5⟩
    have HS5 := Lib.hid (HST.out.ext b5)
    clear HST b5 p0 p1 p2
    have HEB := Lib.hid (enterT_bd ns1 m (V + m + 1) near)
    obtain ⟨E, hE⟩ : ∃ E, enterT ns1 m (V + m + 1) near = E := ⟨_, rfl⟩
    rw [hE] at HEB ⊢
    have HE := Lib.hid (show enterT ns1 bs1.length (V + bs1.length + 1) near = E by rw [HLB.out]; exact hE)
    clear hE
    have p0 := HS5.out.kt.cell 0
    have p1 := HS5.out.kt.cell 1
    have p2 := HS5.out.kt.cell 2
    have k0 := HS5.out.kr.cell 0
    have k1 := HS5.out.kr.cell 1
    have k2 := HS5.out.kr.cell 2
    have l0 := HS5.out.kr.free 0
    have l1 := HS5.out.kr.free 1
    have l2 := HS5.out.kr.free 2
    rcases HEB.out with hE1 | ⟨cc, hE1, hcc⟩
    · have HF := Lib.hid (show o = some (ns1, bs1, k, (-1 : Int)) by rw [← HSO.out]; exact solveT_end (by rw [HE.out, hE1]; decide))
      subst hE1
      have HFL := Lib.hid (HS5.out.fill HPOS.out.1 HPOS.out.2 (Nat.le_succ _) (.int .i64 V) (.slice A1 n c1) (.slice B1 m d1))
      go_wp2_with fail
      refine bodyPost_ret (v := .tuple #[.agg #[.int .i64 V, .slice A1 n c1, .slice B1 m d1], .int .i64 k, .int .i64 (-1), .bool true]) (by simp [results, Try.results53, go_sem, k0, k1, k2]) rfl ?_
      rw [HF.out]
      exact ⟨HFL.out.2.2, A1, n, c1, B1, m, d1, rfl, HFL.out.1, HFL.out.2.1⟩
    · subst hE1
      by_cases hkM : k = M
      · have d1' : ((k : Int) == (M : Int)) = true := by rw [hkM]; simp
        have HF := Lib.hid (show o = none by rw [← HSO.out, hkM, Nat.sub_self]; exact solveT_zero (by rw [HE.out]; omega))
        have HFL := Lib.hid (HS5.out.fill HPOS.out.1 HPOS.out.2 (Nat.le_succ _) (.int .i64 0) (.slice none 0 0) (.slice none 0 0))
        clear hkM
        go_wp2_with fail
        refine bodyPost_ret (v := .tuple #[.agg #[.int .i64 0, .slice none 0 0, .slice none 0 0], .int .i64 0, .int .i64 0, .bool false]) (by simp [results, Try.results53, go_sem, k0, k1, k2]) rfl ?_
        rw [HF.out]
        exact ⟨HFL.out.2.2, rfl⟩
      · have d1' : ((k : Int) == (M : Int)) = false := by rw [beq_eq_false_iff_ne]; omega
        have hkl : k < M := by omega
        obtain ⟨f, hf⟩ : ∃ f, M - k = f + 1 := ⟨M - k - 1, by omega⟩
        have HFE := Lib.hid (show M - (k + 1) = f by omega)
        have HSO2 := Lib.hid (show solveT V near (f + 1) k ns1 bs1 = o by rw [← hf]; exact HSO.out)
        clear hkM hf HSO
        clear k0 k1 k2 l0 l1 l2
        go_wp2_with fail
        refine (HLV.out A1 c1 ns1 B1 d1 bs1 cc _ HS5.out.oN.flts HS5.out.oB.ints (by omega)).mono ?_
        rintro e w6 ⟨rfl, b6⟩
        have HS6 := Lib.hid (HS5.out.ext b6)
        clear HS5 b6 p0 p1 p2
        have HLVB := Lib.hid (leaveT_bd ns1 bs1 (V + m + 1) near cc)
        rw [HLB.out] at HLVB
        obtain ⟨R, hR⟩ : ∃ R, leaveT ns1 bs1 (V + m + 1) near cc = R := ⟨_, rfl⟩
        rw [hR] at HLVB ⊢
        have HR := Lib.hid (show leaveT ns1 bs1 (V + bs1.length + 1) near cc = R by rw [HLB.out]; exact hR)
        clear hR
        have p0 := HS6.out.kt.cell 0
        have p1 := HS6.out.kt.cell 1
        have p2 := HS6.out.kt.cell 2
        have k0 := HS6.out.kr.cell 0
        have k1 := HS6.out.kr.cell 1
        have k2 := HS6.out.kr.cell 2
        have l0 := HS6.out.kr.free 0
        have l1 := HS6.out.kr.free 1
        have l2 := HS6.out.kr.free 2
        rcases HLVB.out with hR1 | ⟨r, hR1, hr⟩
        · have HF := Lib.hid (show o = some (ns1, bs1, k, (cc : Int)) by rw [← HSO2.out]; exact solveT_free HE.out (by rw [HR.out, hR1]; decide))
          subst hR1
          have HFL := Lib.hid (HS6.out.fill HPOS.out.1 HPOS.out.2 (Nat.le_succ _) (.int .i64 V) (.slice A1 n c1) (.slice B1 m d1))
          go_wp2_with fail
          refine bodyPost_ret (v := .tuple #[.agg #[.int .i64 V, .slice A1 n c1, .slice B1 m d1], .int .i64 k, .int .i64 cc, .bool true]) (by simp [results, Try.results53, go_sem, k0, k1, k2]) rfl ?_
          rw [HF.out]
          exact ⟨HFL.out.2.2, A1, n, c1, B1, m, d1, rfl, HFL.out.1, HFL.out.2.1⟩
        · subst hR1
          clear k0 k1 k2 l0 l1 l2
          go_wp2_with fail
          refine (HPV.out A1 c1 ns1 B1 d1 bs1 r cc _ HS6.out.oN.flts HS6.out.oB.ints hr (by omega)).mono ?_
          clear p0 p1 p2
          cases hp : pivT V ns1 bs1 r cc with
          | none =>
            have HF := Lib.hid (show o = none by rw [← HSO2.out]; exact solveT_stop HE.out HR.out hp)
            rintro e w7 ⟨b7, rfl⟩
            have HS7 := Lib.hid ((HS6.out.ext b7).ext ((Below.refl _ w7).alloc (Nat.le_refl _) (.cells #[.int .i64 0, .slice none 0 0, .slice none 0 0] 27)))
            have k0 := HS7.out.kr.cell 0
            have k1 := HS7.out.kr.cell 1
            have k2 := HS7.out.kr.cell 2
            have l0 := HS7.out.kr.free 0
            have l1 := HS7.out.kr.free 1
            have l2 := HS7.out.kr.free 2
            have HFL := Lib.hid (HS7.out.fill HPOS.out.1 HPOS.out.2 (Nat.le_succ _) (.int .i64 0) (.slice none 0 0) (.slice none 0 0))
            go_wp2_with fail
            refine bodyPost_ret (v := .tuple #[.agg #[.int .i64 0, .slice none 0 0, .slice none 0 0], .int .i64 0, .int .i64 0, .bool false]) (by simp [results, Try.results53, go_sem, k0, k1, k2]) rfl ?_
            rw [HF.out]
            exact ⟨HFL.out.2.2, rfl⟩
          | some o2 =>
            obtain ⟨ns2, bs2⟩ := o2
            have HF := Lib.hid (show solveT V near f (k + 1) ns2 bs2 = o by rw [← HSO2.out]; exact (solveT_go HE.out HR.out hp).symm)
            obtain ⟨hl1, hl2, -⟩ := pivT_len hp
            rintro e w7 ⟨b7, A4, n4, c4, B4, m4, d4, rfl, o4, q4⟩
            obtain rfl : m = m4 := by rw [← q4.len, hl2, HLB.out]
            obtain rfl : n = n4 := by rw [← o4.len, hl1, HLB.out]; exact HNN.out
            clear hl1 hl2 hp
            have HK7 := Lib.hid ((HS6.out.kt.ext b7).alloc (.cells #[.int .i64 V, .slice A4 n c4, .slice B4 m d4] 27))
            have HK8 := Lib.hid (Blk.new w7 27 #[.int .i64 V, .slice A4 n c4, .slice B4 m d4])
            have HNX := Lib.hid (HS6.out.next b7 o4 q4 HPOS.out.1 HPOS.out.2 (Nat.le_trans HBA.out HS6.out.bl.size) (Nat.le_refl _) (by omega))
            have p0 := HK7.out.cell 0
            have p1 := HK7.out.cell 1
            have p2 := HK7.out.cell 2
            have l0 := HK7.out.free 0
            have l1 := HK7.out.free 1
            have l2 := HK7.out.free 2
            have q0 := HK8.out.cell 0
            have q1 := HK8.out.cell 1
            have q2 := HK8.out.cell 2
            clear o4 q4 b7 HS6 HK7 HK8
            go_wp2_with fail
            go_roundg (M - (k + 1))
            case measure => rw [HRK.out]; omega
            case rel => exact ⟨k + 1, A4, c4, ns2, B4, d4, bs2, rfl, by omega, by go_num, by rw [HFE.out]; exact HF, HNX⟩
end Go.Proofs.Ytckfmemjcjhaaaa
