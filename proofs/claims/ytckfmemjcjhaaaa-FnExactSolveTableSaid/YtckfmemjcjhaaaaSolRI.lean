/- The program's SolveTable (printed by gen_solr.py). -/
import Derived.Test.YtckfmemjcjhaaaaSolR
import Derived.Test.YtckfmemjcjhaaaaSol
import Derived.Test.YtckfmemjcjhaaaaTblV
import Derived.Test.YtckfmemjcjhaaaaIntA
namespace Go.Proofs.Ytckfmemjcjhaaaa
open Go.RowKit

set_option maxRecDepth 100000 in
set_option maxHeartbeats 4000000 in
theorem implSolveTable_r (v : Int) (A : Option Addr) (n c : Nat) (ns : List Nat) (B : Option Addr) (m d : Nat) (bs : List Int) (most : Int) (near : Nat) (w : World) (hN : FltsAt w A n ns) (hB : IntsAt w B m bs) (hn : n ≤ maxLen) (hm : m ≤ maxLen) (hcap : m ≤ d ∧ d ≤ maxLen) :
    Calls Try.prog 16 #[.agg #[.int .i64 v, .slice A n c, .slice B m d], .int .i64 most, .float .f32 near] w (RetTib (sV v (solR v ns bs most near)) (sN (solR v ns bs most near)) (sQ (solR v ns bs most near)) (sC (solR v ns bs most near)) (solR v ns bs most near).isSome w) := by
  have HLB := Lib.hid hB.len
  have HLN := Lib.hid hN.len
  obtain ⟨W0, hW0⟩ : ∃ W0, W0 = (w.alloc (.cells #[.int .i64 v, .slice A n c, .slice B m d] 27)).alloc (.cells #[.int .i64 0, .slice none 0 0, .slice none 0 0] 27) := ⟨_, rfl⟩
  have KT := Lib.hid (show Blk W0 w.heap.size 27 #[.int .i64 v, .slice A n c, .slice B m d] by rw [hW0]; exact (Blk.new w _ _).alloc _)
  have KR := Lib.hid (show Blk W0 (w.heap.size + 1) 27 #[.int .i64 0, .slice none 0 0, .slice none 0 0] by
    rw [hW0]
    have h := Blk.new (w.alloc (.cells #[.int .i64 v, .slice A n c, .slice B m d] 27)) 27 #[.int .i64 0, .slice none 0 0, .slice none 0 0]
    simp only [World.size_alloc] at h
    exact h)
  have hW : Below w.heap.size w W0 := by rw [hW0]; exact ((Below.refl _ _).alloc (Nat.le_refl _) _).alloc (by simp) _
  have HN := Lib.hid (hN.below hW)
  have HB := Lib.hid (hB.below hW)
  have HW0 := Lib.hid hW0
  obtain ⟨o, ho⟩ : ∃ o, o = solR v ns bs most near := ⟨_, rfl⟩
  have HO := Lib.hid ho
  rw [← ho]
  have HTB := Lib.hid (fun (w : World) hN hB => validTable_r v A n c ns B m d bs w hN hB hn hm hcap)
  clear hN hB hW0 ho hcap
  cases ht : tblB v ns bs
  · have HF := Lib.hid (show o = none by rw [HO.out]; exact solR_no (by unfold solOk; rw [ht]; rfl))
    rw [ht] at HTB
    have p0 := KT.out.cell 0
    have p1 := KT.out.cell 1
    have p2 := KT.out.cell 2
    rw [HW0.out] at p0 p1 p2
    go_enter Try.func16, Try.ntmps16
    go_wp2_with fail
    rw [← HW0.out]
    clear p0 p1 p2 HW0
    refine (HTB.out _ HN.out HB.out).mono ?_
    rintro e w1 ⟨rfl, b1⟩
    have hW1 := below_ext hW hW.size b1
    have KR1 := Lib.hid (KR.out.ext b1)
    have KT1 := Lib.hid (KT.out.ext b1)
    have HN1 := Lib.hid (HN.out.below b1)
    have HB1 := Lib.hid (HB.out.below b1)
    clear KR KT HN HB hW b1
    have k0 := KR1.out.cell 0
    have k1 := KR1.out.cell 1
    have k2 := KR1.out.cell 2
    have l0 := KR1.out.free 0
    have l1 := KR1.out.free 1
    have l2 := KR1.out.free 2
    go_wp2_with fail
    refine bodyPost_ret (v := .tuple #[.agg #[.int .i64 0, .slice none 0 0, .slice none 0 0], .int .i64 0, .bool false]) (by simp [results, Try.results16, go_sem, k0, k1, k2]) rfl ?_
    rw [HF.out]
    exact nilTib _ _ _ (zero_set hW1 (Nat.le_succ _) _ _ _)
  · rw [ht] at HTB
    have HT := Lib.hid ht
    clear ht
    cases hm64 : inB most 0 64
    · have HF := Lib.hid (show o = none by rw [HO.out]; exact solR_no (by unfold solOk; rw [hm64, HT.out]; rfl))
      have HMO := Lib.hid (fun (w : World) => isMost_any most w)
      rw [hm64] at HMO
      have p0 := KT.out.cell 0
      have p1 := KT.out.cell 1
      have p2 := KT.out.cell 2
      rw [HW0.out] at p0 p1 p2
      go_enter Try.func16, Try.ntmps16
      go_wp2_with fail
      rw [← HW0.out]
      clear p0 p1 p2 HW0
      refine (HTB.out _ HN.out HB.out).mono ?_
      rintro e w1 ⟨rfl, b1⟩
      have hW1 := below_ext hW hW.size b1
      have KR1 := Lib.hid (KR.out.ext b1)
      have KT1 := Lib.hid (KT.out.ext b1)
      have HN1 := Lib.hid (HN.out.below b1)
      have HB1 := Lib.hid (HB.out.below b1)
      clear KR KT HN HB hW b1
      have k0 := KR1.out.cell 0
      have k1 := KR1.out.cell 1
      have k2 := KR1.out.cell 2
      have l0 := KR1.out.free 0
      have l1 := KR1.out.free 1
      have l2 := KR1.out.free 2
      go_wp2_with fail
      refine (HMO.out _).mono ?_
      rintro e w2 ⟨rfl, rfl⟩
      go_wp2_with fail
      refine bodyPost_ret (v := .tuple #[.agg #[.int .i64 0, .slice none 0 0, .slice none 0 0], .int .i64 0, .bool false]) (by simp [results, Try.results16, go_sem, k0, k1, k2]) rfl ?_
      rw [HF.out]
      exact nilTib _ _ _ (zero_set hW1 (Nat.le_succ _) _ _ _)
    · have HMO := Lib.hid (fun (w : World) => isMost_any most w)
      rw [hm64] at HMO
      obtain ⟨m0, m1⟩ := inB_iff.1 hm64
      obtain ⟨M, rfl⟩ := Int.eq_ofNat_of_zero_le m0
      have HM64 := Lib.hid hm64
      clear hm64
      have HNE := Lib.hid (fun (w : World) => isNear_any near w)
      cases hne : leastO (absK .f32 near)
      · have HF := Lib.hid (show o = none by rw [HO.out]; exact solR_no (by unfold solOk; rw [hne, HT.out, HM64.out]; rfl))
        rw [hne] at HNE
        have p0 := KT.out.cell 0
        have p1 := KT.out.cell 1
        have p2 := KT.out.cell 2
        rw [HW0.out] at p0 p1 p2
        go_enter Try.func16, Try.ntmps16
        go_wp2_with fail
        rw [← HW0.out]
        clear p0 p1 p2 HW0
        refine (HTB.out _ HN.out HB.out).mono ?_
        rintro e w1 ⟨rfl, b1⟩
        have hW1 := below_ext hW hW.size b1
        have KR1 := Lib.hid (KR.out.ext b1)
        have KT1 := Lib.hid (KT.out.ext b1)
        have HN1 := Lib.hid (HN.out.below b1)
        have HB1 := Lib.hid (HB.out.below b1)
        clear KR KT HN HB hW b1
        go_wp2_with fail
        refine (HMO.out _).mono ?_
        rintro e w2 ⟨rfl, rfl⟩
        go_wp2_with fail
        refine (HNE.out _).mono ?_
        rintro e w3 ⟨rfl, dr3⟩
        have b3 := dr3.below
        clear dr3
        have hW3 := below_ext hW1 hW1.size b3
        have KR3 := Lib.hid (KR1.out.ext b3)
        have k0 := KR3.out.cell 0
        have k1 := KR3.out.cell 1
        have k2 := KR3.out.cell 2
        have l0 := KR3.out.free 0
        have l1 := KR3.out.free 1
        have l2 := KR3.out.free 2
        go_wp2_with fail
        refine bodyPost_ret (v := .tuple #[.agg #[.int .i64 0, .slice none 0 0, .slice none 0 0], .int .i64 0, .bool false]) (by simp [results, Try.results16, go_sem, k0, k1, k2]) rfl ?_
        rw [HF.out]
        exact nilTib _ _ _ (zero_set hW3 (Nat.le_succ _) _ _ _)
      · rw [hne] at HNE
        have HOK := Lib.hid (show solOk v ns bs (M : Int) near = true by unfold solOk; rw [hne, HT.out, HM64.out]; rfl)
        clear hne
        obtain ⟨V, rfl, hV, hm8, hn8, -, -⟩ := tbl_bd HT.out
        rw [HLB.out, HLN.out] at hn8
        rw [HLB.out] at hm8
        have HN8 := Lib.hid hn8
        have hbd : n ≤ 153 := by rw [hn8]; exact Nat.mul_le_mul (show m + 1 ≤ 9 by omega) (show V + m + 1 ≤ 17 by omega)
        have hpos : 0 < n := by rw [hn8]; exact Nat.mul_pos (by omega) (by omega)
        clear hn8
        have HSO := Lib.hid (fun A c ns B d bs (w' : World) oN oB hb => solve_any w.heap.size V A n c ns B m d bs M near w' oN oB hb hV hm8 HN8.out (by omega))
        have p0 := KT.out.cell 0
        have p1 := KT.out.cell 1
        have p2 := KT.out.cell 2
        rw [HW0.out] at p0 p1 p2
        go_enter Try.func16, Try.ntmps16
        go_wp2_with fail
        rw [← HW0.out]
        clear p0 p1 p2 HW0
        refine (HTB.out _ HN.out HB.out).mono ?_
        rintro e w1 ⟨rfl, b1⟩
        have hW1 := below_ext hW hW.size b1
        have KR1 := Lib.hid (KR.out.ext b1)
        have KT1 := Lib.hid (KT.out.ext b1)
        have HN1 := Lib.hid (HN.out.below b1)
        have HB1 := Lib.hid (HB.out.below b1)
        clear KR KT HN HB hW b1
        go_wp2_with fail
        refine (HMO.out _).mono ?_
        rintro e w2 ⟨rfl, rfl⟩
        go_wp2_with fail
        refine (HNE.out _).mono ?_
        rintro e w3 ⟨rfl, dr3⟩
        have b3 := dr3.below
        clear dr3
        have hW3 := below_ext hW1 hW1.size b3
        have KR3 := Lib.hid (KR1.out.ext b3)
        have KT3 := Lib.hid (KT1.out.ext b3)
        have HN3 := Lib.hid (HN1.out.below b3)
        have HB3 := Lib.hid (HB1.out.below b3)
        clear KT1 HN1 HB1 KR1 b3 hW1
        have KT1 := KT3
        clear KT3
        have HN1 := HN3
        clear HN3
        have HB1 := HB3
        clear HB3
        have KR1 := KR3
        clear KR3
        have hW1 := hW3
        clear hW3
        have hsz1 := hW1.size
        obtain ⟨W, hWW⟩ : ∃ x, x = w3 := ⟨_, rfl⟩
        rw [← hWW]
        rw [← hWW] at KT1 HN1 HB1 KR1 hW1 hsz1
        clear hWW
        go_upto_region 3 with (fail)
        have HKC := Lib.hid (fun (W' : World) (hW : Below W.heap.size W W') => (show W'.cell? ⟨w.heap.size, 0, none⟩ = some (.int .i64 V) ∧ W'.cell? ⟨w.heap.size, 1, none⟩ = some (.slice A n c) ∧ W'.cell? ⟨w.heap.size, 2, none⟩ = some (.slice B m d) from ⟨(KT1.out.ext hW).cell 0, (KT1.out.ext hW).cell 1, (KT1.out.ext hW).cell 2⟩))
        have B0 := Lib.hid (Below.drew (Below.refl W.heap.size W))
        have BX := Lib.hid (((Below.refl W.heap.size W).alloc (Nat.le_refl _) (.cells #[.int .i64 0, .slice none 0 0, .slice none 0 0] 27)).drew)
        have KX0 := Lib.hid (show Blk (W.alloc (.cells #[.int .i64 0, .slice none 0 0, .slice none 0 0] 27)).drew W.heap.size 27 #[.int .i64 0, .slice none 0 0, .slice none 0 0] from Blk.new W _ _)
        go_cut [9] (fun sx wx => ∃ (gO gN c' gB d' : Nat), sx = .pointer (some ⟨gO, 0, none⟩) ∧ Blk wx gO 27 #[.int .i64 V, .slice (some ⟨gN, 0, none⟩) n c', .slice (some ⟨gB, 0, none⟩) m d'] ∧ OwnF 34 W.heap.size wx (some ⟨gN, 0, none⟩) n c' ns ∧ OwnI 2 W.heap.size wx (some ⟨gB, 0, none⟩) m d' bs ∧ Below W.heap.size W wx)
        case first =>
          go_region_held3 (fun w' => w'.cell? ⟨w.heap.size, 0, none⟩ = some (.int .i64 V) ∧ w'.cell? ⟨w.heap.size, 1, none⟩ = some (.slice A n c) ∧ w'.cell? ⟨w.heap.size, 2, none⟩ = some (.slice B m d))
            (first
              | exact HKC.out _ B0.out
              | exact HKC.out _ BX.out
              | exact HKC.out _ HB5.out
              | exact HKC.out _ HB6.out
              | exact HKC.out _ (HB5.out.alloc HB5.out.size _)
              | exact HKC.out _ (HB6.out.alloc HB6.out.size _)
              | exact HKC.out _ (((HB5.out.setCell (p := ⟨W.heap.size, 0, none⟩) (Nat.le_refl _) _).setCell (p := ⟨W.heap.size, 1, none⟩) (Nat.le_refl _) _).setCell (p := ⟨W.heap.size, 2, none⟩) (Nat.le_refl _) _)
              | exact HKC.out _ (((HB5.out.setCell (p := ⟨w5.heap.size, 0, none⟩) HB5.out.size _).setCell (p := ⟨w5.heap.size, 1, none⟩) HB5.out.size _).setCell (p := ⟨w5.heap.size, 2, none⟩) HB5.out.size _)
              | exact HKC.out _ (((HB5.out.setCell (p := ⟨w6.heap.size, 0, none⟩) HB6.out.size _).setCell (p := ⟨w6.heap.size, 1, none⟩) HB6.out.size _).setCell (p := ⟨w6.heap.size, 2, none⟩) HB6.out.size _)
              | exact HKC.out _ (((HB6.out.setCell (p := ⟨W.heap.size, 0, none⟩) (Nat.le_refl _) _).setCell (p := ⟨W.heap.size, 1, none⟩) (Nat.le_refl _) _).setCell (p := ⟨W.heap.size, 2, none⟩) (Nat.le_refl _) _)
              | exact HKC.out _ (((HB6.out.setCell (p := ⟨w5.heap.size, 0, none⟩) HB5.out.size _).setCell (p := ⟨w5.heap.size, 1, none⟩) HB5.out.size _).setCell (p := ⟨w5.heap.size, 2, none⟩) HB5.out.size _)
              | exact HKC.out _ (((HB6.out.setCell (p := ⟨w6.heap.size, 0, none⟩) HB6.out.size _).setCell (p := ⟨w6.heap.size, 1, none⟩) HB6.out.size _).setCell (p := ⟨w6.heap.size, 2, none⟩) HB6.out.size _))
            (first
              | (go_at_call 51; refine (copyNumbers_any A n c ns _ (HN1.out.below (HB6.out.alloc HB6.out.size (.cells #[.int .i64 0, .slice none 0 0, .slice none 0 0] 27))) (by omega)).mono ?_; rintro e w5 ⟨A5, c5, rfl, o5, b5⟩; obtain ⟨g5, rfl, _⟩ := o5.pos hpos; have HB5 := Lib.hid (below_ext (HB6.out.alloc HB6.out.size (.cells #[.int .i64 0, .slice none 0 0, .slice none 0 0] 27)) (HB6.out.alloc HB6.out.size (.cells #[.int .i64 0, .slice none 0 0, .slice none 0 0] 27)).size b5); have HO5 := Lib.hid (OwnF.low o5 (HB6.out.alloc HB6.out.size (.cells #[.int .i64 0, .slice none 0 0, .slice none 0 0] 27)).size); have HO6f := Lib.hid ((HO6.out.alloc (.cells #[.int .i64 0, .slice none 0 0, .slice none 0 0] 27)).below b5); have HKB5 := Lib.hid ((Blk.new w6 27 #[.int .i64 0, .slice none 0 0, .slice none 0 0]).ext b5); have r0 := HKB5.out.cell 0; have r1 := HKB5.out.cell 1; have r2 := HKB5.out.cell 2; have f0 := HKB5.out.free 0; have f1 := HKB5.out.free 1; have f2 := HKB5.out.free 2; clear o5 b5)
              | (go_at_call 51; refine (copyNumbers_any A n c ns _ (HN1.out.below HB6.out) (by omega)).mono ?_; rintro e w5 ⟨A5, c5, rfl, o5, b5⟩; obtain ⟨g5, rfl, _⟩ := o5.pos hpos; have HB5 := Lib.hid (below_ext HB6.out HB6.out.size b5); have HO5 := Lib.hid (OwnF.low o5 HB6.out.size); have HO6f := Lib.hid (HO6.out.below b5); have HKB5 := Lib.hid (HKB6.out.ext b5); clear r0 r1 r2 f0 f1 f2; have r0 := HKB5.out.cell 0; have r1 := HKB5.out.cell 1; have r2 := HKB5.out.cell 2; have f0 := HKB5.out.free 0; have f1 := HKB5.out.free 1; have f2 := HKB5.out.free 2; clear o5 b5)
              | (go_at_call 51; refine (copyNumbers_any A n c ns _ (HN1.out.below HB6.out) (by omega)).mono ?_; rintro e w5 ⟨A5, c5, rfl, o5, b5⟩; obtain ⟨g5, rfl, _⟩ := o5.pos hpos; have HB5 := Lib.hid (below_ext HB6.out HB6.out.size b5); have HO5 := Lib.hid (OwnF.low o5 HB6.out.size); have HO6f := Lib.hid (HO6.out.below b5); clear o5 b5)
              | (go_at_call 51; refine (copyNumbers_any A n c ns _ (HN1.out.below BX.out) (by omega)).mono ?_; rintro e w5 ⟨A5, c5, rfl, o5, b5⟩; obtain ⟨g5, rfl, _⟩ := o5.pos hpos; have HB5 := Lib.hid (below_ext BX.out BX.out.size b5); have HO5 := Lib.hid (OwnF.low o5 BX.out.size); have HKB5 := Lib.hid (KX0.out.ext b5); have r0 := HKB5.out.cell 0; have r1 := HKB5.out.cell 1; have r2 := HKB5.out.cell 2; have f0 := HKB5.out.free 0; have f1 := HKB5.out.free 1; have f2 := HKB5.out.free 2; clear o5 b5)
              | (go_at_call 51; refine (copyNumbers_any A n c ns _ (HN1.out.below B0.out) (by omega)).mono ?_; rintro e w5 ⟨A5, c5, rfl, o5, b5⟩; obtain ⟨g5, rfl, _⟩ := o5.pos hpos; have HB5 := Lib.hid (below_ext B0.out B0.out.size b5); have HO5 := Lib.hid (OwnF.low o5 B0.out.size); clear o5 b5)
              | (go_at_call 52; refine (copyInts_t B m d bs _ (HB1.out.below (HB5.out.alloc HB5.out.size (.cells #[.int .i64 0, .slice none 0 0, .slice none 0 0] 27))) (by omega)).mono ?_; rintro e w6 ⟨A6, c6, rfl, o6, b6⟩; obtain ⟨g6, rfl, _⟩ := o6.pos (by omega); have HB6 := Lib.hid (below_ext (HB5.out.alloc HB5.out.size (.cells #[.int .i64 0, .slice none 0 0, .slice none 0 0] 27)) (HB5.out.alloc HB5.out.size (.cells #[.int .i64 0, .slice none 0 0, .slice none 0 0] 27)).size b6); have HO6 := Lib.hid (OwnI.low o6 (HB5.out.alloc HB5.out.size (.cells #[.int .i64 0, .slice none 0 0, .slice none 0 0] 27)).size); have HO5f := Lib.hid ((HO5.out.alloc (.cells #[.int .i64 0, .slice none 0 0, .slice none 0 0] 27)).below b6); have HKB6 := Lib.hid ((Blk.new w5 27 #[.int .i64 0, .slice none 0 0, .slice none 0 0]).ext b6); have r0 := HKB6.out.cell 0; have r1 := HKB6.out.cell 1; have r2 := HKB6.out.cell 2; have f0 := HKB6.out.free 0; have f1 := HKB6.out.free 1; have f2 := HKB6.out.free 2; clear o6 b6)
              | (go_at_call 52; refine (copyInts_t B m d bs _ (HB1.out.below HB5.out) (by omega)).mono ?_; rintro e w6 ⟨A6, c6, rfl, o6, b6⟩; obtain ⟨g6, rfl, _⟩ := o6.pos (by omega); have HB6 := Lib.hid (below_ext HB5.out HB5.out.size b6); have HO6 := Lib.hid (OwnI.low o6 HB5.out.size); have HO5f := Lib.hid (HO5.out.below b6); have HKB6 := Lib.hid (HKB5.out.ext b6); clear r0 r1 r2 f0 f1 f2; have r0 := HKB6.out.cell 0; have r1 := HKB6.out.cell 1; have r2 := HKB6.out.cell 2; have f0 := HKB6.out.free 0; have f1 := HKB6.out.free 1; have f2 := HKB6.out.free 2; clear o6 b6)
              | (go_at_call 52; refine (copyInts_t B m d bs _ (HB1.out.below HB5.out) (by omega)).mono ?_; rintro e w6 ⟨A6, c6, rfl, o6, b6⟩; obtain ⟨g6, rfl, _⟩ := o6.pos (by omega); have HB6 := Lib.hid (below_ext HB5.out HB5.out.size b6); have HO6 := Lib.hid (OwnI.low o6 HB5.out.size); have HO5f := Lib.hid (HO5.out.below b6); clear o6 b6)
              | (go_at_call 52; refine (copyInts_t B m d bs _ (HB1.out.below BX.out) (by omega)).mono ?_; rintro e w6 ⟨A6, c6, rfl, o6, b6⟩; obtain ⟨g6, rfl, _⟩ := o6.pos (by omega); have HB6 := Lib.hid (below_ext BX.out BX.out.size b6); have HO6 := Lib.hid (OwnI.low o6 BX.out.size); have HKB6 := Lib.hid (KX0.out.ext b6); have r0 := HKB6.out.cell 0; have r1 := HKB6.out.cell 1; have r2 := HKB6.out.cell 2; have f0 := HKB6.out.free 0; have f1 := HKB6.out.free 1; have f2 := HKB6.out.free 2; clear o6 b6)
              | (go_at_call 52; refine (copyInts_t B m d bs _ (HB1.out.below B0.out) (by omega)).mono ?_; rintro e w6 ⟨A6, c6, rfl, o6, b6⟩; obtain ⟨g6, rfl, _⟩ := o6.pos (by omega); have HB6 := Lib.hid (below_ext B0.out B0.out.size b6); have HO6 := Lib.hid (OwnI.low o6 B0.out.size); clear o6 b6))
          all_goals
            go_wp2_with fail
            go_meet
            first
              | exact ⟨_, _, _, _, _, rfl, Blk.new w6 _ _, HO5f.out.alloc _, HO6.out.alloc _, HB6.out.alloc HB6.out.size _⟩
              | exact ⟨_, _, _, _, _, rfl, Blk.new w5 _ _, HO5.out.alloc _, HO6f.out.alloc _, HB5.out.alloc HB5.out.size _⟩
              | exact box_filled2 HKB6.out HO5f.out HO6.out (Nat.le_refl _) HB6.out
              | exact box_filled2 HKB6.out HO5f.out HO6.out HB5.out.size HB6.out
              | exact box_filled2 HKB6.out HO5f.out HO6.out HB6.out.size HB6.out
              | exact box_filled2 HKB5.out HO5.out HO6f.out (Nat.le_refl _) HB5.out
              | exact box_filled2 HKB5.out HO5.out HO6f.out HB5.out.size HB5.out
              | exact box_filled2 HKB5.out HO5.out HO6f.out HB6.out.size HB5.out
        case rest =>
          obtain ⟨gO, gN, c', gB, d', rfl, kO, oN, oB, bO⟩ := hcut
          have hW5 := below_ext hW1 hsz1 bO
          have KR5 := Lib.hid (KR1.out.ext bO)
          have p0 := kO.cell 0
          have p1 := kO.cell 1
          have p2 := kO.cell 2
          have ON := Lib.hid (OwnF.low oN hsz1)
          have OB := Lib.hid (OwnI.low oB hsz1)
          clear KT1 HN1 HB1 KR1 HKC B0 BX KX0 oN oB kO bO hW1
          go_wp2_with fail
          refine (HSO.out (some ⟨gN, 0, none⟩) c' ns (some ⟨gB, 0, none⟩) d' bs _ ON.out OB.out hW5.size).mono ?_
          cases hs : solveT V near M 0 ns bs with
          | none =>
            have HF := Lib.hid (show o = none by rw [HO.out]; exact solR_none hs)
            clear p0 p1 p2
            rintro e w6 ⟨b6, rfl⟩
            have hW6 := below_ext hW5 hW5.size b6
            have hW7 := hW6.alloc hW6.size (.cells #[.int .i64 0, .slice none 0 0, .slice none 0 0] 27)
            have KR7 := (KR5.out.ext b6).alloc (.cells #[.int .i64 0, .slice none 0 0, .slice none 0 0] 27)
            have k0 := KR7.cell 0
            have k1 := KR7.cell 1
            have k2 := KR7.cell 2
            have l0 := KR7.free 0
            have l1 := KR7.free 1
            have l2 := KR7.free 2
            go_wp2_with fail
            refine bodyPost_ret (v := .tuple #[.agg #[.int .i64 0, .slice none 0 0, .slice none 0 0], .int .i64 0, .bool false]) (by simp [results, Try.results16, go_sem, k0, k1, k2]) rfl ?_
            rw [HF.out]
            exact nilTib _ _ _ (zero_set hW7 (Nat.le_succ _) _ _ _)
          | some s =>
            obtain ⟨a, b, cnt, col⟩ := s
            have HF0 := Lib.hid (show o = if col < 0 then some (a, b, cnt) else none by rw [HO.out]; exact solR_some HOK.out hs)
            clear p0 p1 p2
            rintro e w6 ⟨b6, A6, n6, c6, B6, m6, d6, rfl, o6, q6⟩
            have hW6 := below_ext hW5 hW5.size b6
            have hW7 := hW6.alloc hW6.size (.cells #[.int .i64 V, .slice A6 n6 c6, .slice B6 m6 d6] 27)
            have KR7 := (KR5.out.ext b6).alloc (.cells #[.int .i64 V, .slice A6 n6 c6, .slice B6 m6 d6] 27)
            have KO := Blk.new w6 27 #[.int .i64 V, .slice A6 n6 c6, .slice B6 m6 d6]
            have p0 := KO.cell 0
            have p1 := KO.cell 1
            have p2 := KO.cell 2
            have k0 := KR7.cell 0
            have k1 := KR7.cell 1
            have k2 := KR7.cell 2
            have l0 := KR7.free 0
            have l1 := KR7.free 1
            have l2 := KR7.free 2
            have O6 := Lib.hid (o6.alloc (.cells #[.int .i64 V, .slice A6 n6 c6, .slice B6 m6 d6] 27))
            have Q6 := Lib.hid (q6.alloc (.cells #[.int .i64 V, .slice A6 n6 c6, .slice B6 m6 d6] 27))
            have HLS := Lib.hid (solveT_inv (tab_ok HT.out) hs)
            have HP6 := Lib.hid (show 0 < n6 ∧ 0 < m6 by rw [← O6.out.len, ← Q6.out.len, HLS.out.1.1, HLS.out.2.1, HLB.out]; exact ⟨Nat.mul_pos (by omega) (by omega), by omega⟩)
            have HK7 := Lib.hid KR7
            clear KR7 KO o6 q6
            by_cases hcol : col < 0
            · have HF := Lib.hid (show o = some (a, b, cnt) by rw [HF0.out, if_pos hcol])
              have hcd : decide (col < 0) = true := decide_eq_true hcol
              have hcg : ¬ (0 ≤ col) := by omega
              go_wp2_with fail
              refine bodyPost_ret (v := .tuple #[.agg #[.int .i64 V, .slice A6 n6 c6, .slice B6 m6 d6], .int .i64 cnt, .bool true]) (by simp [results, Try.results16, go_sem, k0, k1, k2]) rfl ?_
              rw [HF.out]
              exact ⟨A6, n6, c6, B6, m6, d6, rfl, ((O6.out.far (p := ⟨w.heap.size + 1, 0, none⟩) (own_pos_ne O6.out HP6.out.1 HK7.out (by decide)) _).far (p := ⟨w.heap.size + 1, 1, none⟩) (own_pos_ne O6.out HP6.out.1 HK7.out (by decide)) _).far (p := ⟨w.heap.size + 1, 2, none⟩) (own_pos_ne O6.out HP6.out.1 HK7.out (by decide)) _, ((Q6.out.far (p := ⟨w.heap.size + 1, 0, none⟩) (own_pos_neI Q6.out HP6.out.2 HK7.out (by decide)) _).far (p := ⟨w.heap.size + 1, 1, none⟩) (own_pos_neI Q6.out HP6.out.2 HK7.out (by decide)) _).far (p := ⟨w.heap.size + 1, 2, none⟩) (own_pos_neI Q6.out HP6.out.2 HK7.out (by decide)) _, zero_set hW7 (Nat.le_succ _) _ _ _⟩
            · have HF := Lib.hid (show o = none by rw [HF0.out, if_neg hcol])
              have hcd : decide (col < 0) = false := decide_eq_false hcol
              have hcg : 0 ≤ col := by omega
              go_wp2_with fail
              refine bodyPost_ret (v := .tuple #[.agg #[.int .i64 0, .slice none 0 0, .slice none 0 0], .int .i64 0, .bool false]) (by simp [results, Try.results16, go_sem, k0, k1, k2]) rfl ?_
              rw [HF.out]
              exact nilTib _ _ _ (zero_set hW7 (Nat.le_succ _) _ _ _)
end Go.Proofs.Ytckfmemjcjhaaaa
