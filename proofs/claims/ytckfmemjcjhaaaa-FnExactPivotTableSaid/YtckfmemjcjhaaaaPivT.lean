/- The tops of PivotTable. -/
import Derived.Test.YtckfmemjcjhaaaaPivI
import Derived.Test.YtckfmemjcjhaaaaPivR
namespace Go.Proofs.Ytckfmemjcjhaaaa
open Go.RowKit

set_option maxRecDepth 100000 in
set_option maxHeartbeats 1000000 in
theorem implPivotTable_r (v : Int) (A : Option Addr) (n c : Nat) (ns : List Nat) (B : Option Addr) (m d : Nat) (bs : List Int) (row col : Int) (w : World) (hN : FltsAt w A n ns) (hB : IntsAt w B m bs) (hn : n ≤ maxLen) (hm : m ≤ maxLen) (hcap : m ≤ d ∧ d ≤ maxLen) :
    Calls Try.prog 11 #[.agg #[.int .i64 v, .slice A n c, .slice B m d], .int .i64 row, .int .i64 col] w (RetTb (oV v (pvR v ns bs row col)) (oN (pvR v ns bs row col)) (oQ (pvR v ns bs row col)) (pvR v ns bs row col).isSome w) := by
  have HLB := Lib.hid hB.len
  have HLN := Lib.hid hN.len
  obtain ⟨W0, hW0⟩ : ∃ W0, W0 = (w.alloc (.cells #[.int .i64 v, .slice A n c, .slice B m d] 27)).alloc (.cells #[.int .i64 0, .slice none 0 0, .slice none 0 0] 27) := ⟨_, rfl⟩
  have KT := Lib.hid (show Blk W0 w.heap.size 27 #[.int .i64 v, .slice A n c, .slice B m d] by rw [hW0]; exact (Blk.new w _ _).alloc _)
  have KR := Lib.hid (show Blk W0 (w.heap.size + 1) 27 #[.int .i64 0, .slice none 0 0, .slice none 0 0] by
    rw [hW0]
    have h := Blk.new (w.alloc (.cells #[.int .i64 v, .slice A n c, .slice B m d] 27)) 27 #[.int .i64 0, .slice none 0 0, .slice none 0 0]
    simp only [World.size_alloc] at h
    exact h)
  have hW : Below w.heap.size w W0 := by rw [hW0]; exact ((Below.refl _ _).alloc (Nat.le_refl _) _).alloc (by simp) _
  have HN := Lib.hid (hN.below hW)
  have HB := Lib.hid (hB.below hW)
  have p0 := KT.out.cell 0
  have p1 := KT.out.cell 1
  have p2 := KT.out.cell 2
  rw [hW0] at p0 p1 p2
  have HW0 := Lib.hid hW0
  have HCAP := Lib.hid hcap
  obtain ⟨o, ho⟩ : ∃ o, o = pvR v ns bs row col := ⟨_, rfl⟩
  have HO := Lib.hid ho
  rw [← ho]
  clear hN hB hW0 ho hcap
  cases hv : tblB v ns bs
  · have HF := Lib.hid (show o = none by rw [HO.out]; exact pvR_no (by unfold pvB; rw [hv]; rfl))
    go_enter Try.func11, Try.ntmps11
    go_wp2_with fail
    rw [← HW0.out]
    clear p0 p1 p2 HW0
    refine (validTable_r v A n c ns B m d bs _ HN.out HB.out hn hm HCAP.out).mono ?_
    rw [hv]
    rintro e w1 ⟨rfl, b1⟩
    have KR1 := KR.out.ext b1
    have hb := below_ext hW hW.size b1
    have k0 := KR1.cell 0
    have k1 := KR1.cell 1
    have k2 := KR1.cell 2
    have l0 := KR1.free 0
    have l1 := KR1.free 1
    have l2 := KR1.free 2
    clear KR1
    go_wp2_with fail
    refine bodyPost_ret (v := .tuple #[.agg #[.int .i64 0, .slice none 0 0, .slice none 0 0], .bool false]) (by simp [results, Try.results11, go_sem, k0, k1, k2]) rfl ?_
    rw [HF.out]
    exact nilTb _ _ _ (((hb.setCell (p := ⟨w.heap.size + 1, 0, none⟩) (Nat.le_succ _) _).setCell (p := ⟨w.heap.size + 1, 1, none⟩) (Nat.le_succ _) _).setCell (p := ⟨w.heap.size + 1, 2, none⟩) (Nat.le_succ _) _)
  · obtain ⟨V, rfl, hV, hm8, hn8, _, _⟩ := tbl_bd hv
    rw [HLB.out, HLN.out] at hn8
    rw [HLB.out] at hm8
    have HN8 := Lib.hid hn8
    clear hn8
    have HIX := Lib.hid (fun (w : World) => isIndex_any row m w (by omega))
    have HIC := Lib.hid (fun (w : World) => isColumn_any col V A n c B m d w hV.2 hm8.2)
    have HPB := Lib.hid (show pvB V ns bs row col = (inB row 0 ((m : Int) - 1) && inB col 0 ((V : Int) + m - 1)) by unfold pvB; rw [hv, HLB.out, Bool.true_and])
    cases hx : inB row 0 ((m : Int) - 1)
    · rw [hx] at HIX
      have HF := Lib.hid (show o = none by rw [HO.out]; exact pvR_no (by rw [HPB.out, hx]; rfl))
      go_enter Try.func11, Try.ntmps11
      go_wp2_with fail
      rw [← HW0.out]
      clear p0 p1 p2 HW0
      refine (validTable_r V A n c ns B m d bs _ HN.out HB.out hn hm HCAP.out).mono ?_
      rw [hv]
      rintro e w1 ⟨rfl, b1⟩
      have KR1 := KR.out.ext b1
      have hb := below_ext hW hW.size b1
      have p2 := (KT.out.ext b1).cell 2
      have k0 := KR1.cell 0
      have k1 := KR1.cell 1
      have k2 := KR1.cell 2
      have l0 := KR1.free 0
      have l1 := KR1.free 1
      have l2 := KR1.free 2
      clear KR1
      go_wp2_with fail
      refine (HIX.out _).mono ?_
      rintro e w2 ⟨rfl, rfl⟩
      go_wp2_with fail
      refine bodyPost_ret (v := .tuple #[.agg #[.int .i64 0, .slice none 0 0, .slice none 0 0], .bool false]) (by simp [results, Try.results11, go_sem, k0, k1, k2]) rfl ?_
      rw [HF.out]
      exact nilTb _ _ _ (((hb.setCell (p := ⟨w.heap.size + 1, 0, none⟩) (Nat.le_succ _) _).setCell (p := ⟨w.heap.size + 1, 1, none⟩) (Nat.le_succ _) _).setCell (p := ⟨w.heap.size + 1, 2, none⟩) (Nat.le_succ _) _)
    · rw [hx] at HIX
      cases hy : inB col 0 ((V : Int) + m - 1)
      · rw [hy] at HIC
        have HF := Lib.hid (show o = none by rw [HO.out]; exact pvR_no (by rw [HPB.out, hx, hy]; rfl))
        go_enter Try.func11, Try.ntmps11
        go_wp2_with fail
        rw [← HW0.out]
        clear p0 p1 p2 HW0
        refine (validTable_r V A n c ns B m d bs _ HN.out HB.out hn hm HCAP.out).mono ?_
        rw [hv]
        rintro e w1 ⟨rfl, b1⟩
        have KR1 := Lib.hid (KR.out.ext b1)
        have hb := below_ext hW hW.size b1
        have p0 := (KT.out.ext b1).cell 0
        have p1 := (KT.out.ext b1).cell 1
        have p2 := (KT.out.ext b1).cell 2
        clear b1
        go_wp2_with fail
        refine (HIX.out _).mono ?_
        rintro e w2 ⟨rfl, rfl⟩
        go_wp2_with fail
        refine (HIC.out _).mono ?_
        rintro e w3 ⟨rfl, b3⟩
        have KR3 := KR1.out.ext b3
        have hb3 := below_ext hb hb.size b3
        have k0 := KR3.cell 0
        have k1 := KR3.cell 1
        have k2 := KR3.cell 2
        have l0 := KR3.free 0
        have l1 := KR3.free 1
        have l2 := KR3.free 2
        clear KR3 p0 p1 p2
        go_wp2_with fail
        refine bodyPost_ret (v := .tuple #[.agg #[.int .i64 0, .slice none 0 0, .slice none 0 0], .bool false]) (by simp [results, Try.results11, go_sem, k0, k1, k2]) rfl ?_
        rw [HF.out]
        exact nilTb _ _ _ (((hb3.setCell (p := ⟨w.heap.size + 1, 0, none⟩) (Nat.le_succ _) _).setCell (p := ⟨w.heap.size + 1, 1, none⟩) (Nat.le_succ _) _).setCell (p := ⟨w.heap.size + 1, 2, none⟩) (Nat.le_succ _) _)
      · rw [hy] at HIC
        obtain ⟨x0, x1⟩ := inB_iff.1 hx
        obtain ⟨y0, y1⟩ := inB_iff.1 hy
        obtain ⟨r, rfl⟩ := Int.eq_ofNat_of_zero_le x0
        obtain ⟨cc, rfl⟩ := Int.eq_ofNat_of_zero_le y0
        have HF := Lib.hid (show o = pivT V ns bs r cc by rw [HO.out]; exact pvR_yes (by rw [HPB.out, hx, hy]; rfl))
        have HPV := Lib.hid (fun (w : World) hN hB => pivot_any V A n c ns B m d bs r cc w hN hB hV hm8 HN8.out (by omega) (by omega))
        go_enter Try.func11, Try.ntmps11
        go_wp2_with fail
        rw [← HW0.out]
        clear p0 p1 p2 HW0
        refine (validTable_r V A n c ns B m d bs _ HN.out HB.out hn hm HCAP.out).mono ?_
        rw [hv]
        rintro e w1 ⟨rfl, b1⟩
        have KR1 := Lib.hid (KR.out.ext b1)
        have KT1 := Lib.hid (KT.out.ext b1)
        have hb := below_ext hW hW.size b1
        have HN1 := Lib.hid (HN.out.below b1)
        have HB1 := Lib.hid (HB.out.below b1)
        have p0 := KT1.out.cell 0
        have p1 := KT1.out.cell 1
        have p2 := KT1.out.cell 2
        clear b1
        go_wp2_with fail
        refine (HIX.out _).mono ?_
        rintro e w2 ⟨rfl, rfl⟩
        go_wp2_with fail
        refine (HIC.out _).mono ?_
        rintro e w3 ⟨rfl, b3⟩
        have KR3 := Lib.hid (KR1.out.ext b3)
        have hb3 := below_ext hb hb.size b3
        have HN3 := Lib.hid (HN1.out.below b3)
        have HB3 := Lib.hid (HB1.out.below b3)
        clear p0 p1 p2
        have p0 := (KT1.out.ext b3).cell 0
        have p1 := (KT1.out.ext b3).cell 1
        have p2 := (KT1.out.ext b3).cell 2
        clear b3
        go_wp2_with fail
        refine (HPV.out _ HN3.out HB3.out).mono ?_
        rw [← HF.out]
        cases o with
        | none =>
          rintro e w4 ⟨b4, rfl⟩
          have KR4 := KR3.out.ext b4
          have hb4 := below_ext hb3 hb3.size b4
          have k0 := KR4.cell 0
          have k1 := KR4.cell 1
          have k2 := KR4.cell 2
          have l0 := KR4.free 0
          have l1 := KR4.free 1
          have l2 := KR4.free 2
          clear KR4 p0 p1 p2
          go_wp2_with fail
          refine bodyPost_ret (v := .tuple #[.agg #[.int .i64 0, .slice none 0 0, .slice none 0 0], .bool false]) (by simp [results, Try.results11, go_sem, k0, k1, k2]) rfl ?_
          exact nilTb _ _ _ (((hb4.setCell (p := ⟨w.heap.size + 1, 0, none⟩) (Nat.le_succ _) _).setCell (p := ⟨w.heap.size + 1, 1, none⟩) (Nat.le_succ _) _).setCell (p := ⟨w.heap.size + 1, 2, none⟩) (Nat.le_succ _) _)
        | some o2 =>
          obtain ⟨ns', bs'⟩ := o2
          rintro e w4 ⟨b4, A4, n4, c4, B4, m4, d4, rfl, o4, q4⟩
          have KR4 := KR3.out.ext b4
          have hb4 := below_ext hb3 hb3.size b4
          have k0 := KR4.cell 0
          have k1 := KR4.cell 1
          have k2 := KR4.cell 2
          have l0 := KR4.free 0
          have l1 := KR4.free 1
          have l2 := KR4.free 2
          have hsz3 := KR3.out.lt
          clear KR4 p0 p1 p2
          have O4 := Lib.hid o4
          have Q4 := Lib.hid q4
          clear o4 q4
          go_wp2_with fail
          have HU := Upd.setCell (p := ⟨w.heap.size + 1, 2, none⟩) (Upd.setCell (p := ⟨w.heap.size + 1, 1, none⟩) (Upd.setCell (p := ⟨w.heap.size + 1, 0, none⟩) (Upd.refl (fun k => k = w.heap.size + 1) w4) (.inl rfl) (.int .i64 V)) (.inl rfl) (.slice A4 n4 c4)) (.inl rfl) (.slice B4 m4 d4)
          refine bodyPost_ret (v := .tuple #[.agg #[.int .i64 V, .slice A4 n4 c4, .slice B4 m4 d4], .bool true]) (by simp [results, Try.results11, go_sem, k0, k1, k2]) rfl ?_
          exact ⟨A4, n4, c4, B4, m4, d4, rfl, OwnF.upd (OwnF.low O4.out hb3.size) HU (fun x hx e => by have h9 := (O4.out.lt hx).1; omega), OwnI.upd (OwnI.low Q4.out hb3.size) HU (fun x hx e => by have h9 := (Q4.out.lt hx).1; omega), hb4.trans (HU.toBelow hb4.size (fun k hk e => by omega))⟩
end Go.Proofs.Ytckfmemjcjhaaaa
