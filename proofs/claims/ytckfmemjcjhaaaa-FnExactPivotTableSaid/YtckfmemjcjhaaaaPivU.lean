/- The reference's PivotTable. -/
import Derived.Test.YtckfmemjcjhaaaaPivS
import Derived.Test.YtckfmemjcjhaaaaPivR
namespace Go.Proofs.Ytckfmemjcjhaaaa
open Go.RowKit

set_option maxRecDepth 100000 in
set_option maxHeartbeats 1000000 in
theorem l02Column_any (gr : Nat) (v : Int) (A : Option Addr) (n c : Nat) (ns : List Nat) (B : Option Addr) (m d : Nat) (bs : List Int) (col : Int) (w : World) (KX : Blk w gr 27 #[.int .i64 v, .slice A n c, .slice B m d]) (hN : FltsAt w A n ns) (hB : IntsAt w B m bs) (hn : n ≤ maxLen) (hm : m ≤ maxLen) :
    Calls Try.prog 33 #[.pointer (some ⟨gr, 0, none⟩), .int .i64 col] w fun e w' => e = .returned (.bool (tblB v ns bs && inB col 0 (v + m - 1))) ∧ Drew w w' := by
  have HLT := Lib.hid (l02Table_any gr v A n c ns B m d bs w KX hN hB hn hm)
  have HLB := Lib.hid hB.len
  have HKX := Lib.hid KX
  clear KX hN hB
  cases ht : tblB v ns bs
  · rw [ht] at HLT
    go_enter Try.func33, Try.ntmps33
    go_wp2_with fail
    refine HLT.out.mono ?_
    rintro e w1 ⟨rfl, dr⟩
    go_wp2_with fail
    go_ret
    exact ⟨rfl, dr⟩
  · rw [ht] at HLT
    obtain ⟨V, rfl, hV, hm8, -, -, -⟩ := tbl_bd ht
    rw [HLB.out] at hm8
    have HWD := Lib.hid (fun (w : World) KX => l02Wide_any gr V A n c B m d w KX hV.2 hm8.2)
    have HIN := Lib.hid (fun (w : World) => l00In_any col 0 ((V : Int) + m - 1) w)
    have hwe : (((V + m + 1 : Nat) : Int) - 2) = (V : Int) + m - 1 := by omega
    have hwr : IntKind.i64.wrap ((V : Int) + m - 1) = (V : Int) + m - 1 := IntWalk.i64_in _ (by omega)
    generalize V + m + 1 = Wd at *
    go_enter Try.func33, Try.ntmps33
    go_wp2_with fail
    refine HLT.out.mono ?_
    rintro e w1 ⟨rfl, dr⟩
    go_wp2_with fail
    refine (HWD.out _ (by obtain ⟨q, rfl⟩ := dr; exact HKX.out.drewN q)).mono ?_
    rintro e w2 ⟨rfl, dr2⟩
    have dr3 := dr.trans dr2
    clear dr dr2
    go_wp2_with fail
    refine (HIN.out _).mono ?_
    rintro e w3 ⟨rfl, rfl⟩
    go_wp2_with fail
    go_ret
    exact ⟨rfl, dr3⟩
set_option maxRecDepth 100000 in
set_option maxHeartbeats 1000000 in
theorem specPivotTable_r (v : Int) (A : Option Addr) (n c : Nat) (ns : List Nat) (B : Option Addr) (m d : Nat) (bs : List Int) (row col : Int) (w : World) (hN : FltsAt w A n ns) (hB : IntsAt w B m bs) (hn : n ≤ maxLen) (hm : m ≤ maxLen) :
    Calls Try.prog 9 #[.agg #[.int .i64 v, .slice A n c, .slice B m d], .int .i64 row, .int .i64 col] w (RetTb (oV v (pvR v ns bs row col)) (oN (pvR v ns bs row col)) (oQ (pvR v ns bs row col)) (pvR v ns bs row col).isSome w) := by
  have HLB := Lib.hid hB.len
  have HLN := Lib.hid hN.len
  obtain ⟨W0, hW0⟩ : ∃ W0, W0 = (w.alloc (.cells #[.int .i64 v, .slice A n c, .slice B m d] 27)).alloc (.cells #[.int .i64 0, .slice none 0 0, .slice none 0 0] 27) := ⟨_, rfl⟩
  have KT := Lib.hid (show Blk W0 w.heap.size 27 #[.int .i64 v, .slice A n c, .slice B m d] by rw [hW0]; exact (Blk.new w _ _).alloc _)
  have KR := Lib.hid (show Blk W0 (w.heap.size + 1) 27 #[.int .i64 0, .slice none 0 0, .slice none 0 0] by
    rw [hW0]
    have h := Blk.new (w.alloc (.cells #[.int .i64 v, .slice A n c, .slice B m d] 27)) 27 #[.int .i64 0, .slice none 0 0, .slice none 0 0]
    simp only [World.size_alloc] at h
    exact h)
  have hW : Below w.heap.size w W0 := by rw [hW0]; exact ((Below.refl _ _).alloc (Nat.le_refl _) _).alloc (by simp) _
  have HN := Lib.hid (hN.below hW)
  have HB := Lib.hid (hB.below hW)
  have HW0 := Lib.hid hW0
  have HCO := Lib.hid (fun (w' : World) KX hN hB => l02Column_any w.heap.size v A n c ns B m d bs col w' KX hN hB hn hm)
  obtain ⟨o, ho⟩ : ∃ o, o = pvR v ns bs row col := ⟨_, rfl⟩
  have HO := Lib.hid ho
  rw [← ho]
  clear hN hB hW0 ho
  cases hc : (tblB v ns bs && inB col 0 (v + m - 1))
  · rw [hc] at HCO
    have HF := Lib.hid (show o = none by
      rw [HO.out]
      refine pvR_no ?_
      unfold pvB
      rw [HLB.out]
      cases h1 : tblB v ns bs
      · rfl
      · rw [h1, Bool.true_and] at hc
        rw [hc, Bool.and_false, Bool.and_false])
    clear hc
    go_enter Try.func9, Try.ntmps9
    go_wp2_with fail
    rw [← HW0.out]
    clear HW0
    refine (HCO.out _ KT.out HN.out HB.out).mono ?_
    rintro e w1 ⟨rfl, dr⟩
    have b1 := dr.below
    have KR1 := KR.out.ext b1
    have hb := below_ext hW hW.size b1
    have k0 := KR1.cell 0
    have k1 := KR1.cell 1
    have k2 := KR1.cell 2
    have l0 := KR1.free 0
    have l1 := KR1.free 1
    have l2 := KR1.free 2
    clear KR1 dr
    go_wp2_with fail
    refine bodyPost_ret (v := .tuple #[.agg #[.int .i64 0, .slice none 0 0, .slice none 0 0], .bool false]) (by simp [results, Try.results9, go_sem, k0, k1, k2]) rfl ?_
    rw [HF.out]
    exact nilTb _ _ _ (((hb.setCell (p := ⟨w.heap.size + 1, 0, none⟩) (Nat.le_succ _) _).setCell (p := ⟨w.heap.size + 1, 1, none⟩) (Nat.le_succ _) _).setCell (p := ⟨w.heap.size + 1, 2, none⟩) (Nat.le_succ _) _)
  · rw [hc] at HCO
    rw [Bool.and_eq_true] at hc
    obtain ⟨hv, hy⟩ := hc
    obtain ⟨V, rfl, hV, hm8, hn8, -, -⟩ := tbl_bd hv
    rw [HLB.out, HLN.out] at hn8
    rw [HLB.out] at hm8
    have HN8 := Lib.hid hn8
    clear hn8
    have HIX := Lib.hid (fun (w : World) => l00In_any row 0 ((m : Int) - 1) w)
    have HPB := Lib.hid (show pvB V ns bs row col = (inB row 0 ((m : Int) - 1)) by unfold pvB; rw [hv, HLB.out, hy, Bool.true_and, Bool.and_true])
    have hmw : IntKind.i64.wrap ((m : Int) - 1) = (m : Int) - 1 := IntWalk.i64_in _ (by omega)
    have HV := Lib.hid hv
    clear hv
    cases hx : inB row 0 ((m : Int) - 1)
    · rw [hx] at HIX
      have HF := Lib.hid (show o = none by rw [HO.out]; exact pvR_no (by rw [HPB.out, hx]))
      go_enter Try.func9, Try.ntmps9
      go_wp2_with fail
      rw [← HW0.out]
      clear HW0
      refine (HCO.out _ KT.out HN.out HB.out).mono ?_
      rintro e w1 ⟨rfl, dr⟩
      have b1 := dr.below
      have KR1 := KR.out.ext b1
      have hb := below_ext hW hW.size b1
      have p2 := (KT.out.ext b1).cell 2
      have k0 := KR1.cell 0
      have k1 := KR1.cell 1
      have k2 := KR1.cell 2
      have l0 := KR1.free 0
      have l1 := KR1.free 1
      have l2 := KR1.free 2
      clear KR1 dr
      go_wp2_with fail
      refine (HIX.out _).mono ?_
      rintro e w2 ⟨rfl, rfl⟩
      go_wp2_with fail
      refine bodyPost_ret (v := .tuple #[.agg #[.int .i64 0, .slice none 0 0, .slice none 0 0], .bool false]) (by simp [results, Try.results9, go_sem, k0, k1, k2]) rfl ?_
      rw [HF.out]
      exact nilTb _ _ _ (((hb.setCell (p := ⟨w.heap.size + 1, 0, none⟩) (Nat.le_succ _) _).setCell (p := ⟨w.heap.size + 1, 1, none⟩) (Nat.le_succ _) _).setCell (p := ⟨w.heap.size + 1, 2, none⟩) (Nat.le_succ _) _)
    · rw [hx] at HIX
      obtain ⟨x0, x1⟩ := inB_iff.1 hx
      obtain ⟨y0, y1⟩ := inB_iff.1 hy
      obtain ⟨r, rfl⟩ := Int.eq_ofNat_of_zero_le x0
      obtain ⟨cc, rfl⟩ := Int.eq_ofNat_of_zero_le y0
      have HF := Lib.hid (show o = pivT V ns bs r cc by rw [HO.out]; exact pvR_yes (by rw [HPB.out, hx]))
      have HPV := Lib.hid (fun (w' : World) KX hN hB => l02Pivot_any w.heap.size V A n c ns B m d bs r cc w' KX hN hB hV hm8 HN8.out (by omega) (by omega))
      go_enter Try.func9, Try.ntmps9
      go_wp2_with fail
      rw [← HW0.out]
      clear HW0
      refine (HCO.out _ KT.out HN.out HB.out).mono ?_
      rintro e w1 ⟨rfl, dr⟩
      have b1 := dr.below
      have KR1 := Lib.hid (KR.out.ext b1)
      have KT1 := Lib.hid (KT.out.ext b1)
      have hb := below_ext hW hW.size b1
      have HN1 := Lib.hid (HN.out.below b1)
      have HB1 := Lib.hid (HB.out.below b1)
      have p2 := KT1.out.cell 2
      clear b1 dr
      go_wp2_with fail
      refine (HIX.out _).mono ?_
      rintro e w2 ⟨rfl, rfl⟩
      go_wp2_with fail
      refine (HPV.out _ KT1.out HN1.out HB1.out).mono ?_
      rw [← HF.out]
      clear p2
      cases o with
      | none =>
        rintro e w4 ⟨b4, v4, A4, n4, c4, B4, m4, d4, rfl⟩
        have KR4 := KR1.out.ext b4
        have hb4 := below_ext hb hb.size b4
        have hs4 := hb4.size
        have KR5 := KR4.alloc (.cells #[.int .i64 v4, .slice A4 n4 c4, .slice B4 m4 d4] 27)
        have k0 := KR5.cell 0
        have k1 := KR5.cell 1
        have k2 := KR5.cell 2
        have l0 := KR5.free 0
        have l1 := KR5.free 1
        have l2 := KR5.free 2
        have hb5 := hb4.alloc hb4.size (.cells #[.int .i64 v4, .slice A4 n4 c4, .slice B4 m4 d4] 27)
        clear KR4 KR5
        go_wp2_with fail
        refine bodyPost_ret (v := .tuple #[.agg #[.int .i64 0, .slice none 0 0, .slice none 0 0], .bool false]) (by simp [results, Try.results9, go_sem, k0, k1, k2]) rfl ?_
        exact nilTb _ _ _ (((hb5.setCell (p := ⟨w.heap.size + 1, 0, none⟩) (Nat.le_succ _) _).setCell (p := ⟨w.heap.size + 1, 1, none⟩) (Nat.le_succ _) _).setCell (p := ⟨w.heap.size + 1, 2, none⟩) (Nat.le_succ _) _)
      | some o2 =>
        obtain ⟨ns', bs'⟩ := o2
        rintro e w4 ⟨b4, A4, n4, c4, B4, m4, d4, rfl, o4, q4⟩
        have KR4 := KR1.out.ext b4
        have hb4 := below_ext hb hb.size b4
        have hs4 := hb4.size
        have KR5 := KR4.alloc (.cells #[.int .i64 V, .slice A4 n4 c4, .slice B4 m4 d4] 27)
        have KO := Blk.new w4 27 #[.int .i64 V, .slice A4 n4 c4, .slice B4 m4 d4]
        have p0 := KO.cell 0
        have p1 := KO.cell 1
        have p2 := KO.cell 2
        have k0 := KR5.cell 0
        have k1 := KR5.cell 1
        have k2 := KR5.cell 2
        have l0 := KR5.free 0
        have l1 := KR5.free 1
        have l2 := KR5.free 2
        have hsz3 := KR1.out.lt
        have hb5 := hb4.alloc hb4.size (.cells #[.int .i64 V, .slice A4 n4 c4, .slice B4 m4 d4] 27)
        have O4 := Lib.hid (o4.alloc (.cells #[.int .i64 V, .slice A4 n4 c4, .slice B4 m4 d4] 27))
        have Q4 := Lib.hid (q4.alloc (.cells #[.int .i64 V, .slice A4 n4 c4, .slice B4 m4 d4] 27))
        clear KR4 KR5 KO o4 q4
        go_wp2_with fail
        have HU := Upd.setCell (p := ⟨w.heap.size + 1, 2, none⟩) (Upd.setCell (p := ⟨w.heap.size + 1, 1, none⟩) (Upd.setCell (p := ⟨w.heap.size + 1, 0, none⟩) (Upd.refl (fun k => k = w.heap.size + 1) (w4.alloc (.cells #[.int .i64 V, .slice A4 n4 c4, .slice B4 m4 d4] 27))) (.inl rfl) (.int .i64 V)) (.inl rfl) (.slice A4 n4 c4)) (.inl rfl) (.slice B4 m4 d4)
        refine bodyPost_ret (v := .tuple #[.agg #[.int .i64 V, .slice A4 n4 c4, .slice B4 m4 d4], .bool true]) (by simp [results, Try.results9, go_sem, k0, k1, k2]) rfl ?_
        exact ⟨A4, n4, c4, B4, m4, d4, rfl, OwnF.upd (OwnF.low O4.out hb.size) HU (fun x hx e => by have h9 := (O4.out.lt hx).1; omega), OwnI.upd (OwnI.low Q4.out hb.size) HU (fun x hx e => by have h9 := (Q4.out.lt hx).1; omega), hb5.trans (HU.toBelow hb5.size (fun k hk e => by omega))⟩
end Go.Proofs.Ytckfmemjcjhaaaa
