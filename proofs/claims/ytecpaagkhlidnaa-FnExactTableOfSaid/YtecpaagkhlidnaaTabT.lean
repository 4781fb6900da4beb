/- The table of rows: the reference's TableOf. -/
import Derived.Test.YtecpaagkhlidnaaTabI
import Derived.Test.YtecpaagkhlidnaaTabS
namespace Go.Proofs.Ytecpaagkhlidnaa
open Go.RowKit

set_option maxRecDepth 100000 in
set_option maxHeartbeats 1000000 in
theorem specTableOf_r (v : Int) (A : Option Addr) (n c : Nat) (ns : List Nat) (B : Option Addr) (m d : Nat) (bs : List Nat) (G : Option Addr) (p g : Nat) (gs : List Nat) (w : World) (hN : FltsAt w A n ns) (hB : FltsAt w B m bs) (hG : FltsAt w G p gs) (hn : n ≤ maxLen) (hm : m ≤ maxLen) (hp : p ≤ maxLen) :
    Calls Try.prog 11 #[.agg #[.int .i64 v, .slice A n c, .slice B m d, .slice G p g]] w (RetTab (tabV v ns bs gs) (tabN v ns bs gs) (tabQ v ns bs gs) (rowsB v ns bs gs) w) := by
  obtain ⟨W0, hW0⟩ : ∃ W0, W0 = (w.alloc (.cells #[.int .i64 v, .slice A n c, .slice B m d, .slice G p g] 31)).alloc (.cells #[.int .i64 0, .slice none 0 0, .slice none 0 0] 28) := ⟨_, rfl⟩
  have k1 : Blk W0 w.heap.size 31 #[.int .i64 v, .slice A n c, .slice B m d, .slice G p g] := by rw [hW0]; exact (Blk.new w _ _).alloc _
  have k2 : Blk W0 (w.heap.size + 1) 28 #[.int .i64 0, .slice none 0 0, .slice none 0 0] := by
    rw [hW0]
    have h := Blk.new (w.alloc (.cells #[.int .i64 v, .slice A n c, .slice B m d, .slice G p g] 31)) 28 #[.int .i64 0, .slice none 0 0, .slice none 0 0]
    simp only [World.size_alloc] at h
    exact h
  have hW : Below w.heap.size w W0 := by rw [hW0]; exact ((Below.refl _ _).alloc (Nat.le_refl _) _).alloc (by simp) _
  have HK1 := Lib.hid k1
  have HK2 := Lib.hid k2
  have HLN := Lib.hid hN.len
  have HLB := Lib.hid hB.len
  have HLG := Lib.hid hG.len
  have HW0 := Lib.hid hW0
  have hg2 := k2.lt
  have HNA := Lib.hid hN
  have HBA := Lib.hid hB
  have HGA := Lib.hid hG
  clear k1 k2 hW0 hN hB hG
  cases hrb : rowsB v ns bs gs
  · have HV := Lib.hid (show tabV v ns bs gs = 0 ∧ tabN v ns bs gs = [] ∧ tabQ v ns bs gs = [] from ⟨by unfold tabV; rw [if_neg (by rw [hrb]; decide)], by unfold tabN; rw [if_neg (by rw [hrb]; decide)], by unfold tabQ; rw [if_neg (by rw [hrb]; decide)]⟩)
    go_enter Try.func11, Try.ntmps11
    go_wp2_with fail
    rw [← HW0.out]
    refine (l02Is_any w.heap.size v A n c ns B m d bs G p g gs _ HK1.out (HNA.out.below hW) (HBA.out.below hW) (HGA.out.below hW) hn hm hp).mono ?_
    rw [hrb]
    rintro e w1 ⟨rfl, dr⟩
    have b1 := dr.below
    have k2 := HK2.out.ext b1
    have x0 := k2.cell 0
    have x1 := k2.cell 1
    have x2 := k2.cell 2
    have fx0 := k2.free 0
    have fx1 := k2.free 1
    have fx2 := k2.free 2
    have hb1 := below_ext hW hW.size b1
    clear k2 dr
    go_wp2_with fail
    refine bodyPost_ret (v := .tuple #[.agg #[.int .i64 0, .slice none 0 0, .slice none 0 0], .bool false]) (by simp [results, Try.results11, go_sem, x0, x1, x2]) rfl ?_
    rw [HV.out.1, HV.out.2.1, HV.out.2.2]
    exact ⟨none, 0, 0, none, 0, 0, rfl, OwnF.nil_ _ _ _, OwnI.nil_ _ _ _, ((hb1.setCell (p := ⟨w.heap.size + 1, 0, none⟩) (Nat.le_succ _) _).setCell (p := ⟨w.heap.size + 1, 1, none⟩) (Nat.le_succ _) _).setCell (p := ⟨w.heap.size + 1, 2, none⟩) (Nat.le_succ _) _⟩
  · obtain ⟨V, rfl, hVb, hmb, hnl, hpl⟩ := rows_bd hrb
    rw [HLB.out] at hmb hnl
    rw [HLN.out] at hnl
    rw [HLG.out] at hpl
    have HNL := Lib.hid hnl
    have HPL := Lib.hid hpl
    have HVB := Lib.hid hVb
    have HMB := Lib.hid hmb
    have HV := Lib.hid (show tabV V ns bs gs = (V : Int) ∧ tabN V ns bs gs = tabT V m ns bs gs (m + 1) ∧ tabQ V ns bs gs = seqI V m from ⟨by unfold tabV; rw [if_pos hrb], by unfold tabN; rw [if_pos hrb, HLB.out]; rfl, by unfold tabQ; rw [if_pos hrb, HLB.out]⟩)
    clear hnl hpl hVb hmb
    go_enter Try.func11, Try.ntmps11
    go_wp2_with fail
    rw [← HW0.out]
    refine (l02Is_any w.heap.size V A n c ns B m d bs G p g gs _ HK1.out (HNA.out.below hW) (HBA.out.below hW) (HGA.out.below hW) hn hm hp).mono ?_
    rw [hrb]
    rintro e w1 ⟨rfl, dr⟩
    have b1 := dr.below
    have hb1 := below_ext hW hW.size b1
    have K1 := Lib.hid (HK1.out.ext b1)
    have K2 := Lib.hid (HK2.out.ext b1)
    have hsz1 := b1.size
    have hs0 := hb1.size
    clear dr b1 hrb
    go_wp2_with fail
    refine (l02TableOf_any w.heap.size V m A n c ns B d bs G p g gs _ K1.out (HNA.out.below hb1) (HBA.out.below hb1) (HGA.out.below hb1) HVB.out HMB.out HNL.out HPL.out).mono ?_
    rintro e w2 ⟨N, nn, cn, Q, cq, rfl, oN, oQ, b2⟩
    have k2 := K2.out.ext b2
    have x0 := k2.cell 0
    have x1 := k2.cell 1
    have x2 := k2.cell 2
    have fx0 := k2.free 0
    have fx1 := k2.free 1
    have fx2 := k2.free 2
    have HU := Lib.hid (fun (w' : World) (hu : Upd (fun k => k = w.heap.size + 1) w2 w') => show OwnF 43 w.heap.size w' N nn cn (tabT V m ns bs gs (m + 1)) ∧ OwnI 2 w.heap.size w' Q m cq (seqI V m) ∧ Below w.heap.size w w' from by
      have hb2 := below_ext hb1 hs0 b2
      have hz2 := b2.size
      refine ⟨(OwnF.upd oN hu (fun ad ha e => ?_)).low hs0, (OwnI.upd oQ hu (fun ad ha e => ?_)).low hs0, hb2.trans (hu.toBelow (by omega) (fun j hj e => by omega))⟩
      · have := (oN.lt ha).1; omega
      · have := (oQ.lt ha).1; omega)
    clear k2 oN oQ b2
    go_wp2_with fail
    refine bodyPost_ret (v := .tuple #[.agg #[.int .i64 V, .slice N nn cn, .slice Q m cq], .bool true]) (by simp [results, Try.results11, go_sem, x0, x1, x2]) rfl ?_
    rw [HV.out.1, HV.out.2.1, HV.out.2.2]
    exact ⟨_, _, _, _, _, _, rfl, HU.out _ ((((Upd.refl (fun k => k = w.heap.size + 1) _).setCell (p := ⟨w.heap.size + 1, 0, none⟩) (.inl rfl) _).setCell (p := ⟨w.heap.size + 1, 1, none⟩) (.inl rfl) _).setCell (p := ⟨w.heap.size + 1, 2, none⟩) (.inl rfl) _)⟩
end Go.Proofs.Ytecpaagkhlidnaa
