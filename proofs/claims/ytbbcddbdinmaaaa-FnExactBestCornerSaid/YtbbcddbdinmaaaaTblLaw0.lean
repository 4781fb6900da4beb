/- Tables in the laws: copies and sizes. -/
import Derived.Test.YtbbcddbdinmaaaaRowsLaw0
namespace Go.Proofs.Ytbbcddbdinmaaaa
open Go.RowKit

set_option maxRecDepth 100000 in
set_option maxHeartbeats 1000000 in
theorem toTable_any (v : Int) (A : Option Addr) (n c : Nat) (ns : List Nat) (B : Option Addr) (m d : Nat) (bs : List Int) (w : World) (hN : FltsAt w A n ns) (hB : IntsAt w B m bs) (hn : n ≤ 1048576) (hm : m ≤ 1048576) :
    Calls Try.prog 11 #[.agg #[.int .i64 v, .slice A n c, .slice B m d]] w fun e w' => ∃ (A' : Option Addr) (c' : Nat) (B' : Option Addr) (d' : Nat), e = .returned (.agg #[.int .i64 v, .slice A' n c', .slice B' m d']) ∧
      OwnF 34 w.heap.size w' A' n c' ns ∧ OwnI 2 w.heap.size w' B' m d' bs ∧ Sep A' B' ∧ Below w.heap.size w w' := by
  obtain ⟨W0, hW0⟩ : ∃ W0, W0 = ((w.alloc (.cells #[.int .i64 v, .slice A n c, .slice B m d] 25)).alloc (.cells #[.int .i64 0, .slice none 0 0, .slice none 0 0] 27)).alloc (.cells #[.int .i64 v, .slice none 0 0, .slice none 0 0] 27) := ⟨_, rfl⟩
  have k1 : Blk W0 w.heap.size 25 #[.int .i64 v, .slice A n c, .slice B m d] := by
    rw [hW0]; exact ((Blk.new w _ _).alloc _).alloc _
  have k2 : Blk W0 (w.heap.size + 1) 27 #[.int .i64 0, .slice none 0 0, .slice none 0 0] := by
    rw [hW0]
    have h := (Blk.new (w.alloc (.cells #[.int .i64 v, .slice A n c, .slice B m d] 25)) 27 #[.int .i64 0, .slice none 0 0, .slice none 0 0]).alloc (.cells #[.int .i64 v, .slice none 0 0, .slice none 0 0] 27)
    simp only [World.size_alloc] at h
    exact h
  have k3 : Blk W0 (w.heap.size + 1 + 1) 27 #[.int .i64 v, .slice none 0 0, .slice none 0 0] := by
    rw [hW0]
    have h := Blk.new ((w.alloc (.cells #[.int .i64 v, .slice A n c, .slice B m d] 25)).alloc (.cells #[.int .i64 0, .slice none 0 0, .slice none 0 0] 27)) 27 #[.int .i64 v, .slice none 0 0, .slice none 0 0]
    simp only [World.size_alloc] at h
    exact h
  have hW : Below w.heap.size w W0 := by
    rw [hW0]
    exact (((Below.refl _ _).alloc (Nat.le_refl _) _).alloc (by simp) _).alloc (by simp; omega) _
  have K1 := Lib.hid k1
  have K2 := Lib.hid k2
  have K3 := Lib.hid k3
  have hN0 := hN.below hW
  have HB := Lib.hid hB
  have hsz := k3.lt
  have p1 := k1.cell 1
  rw [hW0] at p1
  have HW0 := Lib.hid hW0
  clear k1 k2 k3 hN hB hW0
  go_enter Try.func11, Try.ntmps11
  go_wp2_with fail
  rw [← HW0.out]
  clear p1 HW0
  refine (toFloat32S_len A n c ns _ hN0 hn).mono ?_
  rintro e w1 ⟨A', c', rfl, o1, b1⟩
  have K1b := Lib.hid (K1.out.ext b1)
  have K2b := Lib.hid (K2.out.ext b1)
  have K3b := Lib.hid (K3.out.ext b1)
  have hb1 := below_ext hW hW.size b1
  have hA : ∀ ad, A' = some ad → w.heap.size + 1 + 1 < ad.block := fun ad ha => by have := (o1.lt ha).1; omega
  have HA := Lib.hid hA
  have c1 := K3b.out.cell 1
  have f1 := K3b.out.free 1
  have p2 := (K1b.out.far (p := ⟨w.heap.size + 1 + 1, 1, none⟩) (by show w.heap.size ≠ w.heap.size + 1 + 1; omega) (.slice A' n c')).cell 2
  have K1c := Lib.hid (K1b.out.far (p := ⟨w.heap.size + 1 + 1, 1, none⟩) (by show w.heap.size ≠ w.heap.size + 1 + 1; omega) (.slice A' n c'))
  have K2c := Lib.hid (K2b.out.far (p := ⟨w.heap.size + 1 + 1, 1, none⟩) (by show w.heap.size + 1 ≠ w.heap.size + 1 + 1; omega) (.slice A' n c'))
  have K3c := Lib.hid (show Blk (w1.setCell ⟨w.heap.size + 1 + 1, 1, none⟩ (.slice A' n c')) (w.heap.size + 1 + 1) 27 #[.int .i64 v, .slice A' n c', .slice none 0 0] from K3b.out.set 1 (.slice A' n c'))
  have oA2 := (OwnF.low o1 hW.size).far (p := ⟨w.heap.size + 1 + 1, 1, none⟩) (fun ad ha => by have := hA ad ha; show ad.block ≠ w.heap.size + 1 + 1; omega) (.slice A' n c')
  have hb2 := hb1.setCell (p := ⟨w.heap.size + 1 + 1, 1, none⟩) (by show w.heap.size ≤ w.heap.size + 1 + 1; omega) (.slice A' n c')
  have hs2 : W0.heap.size ≤ (w1.setCell ⟨w.heap.size + 1 + 1, 1, none⟩ (.slice A' n c')).heap.size := by have := b1.size; simpa using this
  clear K1 K2 K3 K1b K2b K3b o1 b1 hb1
  go_wp2_with fail
  clear c1 f1 p2
  generalize w1.setCell ⟨w.heap.size + 1 + 1, 1, none⟩ (.slice A' n c') = w4 at *
  refine (toInt64S_len B m d bs _ (HB.out.below hb2) hm).mono ?_
  rintro e w5 ⟨B', d', rfl, o5, b5⟩
  have K2f := Lib.hid (K2c.out.ext b5)
  have K3f := Lib.hid (K3c.out.ext b5)
  have hb5 := below_ext hb2 hb2.size b5
  have hG : ∀ ad, B' = some ad → w.heap.size + 1 + 1 < ad.block := fun ad ha => by have := (o5.lt ha).1; omega
  have sAB : Sep A' B' := by
    intro a b ha hb
    have := (oA2.lt ha).2
    have := (o5.lt hb).1
    omega
  have oA5 := oA2.below b5
  have c1 := K3f.out.cell 2
  have f1 := K3f.out.free 2
  have K2g := K2f.out.far (p := ⟨w.heap.size + 1 + 1, 2, none⟩) (by show w.heap.size + 1 ≠ w.heap.size + 1 + 1; omega) (.slice B' m d')
  have K3g := show Blk (w5.setCell ⟨w.heap.size + 1 + 1, 2, none⟩ (.slice B' m d')) (w.heap.size + 1 + 1) 27 #[.int .i64 v, .slice A' n c', .slice B' m d'] from K3f.out.set 2 (.slice B' m d')
  have oA6 := oA5.far (p := ⟨w.heap.size + 1 + 1, 2, none⟩) (fun ad ha => by have := HA.out ad ha; show ad.block ≠ w.heap.size + 1 + 1; omega) (.slice B' m d')
  have oG6 := (OwnI.low o5 hb2.size).far (p := ⟨w.heap.size + 1 + 1, 2, none⟩) (fun ad ha => by have := hG ad ha; show ad.block ≠ w.heap.size + 1 + 1; omega) (.slice B' m d')
  have hb6 := hb5.setCell (p := ⟨w.heap.size + 1 + 1, 2, none⟩) (by show w.heap.size ≤ w.heap.size + 1 + 1; omega) (.slice B' m d')
  clear K1c K2c K3c K2f K3f o5 b5 hb5 hb2 oA2 oA5
  have x0 := K2g.cell 0
  have x1 := K2g.cell 1
  have x2 := K2g.cell 2
  have y0 := K3g.cell 0
  have y1 := K3g.cell 1
  have y2 := K3g.cell 2
  have fx0 := K2g.free 0
  have fx1 := K2g.free 1
  have fx2 := K2g.free 2
  have HU := Lib.hid (fun (w' : World) (hu : Upd (fun k => k = w.heap.size + 1) (w5.setCell ⟨w.heap.size + 1 + 1, 2, none⟩ (.slice B' m d')) w') => show OwnF 34 w.heap.size w' A' n c' ns ∧ OwnI 2 w.heap.size w' B' m d' bs ∧ Sep A' B' ∧ Below w.heap.size w w' from
    ⟨oA6.updS hu (fun ad ha e => by have := HA.out ad ha; omega), oG6.upd hu (fun ad ha e => by have := hG ad ha; omega), sAB, hb6.trans (hu.toBelow hb6.size (fun k hk e => by omega))⟩)
  clear oA6 oG6 sAB hb6 hG K2g K3g
  go_wp2_with fail
  refine bodyPost_ret (v := .agg #[.int .i64 v, .slice A' n c', .slice B' m d']) (by simp [results, Try.results11, go_sem, x0, x1, x2]) rfl ⟨A', c', B', d', rfl, ?_⟩
  refine HU.out _ ?_
  exact (((Upd.refl (fun k => k = w.heap.size + 1) _).setCell (p := ⟨w.heap.size + 1, 0, none⟩) (.inl rfl) _).setCell (p := ⟨w.heap.size + 1, 1, none⟩) (.inl rfl) _).setCell (p := ⟨w.heap.size + 1, 2, none⟩) (.inl rfl) _
theorem szInt_yes (A : Option Addr) (n c : Nat) (left : Int) (w : World) (h : (n : Int) ≤ left) (hl : left ≤ 1048576) :
    Calls Try.prog 35 #[.slice A n c, .int .i64 left] w fun e w' => e = .returned (.int .i64 (left - n)) ∧ w = w' := by
  have hd : ¬ (left - (n : Int) < 0) := by omega
  go_enter Try.func35, Try.ntmps35
  go_wp2_with fail
  go_ret
  exact ⟨rfl, rfl⟩
theorem szInt_no (A : Option Addr) (n c : Nat) (left : Int) (w : World) (h : left < n) (h0 : 0 ≤ left) (hl : left ≤ 1048576) (hn : n ≤ maxLen) :
    Calls Try.prog 35 #[.slice A n c, .int .i64 left] w fun e w' => e = .returned (.int .i64 (-1)) ∧ w = w' := by
  have hn2 : n ≤ 9223372036854775807 := hn
  have hd : left - (n : Int) < 0 := by omega
  go_enter Try.func35, Try.ntmps35
  go_wp2_with fail
  go_ret
  exact ⟨rfl, rfl⟩
theorem szTable_yes (v : Int) (A : Option Addr) (n c : Nat) (B : Option Addr) (m d : Nat) (left : Int) (w : World) (h : (n : Int) + m ≤ left) (hl : left ≤ 1048576) :
    Calls Try.prog 9 #[.agg #[.int .i64 v, .slice A n c, .slice B m d], .int .i64 left] w (RetV (.int .i64 (left - n - m)) w) := by
  have h1 : ¬ (left - (n : Int) < 0) := by omega
  have h2 : ¬ (left - (n : Int) - (m : Int) < 0) := by omega
  go_enter Try.func9, Try.ntmps9
  go_wp2_with fail
  refine (szFlt_yes A n c left _ (by omega) hl).mono ?_
  rintro e w1 ⟨rfl, rfl⟩
  go_wp2_with fail
  refine (szInt_yes B m d (left - n) _ (by omega) (by omega)).mono ?_
  rintro e w1 ⟨rfl, rfl⟩
  go_wp2_with fail
  go_ret
  exact ⟨rfl, (Below.refl _ _).alloc (Nat.le_refl _) _⟩
theorem szTable_no (v : Int) (A : Option Addr) (n c : Nat) (B : Option Addr) (m d : Nat) (left : Int) (w : World) (h : left < (n : Int) + m) (h0 : 0 ≤ left) (hl : left ≤ 1048576) (hn : n ≤ maxLen) (hm : m ≤ maxLen) :
    Calls Try.prog 9 #[.agg #[.int .i64 v, .slice A n c, .slice B m d], .int .i64 left] w (RetV (.int .i64 (-1)) w) := by
  by_cases h1 : left < (n : Int)
  · go_enter Try.func9, Try.ntmps9
    go_wp2_with fail
    refine (szFlt_no A n c left _ h1 h0 hl hn).mono ?_
    rintro e w1 ⟨rfl, rfl⟩
    go_wp2_with fail
    go_ret
    exact ⟨rfl, (Below.refl _ _).alloc (Nat.le_refl _) _⟩
  · have h1' : ¬ (left - (n : Int) < 0) := by omega
    go_enter Try.func9, Try.ntmps9
    go_wp2_with fail
    refine (szFlt_yes A n c left _ (by omega) hl).mono ?_
    rintro e w1 ⟨rfl, rfl⟩
    go_wp2_with fail
    refine (szInt_no B m d (left - n) _ (by omega) (by omega) (by omega) hm).mono ?_
    rintro e w1 ⟨rfl, rfl⟩
    go_wp2_with fail
    go_ret
    exact ⟨rfl, (Below.refl _ _).alloc (Nat.le_refl _) _⟩
end Go.Proofs.Ytbbcddbdinmaaaa
