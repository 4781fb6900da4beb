/- Rows and tables in the laws: copies, equalities, marks. -/
import Derived.Test.YtbbcddbdinmaaaaFltLaw
import Derived.Test.YtbbcddbdinmaaaaRowsF
namespace Go.Proofs.Ytbbcddbdinmaaaa
open Go.RowKit

theorem OwnF.updS {T base : Nat} {w w' : World} {A : Option Addr} {n c : Nat} {zs : List Nat} {S : Nat → Prop} (h : OwnF T base w A n c zs) (hb : Upd S w w') (hS : ∀ ad, A = some ad → ¬ S ad.block) : OwnF T base w' A n c zs := h.keep fun ad h1 h2 => hb.block _ h2 (hS ad h1)
theorem pure_retD {P : Program} {f : FuncId} {args : Array Value} {w : World} {v : Value} (h : Calls P f args w fun e w' => e = .returned v ∧ Drew w w') : Calls P f args w (RetV v w) :=
  h.mono fun _ _ ⟨h1, h2⟩ => ⟨h1, h2.below⟩
set_option maxRecDepth 100000 in
set_option maxHeartbeats 1000000 in
theorem toRows_any (v : Int) (A : Option Addr) (n c : Nat) (ns : List Nat) (B : Option Addr) (m d : Nat) (bs : List Nat) (G : Option Addr) (p g : Nat) (gs : List Nat) (w : World) (hN : FltsAt w A n ns) (hB : FltsAt w B m bs) (hG : FltsAt w G p gs) (hn : n ≤ 1048576) (hm : m ≤ 1048576) (hp : p ≤ 1048576) :
    Calls Try.prog 20 #[.agg #[.int .i64 v, .slice A n c, .slice B m d, .slice G p g]] w fun e w' => ∃ (A' : Option Addr) (c' : Nat) (B' : Option Addr) (d' : Nat) (G' : Option Addr) (g' : Nat), e = .returned (.agg #[.int .i64 v, .slice A' n c', .slice B' m d', .slice G' p g']) ∧
      OwnF 34 w.heap.size w' A' n c' ns ∧ OwnF 34 w.heap.size w' B' m d' bs ∧ OwnF 34 w.heap.size w' G' p g' gs ∧ Sep A' B' ∧ Sep A' G' ∧ Sep B' G' ∧ Below w.heap.size w w' := by
  obtain ⟨W0, hW0⟩ : ∃ W0, W0 = ((w.alloc (.cells #[.int .i64 v, .slice A n c, .slice B m d, .slice G p g] 39)).alloc (.cells #[.int .i64 0, .slice none 0 0, .slice none 0 0, .slice none 0 0] 43)).alloc (.cells #[.int .i64 v, .slice none 0 0, .slice none 0 0, .slice none 0 0] 43) := ⟨_, rfl⟩
  have k1 : Blk W0 w.heap.size 39 #[.int .i64 v, .slice A n c, .slice B m d, .slice G p g] := by
    rw [hW0]; exact ((Blk.new w _ _).alloc _).alloc _
  have k2 : Blk W0 (w.heap.size + 1) 43 #[.int .i64 0, .slice none 0 0, .slice none 0 0, .slice none 0 0] := by
    rw [hW0]
    have h := (Blk.new (w.alloc (.cells #[.int .i64 v, .slice A n c, .slice B m d, .slice G p g] 39)) 43 #[.int .i64 0, .slice none 0 0, .slice none 0 0, .slice none 0 0]).alloc (.cells #[.int .i64 v, .slice none 0 0, .slice none 0 0, .slice none 0 0] 43)
    simp only [World.size_alloc] at h
    exact h
  have k3 : Blk W0 (w.heap.size + 1 + 1) 43 #[.int .i64 v, .slice none 0 0, .slice none 0 0, .slice none 0 0] := by
    rw [hW0]
    have h := Blk.new ((w.alloc (.cells #[.int .i64 v, .slice A n c, .slice B m d, .slice G p g] 39)).alloc (.cells #[.int .i64 0, .slice none 0 0, .slice none 0 0, .slice none 0 0] 43)) 43 #[.int .i64 v, .slice none 0 0, .slice none 0 0, .slice none 0 0]
    simp only [World.size_alloc] at h
    exact h
  have hW : Below w.heap.size w W0 := by
    rw [hW0]
    exact (((Below.refl _ _).alloc (Nat.le_refl _) _).alloc (by simp) _).alloc (by simp; omega) _
  have K1 := Lib.hid k1
  have K2 := Lib.hid k2
  have K3 := Lib.hid k3
  have hN0 := hN.below hW
  have HB := Lib.hid hB
  have HG := Lib.hid hG
  have hsz := k3.lt
  have p1 := k1.cell 1
  rw [hW0] at p1
  have HW0 := Lib.hid hW0
  clear k1 k2 k3 hN hB hG hW0
  go_enter Try.func20, Try.ntmps20
  go_wp2_with fail
  rw [← HW0.out]
  clear p1 HW0
  refine (toFloat32S_len A n c ns _ hN0 hn).mono ?_
  rintro e w1 ⟨A', c', rfl, o1, b1⟩
  have K1b := Lib.hid (K1.out.ext b1)
  have K2b := Lib.hid (K2.out.ext b1)
  have K3b := Lib.hid (K3.out.ext b1)
  have hb1 := below_ext hW hW.size b1
  have hA : ∀ ad, A' = some ad → w.heap.size + 1 + 1 < ad.block := fun ad ha => by have := (o1.lt ha).1; omega
  have HA := Lib.hid hA
  have c1 := K3b.out.cell 1
  have f1 := K3b.out.free 1
  have p2 := (K1b.out.far (p := ⟨w.heap.size + 1 + 1, 1, none⟩) (by show w.heap.size ≠ w.heap.size + 1 + 1; omega) (.slice A' n c')).cell 2
  have K1c := Lib.hid (K1b.out.far (p := ⟨w.heap.size + 1 + 1, 1, none⟩) (by show w.heap.size ≠ w.heap.size + 1 + 1; omega) (.slice A' n c'))
  have K2c := Lib.hid (K2b.out.far (p := ⟨w.heap.size + 1 + 1, 1, none⟩) (by show w.heap.size + 1 ≠ w.heap.size + 1 + 1; omega) (.slice A' n c'))
  have K3c := Lib.hid (show Blk (w1.setCell ⟨w.heap.size + 1 + 1, 1, none⟩ (.slice A' n c')) (w.heap.size + 1 + 1) 43 #[.int .i64 v, .slice A' n c', .slice none 0 0, .slice none 0 0] from K3b.out.set 1 (.slice A' n c'))
  have oA2 := (OwnF.low o1 hW.size).far (p := ⟨w.heap.size + 1 + 1, 1, none⟩) (fun ad ha => by have := hA ad ha; show ad.block ≠ w.heap.size + 1 + 1; omega) (.slice A' n c')
  have hb2 := hb1.setCell (p := ⟨w.heap.size + 1 + 1, 1, none⟩) (by show w.heap.size ≤ w.heap.size + 1 + 1; omega) (.slice A' n c')
  have hs2 : W0.heap.size ≤ (w1.setCell ⟨w.heap.size + 1 + 1, 1, none⟩ (.slice A' n c')).heap.size := by have := b1.size; simpa using this
  clear K1 K2 K3 K1b K2b K3b o1 b1 hb1
  go_wp2_with fail
  clear c1 f1 p2
  generalize w1.setCell ⟨w.heap.size + 1 + 1, 1, none⟩ (.slice A' n c') = w2 at *
  refine (toFloat32S_len B m d bs _ (HB.out.below hb2) hm).mono ?_
  rintro e w3 ⟨B', d', rfl, o3, b3⟩
  have K1d := Lib.hid (K1c.out.ext b3)
  have K2d := Lib.hid (K2c.out.ext b3)
  have K3d := Lib.hid (K3c.out.ext b3)
  have hb3 := below_ext hb2 hb2.size b3
  have hB : ∀ ad, B' = some ad → w.heap.size + 1 + 1 < ad.block := fun ad ha => by have := (o3.lt ha).1; omega
  have sAB := sepF_new oA2 o3
  have oA3 := oA2.below b3
  have c1 := K3d.out.cell 2
  have f1 := K3d.out.free 2
  have p2 := (K1d.out.far (p := ⟨w.heap.size + 1 + 1, 2, none⟩) (by show w.heap.size ≠ w.heap.size + 1 + 1; omega) (.slice B' m d')).cell 3
  have K1e := Lib.hid (K1d.out.far (p := ⟨w.heap.size + 1 + 1, 2, none⟩) (by show w.heap.size ≠ w.heap.size + 1 + 1; omega) (.slice B' m d'))
  have K2e := Lib.hid (K2d.out.far (p := ⟨w.heap.size + 1 + 1, 2, none⟩) (by show w.heap.size + 1 ≠ w.heap.size + 1 + 1; omega) (.slice B' m d'))
  have K3e := Lib.hid (show Blk (w3.setCell ⟨w.heap.size + 1 + 1, 2, none⟩ (.slice B' m d')) (w.heap.size + 1 + 1) 43 #[.int .i64 v, .slice A' n c', .slice B' m d', .slice none 0 0] from K3d.out.set 2 (.slice B' m d'))
  have oA4 := oA3.far (p := ⟨w.heap.size + 1 + 1, 2, none⟩) (fun ad ha => by have := HA.out ad ha; show ad.block ≠ w.heap.size + 1 + 1; omega) (.slice B' m d')
  have oB4 := (OwnF.low o3 hb2.size).far (p := ⟨w.heap.size + 1 + 1, 2, none⟩) (fun ad ha => by have := hB ad ha; show ad.block ≠ w.heap.size + 1 + 1; omega) (.slice B' m d')
  have hb4 := hb3.setCell (p := ⟨w.heap.size + 1 + 1, 2, none⟩) (by show w.heap.size ≤ w.heap.size + 1 + 1; omega) (.slice B' m d')
  have hs4 : W0.heap.size ≤ (w3.setCell ⟨w.heap.size + 1 + 1, 2, none⟩ (.slice B' m d')).heap.size := by have := b3.size; simp; omega
  have HBx := Lib.hid hB
  clear K1c K2c K3c K1d K2d K3d o3 b3 hb3 hb2 oA2 oA3 hB
  go_wp2_with fail
  clear c1 f1 p2
  generalize w3.setCell ⟨w.heap.size + 1 + 1, 2, none⟩ (.slice B' m d') = w4 at *
  refine (toFloat32S_len G p g gs _ (HG.out.below hb4) hp).mono ?_
  rintro e w5 ⟨G', g', rfl, o5, b5⟩
  have K2f := Lib.hid (K2e.out.ext b5)
  have K3f := Lib.hid (K3e.out.ext b5)
  have hb5 := below_ext hb4 hb4.size b5
  have hG : ∀ ad, G' = some ad → w.heap.size + 1 + 1 < ad.block := fun ad ha => by have := (o5.lt ha).1; omega
  have sAG := sepF_new oA4 o5
  have sBG := sepF_new oB4 o5
  have oA5 := oA4.below b5
  have oB5 := oB4.below b5
  have c1 := K3f.out.cell 3
  have f1 := K3f.out.free 3
  have K2g := K2f.out.far (p := ⟨w.heap.size + 1 + 1, 3, none⟩) (by show w.heap.size + 1 ≠ w.heap.size + 1 + 1; omega) (.slice G' p g')
  have K3g := show Blk (w5.setCell ⟨w.heap.size + 1 + 1, 3, none⟩ (.slice G' p g')) (w.heap.size + 1 + 1) 43 #[.int .i64 v, .slice A' n c', .slice B' m d', .slice G' p g'] from K3f.out.set 3 (.slice G' p g')
  have oA6 := oA5.far (p := ⟨w.heap.size + 1 + 1, 3, none⟩) (fun ad ha => by have := HA.out ad ha; show ad.block ≠ w.heap.size + 1 + 1; omega) (.slice G' p g')
  have oB6 := oB5.far (p := ⟨w.heap.size + 1 + 1, 3, none⟩) (fun ad ha => by have := HBx.out ad ha; show ad.block ≠ w.heap.size + 1 + 1; omega) (.slice G' p g')
  have oG6 := (OwnF.low o5 hb4.size).far (p := ⟨w.heap.size + 1 + 1, 3, none⟩) (fun ad ha => by have := hG ad ha; show ad.block ≠ w.heap.size + 1 + 1; omega) (.slice G' p g')
  have hb6 := hb5.setCell (p := ⟨w.heap.size + 1 + 1, 3, none⟩) (by show w.heap.size ≤ w.heap.size + 1 + 1; omega) (.slice G' p g')
  clear K1e K2e K3e K2f K3f o5 b5 hb5 hb4 oA4 oB4 oA5 oB5
  have x0 := K2g.cell 0
  have x1 := K2g.cell 1
  have x2 := K2g.cell 2
  have x3 := K2g.cell 3
  have y0 := K3g.cell 0
  have y1 := K3g.cell 1
  have y2 := K3g.cell 2
  have y3 := K3g.cell 3
  have fx0 := K2g.free 0
  have fx1 := K2g.free 1
  have fx2 := K2g.free 2
  have fx3 := K2g.free 3
  have HU := Lib.hid (fun (w' : World) (hu : Upd (fun k => k = w.heap.size + 1) (w5.setCell ⟨w.heap.size + 1 + 1, 3, none⟩ (.slice G' p g')) w') => show OwnF 34 w.heap.size w' A' n c' ns ∧ OwnF 34 w.heap.size w' B' m d' bs ∧ OwnF 34 w.heap.size w' G' p g' gs ∧ Sep A' B' ∧ Sep A' G' ∧ Sep B' G' ∧ Below w.heap.size w w' from
    ⟨oA6.updS hu (fun ad ha e => by have := HA.out ad ha; omega), oB6.updS hu (fun ad ha e => by have := HBx.out ad ha; omega), oG6.updS hu (fun ad ha e => by have := hG ad ha; omega), sAB, sAG, sBG, hb6.trans (hu.toBelow hb6.size (fun k hk e => by omega))⟩)
  clear oA6 oB6 oG6 sAB sAG sBG hb6 hG K2g K3g
  go_wp2_with fail
  refine bodyPost_ret (v := .agg #[.int .i64 v, .slice A' n c', .slice B' m d', .slice G' p g']) (by simp [results, Try.results20, go_sem, x0, x1, x2, x3]) rfl ⟨A', c', B', d', G', g', rfl, ?_⟩
  refine HU.out _ ?_
  exact ((((Upd.refl (fun k => k = w.heap.size + 1) _).setCell (p := ⟨w.heap.size + 1, 0, none⟩) (.inl rfl) _).setCell (p := ⟨w.heap.size + 1, 1, none⟩) (.inl rfl) _).setCell (p := ⟨w.heap.size + 1, 2, none⟩) (.inl rfl) _).setCell (p := ⟨w.heap.size + 1, 3, none⟩) (.inl rfl) _
theorem szFlt_yes (A : Option Addr) (n c : Nat) (left : Int) (w : World) (h : (n : Int) ≤ left) (hl : left ≤ 1048576) :
    Calls Try.prog 34 #[.slice A n c, .int .i64 left] w fun e w' => e = .returned (.int .i64 (left - n)) ∧ w = w' := by
  have hd : ¬ (left - (n : Int) < 0) := by omega
  go_enter Try.func34, Try.ntmps34
  go_wp2_with fail
  go_ret
  exact ⟨rfl, rfl⟩
theorem szFlt_no (A : Option Addr) (n c : Nat) (left : Int) (w : World) (h : left < n) (h0 : 0 ≤ left) (hl : left ≤ 1048576) (hn : n ≤ maxLen) :
    Calls Try.prog 34 #[.slice A n c, .int .i64 left] w fun e w' => e = .returned (.int .i64 (-1)) ∧ w = w' := by
  have hn2 : n ≤ 9223372036854775807 := hn
  have hd : left - (n : Int) < 0 := by omega
  go_enter Try.func34, Try.ntmps34
  go_wp2_with fail
  go_ret
  exact ⟨rfl, rfl⟩
theorem szRows_yes (v : Int) (A : Option Addr) (n c : Nat) (B : Option Addr) (m d : Nat) (G : Option Addr) (p g : Nat) (left : Int) (w : World) (h : (n : Int) + m + p ≤ left) (hl : left ≤ 1048576) :
    Calls Try.prog 18 #[.agg #[.int .i64 v, .slice A n c, .slice B m d, .slice G p g], .int .i64 left] w (RetV (.int .i64 (left - n - m - p)) w) := by
  have h1 : ¬ (left - (n : Int) < 0) := by omega
  have h2 : ¬ (left - (n : Int) - (m : Int) < 0) := by omega
  have h3 : ¬ (left - (n : Int) - (m : Int) - (p : Int) < 0) := by omega
  go_enter Try.func18, Try.ntmps18
  go_wp2_with fail
  refine (szFlt_yes A n c left _ (by omega) hl).mono ?_
  rintro e w1 ⟨rfl, rfl⟩
  go_wp2_with fail
  refine (szFlt_yes B m d (left - n) _ (by omega) (by omega)).mono ?_
  rintro e w1 ⟨rfl, rfl⟩
  go_wp2_with fail
  refine (szFlt_yes G p g (left - n - m) _ (by omega) (by omega)).mono ?_
  rintro e w1 ⟨rfl, rfl⟩
  go_wp2_with fail
  go_ret
  exact ⟨rfl, (Below.refl _ _).alloc (Nat.le_refl _) _⟩
theorem szRows_no (v : Int) (A : Option Addr) (n c : Nat) (B : Option Addr) (m d : Nat) (G : Option Addr) (p g : Nat) (left : Int) (w : World) (h : left < (n : Int) + m + p) (h0 : 0 ≤ left) (hl : left ≤ 1048576) (hn : n ≤ maxLen) (hm : m ≤ maxLen) (hp : p ≤ maxLen) :
    Calls Try.prog 18 #[.agg #[.int .i64 v, .slice A n c, .slice B m d, .slice G p g], .int .i64 left] w (RetV (.int .i64 (-1)) w) := by
  by_cases h1 : left < (n : Int)
  · go_enter Try.func18, Try.ntmps18
    go_wp2_with fail
    refine (szFlt_no A n c left _ h1 h0 hl hn).mono ?_
    rintro e w1 ⟨rfl, rfl⟩
    go_wp2_with fail
    go_ret
    exact ⟨rfl, (Below.refl _ _).alloc (Nat.le_refl _) _⟩
  · have h1' : ¬ (left - (n : Int) < 0) := by omega
    by_cases h2 : left - n < (m : Int)
    · go_enter Try.func18, Try.ntmps18
      go_wp2_with fail
      refine (szFlt_yes A n c left _ (by omega) hl).mono ?_
      rintro e w1 ⟨rfl, rfl⟩
      go_wp2_with fail
      refine (szFlt_no B m d (left - n) _ h2 (by omega) (by omega) hm).mono ?_
      rintro e w1 ⟨rfl, rfl⟩
      go_wp2_with fail
      go_ret
      exact ⟨rfl, (Below.refl _ _).alloc (Nat.le_refl _) _⟩
    · have h2' : ¬ (left - (n : Int) - (m : Int) < 0) := by omega
      go_enter Try.func18, Try.ntmps18
      go_wp2_with fail
      refine (szFlt_yes A n c left _ (by omega) hl).mono ?_
      rintro e w1 ⟨rfl, rfl⟩
      go_wp2_with fail
      refine (szFlt_yes B m d (left - n) _ (by omega) (by omega)).mono ?_
      rintro e w1 ⟨rfl, rfl⟩
      go_wp2_with fail
      refine (szFlt_no G p g (left - n - m) _ (by omega) (by omega) (by omega) hp).mono ?_
      rintro e w1 ⟨rfl, rfl⟩
      go_wp2_with fail
      go_ret
      exact ⟨rfl, (Below.refl _ _).alloc (Nat.le_refl _) _⟩
set_option maxHeartbeats 1000000 in
theorem eqRows_same (v : Int) (A : Option Addr) (n c : Nat) (ns : List Nat) (B : Option Addr) (m d : Nat) (bs : List Nat) (G : Option Addr) (p g : Nat) (gs : List Nat) (A' : Option Addr) (c' : Nat) (B' : Option Addr) (d' : Nat) (G' : Option Addr) (g' : Nat) (w : World)
    (hN : FltsAt w A n ns) (hB : FltsAt w B m bs) (hG : FltsAt w G p gs) (hN' : FltsAt w A' n ns) (hB' : FltsAt w B' m bs) (hG' : FltsAt w G' p gs) (hn : n ≤ maxLen) (hm : m ≤ maxLen) (hp : p ≤ maxLen) :
    Calls Try.prog 23 #[.agg #[.int .i64 v, .slice A n c, .slice B m d, .slice G p g], .agg #[.int .i64 v, .slice A' n c', .slice B' m d', .slice G' p g']] w (RetV (.bool true) w) := by
  have hself : (v != v) = false := by simp
  obtain ⟨W0, hW0⟩ : ∃ W0, W0 = (w.alloc (.cells #[.int .i64 v, .slice A n c, .slice B m d, .slice G p g] 43)).alloc (.cells #[.int .i64 v, .slice A' n c', .slice B' m d', .slice G' p g'] 43) := ⟨_, rfl⟩
  have k1 : Blk W0 w.heap.size 43 #[.int .i64 v, .slice A n c, .slice B m d, .slice G p g] := by rw [hW0]; exact (Blk.new w _ _).alloc _
  have k2 : Blk W0 (w.heap.size + 1) 43 #[.int .i64 v, .slice A' n c', .slice B' m d', .slice G' p g'] := by
    rw [hW0]
    have h := Blk.new (w.alloc (.cells #[.int .i64 v, .slice A n c, .slice B m d, .slice G p g] 43)) 43 #[.int .i64 v, .slice A' n c', .slice B' m d', .slice G' p g']
    simp only [World.size_alloc] at h
    exact h
  have hW : Below w.heap.size w W0 := by
    rw [hW0]
    exact ((Below.refl _ _).alloc (Nat.le_refl _) _).alloc (by simp) _
  have K1 := Lib.hid k1
  have K2 := Lib.hid k2
  have p1 := k1.cell 1
  have q1 := k2.cell 1
  have p0 := k1.cell 0
  have q0 := k2.cell 0
  rw [hW0] at p0 p1 q0 q1
  have HW0 := Lib.hid hW0
  clear k1 k2 hW0
  go_enter Try.func23, Try.ntmps23
  go_wp2_with fail
  rw [← HW0.out]
  clear p0 p1 q0 q1 HW0
  refine (eqFloat32S_same A A' n c c' ns _ (hN.below hW) (hN'.below hW) hn).mono ?_
  rintro e w1 ⟨rfl, hd1⟩
  have b1 := hd1.below
  have p2 := (K1.out.ext b1).cell 2
  have q2 := (K2.out.ext b1).cell 2
  have hb1 := below_ext hW hW.size b1
  go_wp2_with fail
  refine (eqFloat32S_same B B' m d d' bs _ (hB.below hb1) (hB'.below hb1) hm).mono ?_
  rintro e w2 ⟨rfl, hd2⟩
  have b2 := (hd1.trans hd2).below
  have p3 := (K1.out.ext b2).cell 3
  have q3 := (K2.out.ext b2).cell 3
  have hb2 := below_ext hW hW.size b2
  clear p2 q2
  go_wp2_with fail
  refine (eqFloat32S_same G G' p g g' gs _ (hG.below hb2) (hG'.below hb2) hp).mono ?_
  rintro e w3 ⟨rfl, hd3⟩
  go_wp2_with fail
  go_ret
  exact ⟨rfl, below_ext hb2 hb2.size hd3.below⟩
set_option maxHeartbeats 1000000 in
theorem markRows_any (base : Nat) (v : Int) (A : Option Addr) (n c : Nat) (ns : List Nat) (B : Option Addr) (m d : Nat) (bs : List Nat) (G : Option Addr) (p g : Nat) (gs : List Nat) (k : Nat) (w : World)
    (oN : OwnF 34 base w A n c ns) (oB : OwnF 34 base w B m d bs) (oG : OwnF 34 base w G p g gs) (sAB : Sep A B) (sAG : Sep A G) (sBG : Sep B G) (hb : k + n + m + p ≤ 4611686018427387904) :
    Calls Try.prog 24 #[.agg #[.int .i64 v, .slice A n c, .slice B m d, .slice G p g], .int .i64 k] w fun e w' => e = .returned (.int .i64 ((k + n + m + p : Nat) : Int)) ∧ Upd (fun b => blk A b ∨ blk B b ∨ blk G b) w w' := by
  have K := Lib.hid (Blk.new w 43 #[.int .i64 v, .slice A n c, .slice B m d, .slice G p g])
  have oN1 := oN.alloc (.cells #[.int .i64 v, .slice A n c, .slice B m d, .slice G p g] 43)
  have oB1 := oB.alloc (.cells #[.int .i64 v, .slice A n c, .slice B m d, .slice G p g] 43)
  have oG1 := oG.alloc (.cells #[.int .i64 v, .slice A n c, .slice B m d, .slice G p g] 43)
  have hA : ∀ ad, A = some ad → ad.block < w.heap.size := fun ad ha => (oN.lt ha).2
  have hB : ∀ ad, B = some ad → ad.block < w.heap.size := fun ad ha => (oB.lt ha).2
  have hG : ∀ ad, G = some ad → ad.block < w.heap.size := fun ad ha => (oG.lt ha).2
  have HA := Lib.hid hA
  have HB := Lib.hid hB
  have u0 : Upd (fun b => blk A b ∨ blk B b ∨ blk G b) w (w.alloc (.cells #[.int .i64 v, .slice A n c, .slice B m d, .slice G p g] 43)) := (Upd.refl _ _).alloc _
  clear oN oB oG hA hB hG
  go_enter Try.func24, Try.ntmps24
  go_wp2_with fail
  generalize w.alloc (.cells #[.int .i64 v, .slice A n c, .slice B m d, .slice G p g] 43) = W at *
  refine (markFloat32S_any 34 base A n c ns k _ oN1 (by omega)).mono ?_
  rintro e w1 ⟨rfl, _, u1⟩
  have K1 := Lib.hid (K.out.upd u1 (fun ⟨ad, h1, h2⟩ => by have := HA.out ad h1; omega))
  have oB2 := oB1.sep u1 sAB.symm
  have oG2 := oG1.sep u1 sAG.symm
  have u2 := u0.then u1 (fun _ _ h => .inl h)
  have p2 := K1.out.cell 2
  clear oN1 oB1 oG1 u0 u1 K
  go_wp2_with fail
  refine (markFloat32S_any 34 base B m d bs (k + n) _ oB2 (by omega)).mono ?_
  rintro e w2 ⟨rfl, _, u3⟩
  have K2 := Lib.hid (K1.out.upd u3 (fun ⟨ad, h1, h2⟩ => by have := HB.out ad h1; omega))
  have oG3 := oG2.sep u3 sBG.symm
  have u4 := u2.then u3 (fun _ _ h => .inr (.inl h))
  have p3 := K2.out.cell 3
  clear oB2 oG2 u2 u3 K1 p2
  go_wp2_with fail
  refine (markFloat32S_any 34 base G p g gs (k + n + m) _ oG3 (by omega)).mono ?_
  rintro e w3 ⟨rfl, _, u5⟩
  go_wp2_with fail
  go_ret
  exact ⟨rfl, u4.then u5 (fun _ _ h => .inr (.inr h))⟩
set_option maxHeartbeats 1000000 in
theorem eqTable_same (v : Int) (A : Option Addr) (n c : Nat) (ns : List Nat) (B : Option Addr) (m d : Nat) (bs : List Int) (A' : Option Addr) (c' : Nat) (B' : Option Addr) (d' : Nat) (w : World)
    (hN : FltsAt w A n ns) (hB : IntsAt w B m bs) (hN' : FltsAt w A' n ns) (hB' : IntsAt w B' m bs) (hn : n ≤ maxLen) (hm : m ≤ maxLen) :
    Calls Try.prog 13 #[.agg #[.int .i64 v, .slice A n c, .slice B m d], .agg #[.int .i64 v, .slice A' n c', .slice B' m d']] w (RetV (.bool true) w) := by
  have hself : (v != v) = false := by simp
  obtain ⟨W0, hW0⟩ : ∃ W0, W0 = (w.alloc (.cells #[.int .i64 v, .slice A n c, .slice B m d] 27)).alloc (.cells #[.int .i64 v, .slice A' n c', .slice B' m d'] 27) := ⟨_, rfl⟩
  have k1 : Blk W0 w.heap.size 27 #[.int .i64 v, .slice A n c, .slice B m d] := by rw [hW0]; exact (Blk.new w _ _).alloc _
  have k2 : Blk W0 (w.heap.size + 1) 27 #[.int .i64 v, .slice A' n c', .slice B' m d'] := by
    rw [hW0]
    have h := Blk.new (w.alloc (.cells #[.int .i64 v, .slice A n c, .slice B m d] 27)) 27 #[.int .i64 v, .slice A' n c', .slice B' m d']
    simp only [World.size_alloc] at h
    exact h
  have hW : Below w.heap.size w W0 := by
    rw [hW0]
    exact ((Below.refl _ _).alloc (Nat.le_refl _) _).alloc (by simp) _
  have K1 := Lib.hid k1
  have K2 := Lib.hid k2
  have p1 := k1.cell 1
  have q1 := k2.cell 1
  have p0 := k1.cell 0
  have q0 := k2.cell 0
  rw [hW0] at p0 p1 q0 q1
  have HW0 := Lib.hid hW0
  clear k1 k2 hW0
  go_enter Try.func13, Try.ntmps13
  go_wp2_with fail
  rw [← HW0.out]
  clear p0 p1 q0 q1 HW0
  refine (eqFloat32S_same A A' n c c' ns _ (hN.below hW) (hN'.below hW) hn).mono ?_
  rintro e w1 ⟨rfl, hd1⟩
  have b1 := hd1.below
  have p2 := (K1.out.ext b1).cell 2
  have q2 := (K2.out.ext b1).cell 2
  have hb1 := below_ext hW hW.size b1
  go_wp2_with fail
  refine (eqInt64S_same B B' m d m d' bs _ (hB.below hb1) (hB'.below hb1) hm).mono ?_
  rintro e w2 ⟨rfl, b2⟩
  go_wp2_with fail
  go_ret
  exact ⟨rfl, below_ext hb1 hb1.size b2⟩
set_option maxHeartbeats 1000000 in
theorem markTable_any (base : Nat) (v : Int) (A : Option Addr) (n c : Nat) (ns : List Nat) (B : Option Addr) (m d : Nat) (bs : List Int) (k : Nat) (w : World)
    (oN : OwnF 34 base w A n c ns) (oB : OwnI 2 base w B m d bs) (sAB : Sep A B) (hb : k + n + m ≤ 4611686018427387904) :
    Calls Try.prog 14 #[.agg #[.int .i64 v, .slice A n c, .slice B m d], .int .i64 k] w fun e w' => e = .returned (.int .i64 ((k + n + m : Nat) : Int)) ∧ OwnF 34 base w' A n c (seqF k n) ∧ OwnI 2 base w' B m d (seqI ((k + n : Nat) : Int) m) ∧ Upd (fun b => blk A b ∨ blk B b) w w' := by
  have K := Lib.hid (Blk.new w 27 #[.int .i64 v, .slice A n c, .slice B m d])
  have oN1 := oN.alloc (.cells #[.int .i64 v, .slice A n c, .slice B m d] 27)
  have oB1 := oB.alloc (.cells #[.int .i64 v, .slice A n c, .slice B m d] 27)
  have hA : ∀ ad, A = some ad → ad.block < w.heap.size := fun ad ha => (oN.lt ha).2
  have HA := Lib.hid hA
  have u0 : Upd (fun b => blk A b ∨ blk B b) w (w.alloc (.cells #[.int .i64 v, .slice A n c, .slice B m d] 27)) := (Upd.refl _ _).alloc _
  clear oN oB hA
  go_enter Try.func14, Try.ntmps14
  go_wp2_with fail
  generalize w.alloc (.cells #[.int .i64 v, .slice A n c, .slice B m d] 27) = W at *
  refine (markFloat32S_any 34 base A n c ns k _ oN1 (by omega)).mono ?_
  rintro e w1 ⟨rfl, oN2, u1⟩
  have K1 := Lib.hid (K.out.upd u1 (fun ⟨ad, h1, h2⟩ => by have := HA.out ad h1; omega))
  have oB2 := oB1.sep u1 sAB.symm
  have u2 := u0.then u1 (fun _ _ h => .inl h)
  have p2 := K1.out.cell 2
  clear oN1 oB1 u0 u1 K
  go_wp2_with fail
  refine (markInt64S_any 2 base B m d bs ((k + n : Nat) : Int) _ oB2 (by omega) (by omega)).mono ?_
  rintro e w2 ⟨rfl, oB3, u3⟩
  have oN3 := oN2.sep u3 sAB
  have u4 := u2.then u3 (fun _ _ h => .inr h)
  clear u2 u3 p2 K1 oN2 oB2
  go_wp2_with fail
  go_ret
  exact ⟨by show Ending.returned (Value.int .i64 _) = _; congr 2, oN3, oB3, u4⟩
set_option maxHeartbeats 1000000 in
theorem heldTable_any (v : Int) (A : Option Addr) (n c : Nat) (B : Option Addr) (m d : Nat) (k : Nat) (w : World)
    (hN : FltsAt w A n (seqF k n)) (hB : IntsAt w B m (seqI ((k + n : Nat) : Int) m)) (hb : k + n + m ≤ 4611686018427387904) :
    Calls Try.prog 15 #[.agg #[.int .i64 v, .slice A n c, .slice B m d], .int .i64 k] w (RetV (.int .i64 ((k + n + m : Nat) : Int)) w) := by
  have K := Lib.hid (Blk.new w 27 #[.int .i64 v, .slice A n c, .slice B m d])
  have hW : Below w.heap.size w (w.alloc (.cells #[.int .i64 v, .slice A n c, .slice B m d] 27)) := (Below.refl _ _).alloc (Nat.le_refl _) _
  have hN1 := hN.below hW
  have hB1 := hB.below hW
  have hk1 : ¬ (((k + n : Nat) : Int) < 0) := by omega
  have hk2 : ¬ (((k + n : Nat) : Int) + m < 0) := by omega
  clear hN hB
  go_enter Try.func15, Try.ntmps15
  go_wp2_with fail
  generalize w.alloc (.cells #[.int .i64 v, .slice A n c, .slice B m d] 27) = W at *
  refine (heldFloat32S_any A n c k _ hN1 (by omega)).mono ?_
  rintro e w1 ⟨rfl, rfl⟩
  have p2 := K.out.cell 2
  go_wp2_with fail
  refine (heldInt64S_any B m d ((k + n : Nat) : Int) _ hB1 (by omega) (by omega)).mono ?_
  rintro e w2 ⟨rfl, rfl⟩
  go_wp2_with fail
  go_ret
  exact ⟨by show Ending.returned (Value.int .i64 _) = _; congr 2, hW⟩
end Go.Proofs.Ytbbcddbdinmaaaa
