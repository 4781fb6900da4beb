/- The walk of the law FnExactBoundRange (written by rowgen2.py). -/
import Derived.Test.YtckfmemjcjhaaaaRngI
import Derived.Test.YtckfmemjcjhaaaaRngS
import Derived.Test.YtckfmemjcjhaaaaTblLaw0
namespace Go.Proofs.Ytckfmemjcjhaaaa
open Go.RowKit

theorem sepD_BoundRange {T T' base size size' n c m d : Nat} {w w' : World} {A B : Option Addr} {vs us : List Value} (h1 : OwnC T base size w A n c vs) (h2 : OwnC T' w.heap.size size' w' B m d us) : Sep A B := by
  intro a b ha hb
  have := (OwnC.lt h1 ha).2
  have := (OwnC.lt h2 hb).1
  omega
theorem ccF_BoundRange {T base n c : Nat} {w : World} {A : Option Addr} {zs : List Nat} (h : OwnF T base w A n c zs) : OwnC T base 1 w A n c (zs.map (Value.float .f32)) := h
theorem ccI_BoundRange {T base n c : Nat} {w : World} {A : Option Addr} {zs : List Int} (h : OwnI T base w A n c zs) : OwnC T base 1 w A n c (zs.map (Value.int .i64)) := h
theorem cap2F_BoundRange {T base n c : Nat} {w : World} {A : Option Addr} {zs : List Nat} (h : OwnF T base w A n c zs) : n ≤ c ∧ c ≤ maxLen := by
  rcases h.form with ⟨_, h1, h2, _⟩ | ⟨_, _, _, _, h1, h2⟩
  · subst h1 h2; exact ⟨Nat.le_refl _, Nat.zero_le _⟩
  · exact ⟨h1, h2⟩
theorem cap2I_BoundRange {T base n c : Nat} {w : World} {A : Option Addr} {zs : List Int} (h : OwnI T base w A n c zs) : n ≤ c ∧ c ≤ maxLen := by
  rcases h.form with ⟨_, h1, h2, _⟩ | ⟨_, _, _, _, h1, h2⟩
  · subst h1 h2; exact ⟨Nat.le_refl _, Nat.zero_le _⟩
  · exact ⟨h1, h2⟩
set_option maxRecDepth 100000 in
set_option maxHeartbeats 1000000 in
theorem walk_BoundRange (v : Int) (A : Option Addr) (n c : Nat) (ns : List Nat) (B : Option Addr) (m d : Nat) (bs : List Nat) (G : Option Addr) (p g : Nat) (gs : List Nat) (a1 : Int) (a2 : Int) (a3 : Nat) (w : World) (hN : FltsAt w A n ns) (hB : FltsAt w B m bs) (hG : FltsAt w G p gs) (hn : n ≤ maxLen) (hm : m ≤ maxLen) (hp : p ≤ maxLen) (_wf1 : (Lit.int .i64 a1).wf = true) (_wf2 : (Lit.int .i64 a2).wf = true) :
    Calls Try.prog 6 #[.agg #[.int .i64 v, .slice A n c, .slice B m d, .slice G p g], .int .i64 a1, .int .i64 a2, .float .f32 a3] w fun e w' => e = .returned (.bool true) ∧ Below w.heap.size w w' := by
  have HMN := Lib.hid hn
  have HMB := Lib.hid hm
  have HMG := Lib.hid hp
  have bb := (Below.refl w.heap.size w).alloc (Nat.le_refl _) (.cells #[.int .i64 v, .slice A n c, .slice B m d, .slice G p g] 39)
  have KA := Lib.hid (Blk.new w 39 #[.int .i64 v, .slice A n c, .slice B m d, .slice G p g])
  have gN := hN.alloc (.cells #[.int .i64 v, .slice A n c, .slice B m d, .slice G p g] 39)
  have gB := hB.alloc (.cells #[.int .i64 v, .slice A n c, .slice B m d, .slice G p g] 39)
  have gG := hG.alloc (.cells #[.int .i64 v, .slice A n c, .slice B m d, .slice G p g] 39)
  obtain ⟨r0x, hr0x⟩ : ∃ x, x = rgL (rngR v ns bs gs a1 a2 a3) := ⟨_, rfl⟩
  have Hr0x := Lib.hid hr0x
  have hnn0 := (rg_fin v ns bs gs a1 a2 a3).1
  rw [← hr0x] at hnn0
  clear hr0x
  obtain ⟨cv0, hc0, -⟩ := cv_some hnn0
  clear hnn0
  have hcv0 := fun (w : World) => run_convert_float_float (P := Try.prog) w 34 53 .f32 .f64 r0x cv0 (by kernel_rfl) Try.underlying53 hc0
  clear hc0
  obtain ⟨r1x, hr1x⟩ : ∃ x, x = rgH (rngR v ns bs gs a1 a2 a3) := ⟨_, rfl⟩
  have Hr1x := Lib.hid hr1x
  have hnn1 := (rg_fin v ns bs gs a1 a2 a3).2
  rw [← hr1x] at hnn1
  clear hr1x
  obtain ⟨cv1, hc1, -⟩ := cv_some hnn1
  clear hnn1
  have hcv1 := fun (w : World) => run_convert_float_float (P := Try.prog) w 34 53 .f32 .f64 r1x cv1 (by kernel_rfl) Try.underlying53 hc1
  clear hc1
  obtain ⟨r2x, hr2x⟩ : ∃ x, x = (rngR v ns bs gs a1 a2 a3).isSome := ⟨_, rfl⟩
  have Hr2x := Lib.hid hr2x
  clear hr2x
  have hq2 : (r2x != r2x) = false := by simp
  by_cases hbig : n + m + p ≤ 1048576
  · have big1 : n ≤ 1048576 := by omega
    have big2 : m ≤ 1048576 := by omega
    have big3 : p ≤ 1048576 := by omega
    have hpos : ¬ ((1048576 : Int) - n - m - p < 0) := by omega
    go_enter Try.func6, Try.ntmps6
    have pA0 := (KA.out.cell 0).trans (show _ = some (Value.int .i64 v) from rfl)
    have pA1 := (KA.out.cell 1).trans (show _ = some (Value.slice A n c) from rfl)
    have pA2 := (KA.out.cell 2).trans (show _ = some (Value.slice B m d) from rfl)
    have pA3 := (KA.out.cell 3).trans (show _ = some (Value.slice G p g) from rfl)
    go_wp2_with fail
    generalize (w.alloc (.cells #[.int .i64 v, .slice A n c, .slice B m d, .slice G p g] 39)).alloc (.cells #[.int .i64 v, .slice A n c, .slice B m d, .slice G p g] 39) = w1 at *
    refine (szRows_yes v A n c B m d G p g 1048576 _ (by omega) (by omega)).mono ?_
    rintro e w2 ⟨rfl, b⟩
    clear pA0 pA1 pA2 pA3
    replace KA := Lib.hid (KA.out.ext b)
    replace gN := gN.below b
    replace gB := gB.below b
    replace gG := gG.below b
    replace bb := ext_trans bb b
    clear b
    have pA0 := (KA.out.cell 0).trans (show _ = some (Value.int .i64 v) from rfl)
    have pA1 := (KA.out.cell 1).trans (show _ = some (Value.slice A n c) from rfl)
    have pA2 := (KA.out.cell 2).trans (show _ = some (Value.slice B m d) from rfl)
    have pA3 := (KA.out.cell 3).trans (show _ = some (Value.slice G p g) from rfl)
    go_wp2_with fail
    refine (toRows_any v A n c ns B m d bs G p g gs _ gN gB gG big1 big2 big3).mono ?_
    rintro e w3 ⟨ApN, cpN, ApB, cpB, ApG, cpG, rfl, opN, opB, opG, s_pN_pB, s_pN_pG, s_pB_pG, b⟩
    clear pA0 pA1 pA2 pA3
    have t_pN_A := Lib.hid (fun ad (ha : ApN = some ad) => (show ad.block ≠ w.heap.size from by have h2 := (opN.lt ha).1; have h3 := KA.out.lt; omega))
    replace opN := OwnF.low opN bb.size
    have t_pB_A := Lib.hid (fun ad (ha : ApB = some ad) => (show ad.block ≠ w.heap.size from by have h2 := (opB.lt ha).1; have h3 := KA.out.lt; omega))
    replace opB := OwnF.low opB bb.size
    have t_pG_A := Lib.hid (fun ad (ha : ApG = some ad) => (show ad.block ≠ w.heap.size from by have h2 := (opG.lt ha).1; have h3 := KA.out.lt; omega))
    replace opG := OwnF.low opG bb.size
    replace KA := Lib.hid (KA.out.ext b)
    replace gN := gN.below b
    replace gB := gB.below b
    replace gG := gG.below b
    replace bb := ext_trans bb b
    clear b
    go_wp2_with fail
    refine (specBoundRange_r v ApN n cpN ns ApB m cpB bs ApG p cpG gs a1 a2 a3 _ opN.flts opB.flts opG.flts HMN.out HMB.out HMG.out).mono ?_
    rw [← Hr0x.out, ← Hr1x.out, ← Hr2x.out]
    rintro e w4 ⟨rfl, b⟩
    replace opN := opN.below b
    replace opB := opB.below b
    replace opG := opG.below b
    replace KA := Lib.hid (KA.out.ext b)
    replace gN := gN.below b
    replace gB := gB.below b
    replace gG := gG.below b
    replace bb := ext_trans bb b
    clear b
    clear opN
    clear opB
    clear opG
    have pA0 := (KA.out.cell 0).trans (show _ = some (Value.int .i64 v) from rfl)
    have pA1 := (KA.out.cell 1).trans (show _ = some (Value.slice A n c) from rfl)
    have pA2 := (KA.out.cell 2).trans (show _ = some (Value.slice B m d) from rfl)
    have pA3 := (KA.out.cell 3).trans (show _ = some (Value.slice G p g) from rfl)
    go_wp2_with fail
    refine (toRows_any v A n c ns B m d bs G p g gs _ gN gB gG big1 big2 big3).mono ?_
    rintro e w5 ⟨AxN, cxN, AxB, cxB, AxG, cxG, rfl, oxN, oxB, oxG, s_xN_xB, s_xN_xG, s_xB_xG, b⟩
    clear pA0 pA1 pA2 pA3
    have t_xN_A := Lib.hid (fun ad (ha : AxN = some ad) => (show ad.block ≠ w.heap.size from by have h2 := (oxN.lt ha).1; have h3 := KA.out.lt; omega))
    replace oxN := OwnF.low oxN bb.size
    have t_xB_A := Lib.hid (fun ad (ha : AxB = some ad) => (show ad.block ≠ w.heap.size from by have h2 := (oxB.lt ha).1; have h3 := KA.out.lt; omega))
    replace oxB := OwnF.low oxB bb.size
    have t_xG_A := Lib.hid (fun ad (ha : AxG = some ad) => (show ad.block ≠ w.heap.size from by have h2 := (oxG.lt ha).1; have h3 := KA.out.lt; omega))
    replace oxG := OwnF.low oxG bb.size
    replace KA := Lib.hid (KA.out.ext b)
    replace gN := gN.below b
    replace gB := gB.below b
    replace gG := gG.below b
    replace bb := ext_trans bb b
    clear b
    have t_xN_X := Lib.hid (fun ad (ha : AxN = some ad) => (show ad.block ≠ w5.heap.size from by have h2 := (oxN.lt ha).2; omega))
    have t_xB_X := Lib.hid (fun ad (ha : AxB = some ad) => (show ad.block ≠ w5.heap.size from by have h2 := (oxB.lt ha).2; omega))
    have t_xG_X := Lib.hid (fun ad (ha : AxG = some ad) => (show ad.block ≠ w5.heap.size from by have h2 := (oxG.lt ha).2; omega))
    replace oxN := oxN.alloc (.cells #[.int .i64 v, .slice AxN n cxN, .slice AxB m cxB, .slice AxG p cxG] 43)
    replace oxB := oxB.alloc (.cells #[.int .i64 v, .slice AxN n cxN, .slice AxB m cxB, .slice AxG p cxG] 43)
    replace oxG := oxG.alloc (.cells #[.int .i64 v, .slice AxN n cxN, .slice AxB m cxB, .slice AxG p cxG] 43)
    replace KA := Lib.hid (KA.out.alloc (.cells #[.int .i64 v, .slice AxN n cxN, .slice AxB m cxB, .slice AxG p cxG] 43))
    have KX := Lib.hid (Blk.new w5 43 #[.int .i64 v, .slice AxN n cxN, .slice AxB m cxB, .slice AxG p cxG])
    replace gN := gN.alloc (.cells #[.int .i64 v, .slice AxN n cxN, .slice AxB m cxB, .slice AxG p cxG] 43)
    replace gB := gB.alloc (.cells #[.int .i64 v, .slice AxN n cxN, .slice AxB m cxB, .slice AxG p cxG] 43)
    replace gG := gG.alloc (.cells #[.int .i64 v, .slice AxN n cxN, .slice AxB m cxB, .slice AxG p cxG] 43)
    replace bb := bb.alloc bb.size (.cells #[.int .i64 v, .slice AxN n cxN, .slice AxB m cxB, .slice AxG p cxG] 43)
    have pX0 := (KX.out.cell 0).trans (show _ = some (Value.int .i64 v) from rfl)
    have pX1 := (KX.out.cell 1).trans (show _ = some (Value.slice AxN n cxN) from rfl)
    have pX2 := (KX.out.cell 2).trans (show _ = some (Value.slice AxB m cxB) from rfl)
    have pX3 := (KX.out.cell 3).trans (show _ = some (Value.slice AxG p cxG) from rfl)
    go_wp2_with fail
    generalize w5.alloc (.cells #[.int .i64 v, .slice AxN n cxN, .slice AxB m cxB, .slice AxG p cxG] 43) = w6 at *
    refine (implBoundRange_r v AxN n cxN ns AxB m cxB bs AxG p cxG gs a1 a2 a3 _ oxN.flts oxB.flts oxG.flts HMN.out HMB.out HMG.out (cap2F_BoundRange oxN)).mono ?_
    rw [← Hr0x.out, ← Hr1x.out, ← Hr2x.out]
    rintro e w7 ⟨rfl, b⟩
    clear pX0 pX1 pX2 pX3
    replace oxN := oxN.below b
    replace oxB := oxB.below b
    replace oxG := oxG.below b
    replace KA := Lib.hid (KA.out.ext b)
    replace KX := Lib.hid (KX.out.ext b)
    replace gN := gN.below b
    replace gB := gB.below b
    replace gG := gG.below b
    replace bb := ext_trans bb b
    clear b
    go_wp2_with fail
    refine (sameFloat_any cv0 cv0 _ rfl).mono ?_
    rintro e w8 ⟨rfl, dr⟩
    have b := dr.below
    clear dr
    replace oxN := oxN.below b
    replace oxB := oxB.below b
    replace oxG := oxG.below b
    replace KA := Lib.hid (KA.out.ext b)
    replace KX := Lib.hid (KX.out.ext b)
    replace gN := gN.below b
    replace gB := gB.below b
    replace gG := gG.below b
    replace bb := ext_trans bb b
    clear b
    go_wp2_with fail
    refine (sameFloat_any cv1 cv1 _ rfl).mono ?_
    rintro e w9 ⟨rfl, dr⟩
    have b := dr.below
    clear dr
    replace oxN := oxN.below b
    replace oxB := oxB.below b
    replace oxG := oxG.below b
    replace KA := Lib.hid (KA.out.ext b)
    replace KX := Lib.hid (KX.out.ext b)
    replace gN := gN.below b
    replace gB := gB.below b
    replace gG := gG.below b
    replace bb := ext_trans bb b
    clear b
    have pX0 := (KX.out.cell 0).trans (show _ = some (Value.int .i64 v) from rfl)
    have pX1 := (KX.out.cell 1).trans (show _ = some (Value.slice AxN n cxN) from rfl)
    have pX2 := (KX.out.cell 2).trans (show _ = some (Value.slice AxB m cxB) from rfl)
    have pX3 := (KX.out.cell 3).trans (show _ = some (Value.slice AxG p cxG) from rfl)
    have pA0 := (KA.out.cell 0).trans (show _ = some (Value.int .i64 v) from rfl)
    have pA1 := (KA.out.cell 1).trans (show _ = some (Value.slice A n c) from rfl)
    have pA2 := (KA.out.cell 2).trans (show _ = some (Value.slice B m d) from rfl)
    have pA3 := (KA.out.cell 3).trans (show _ = some (Value.slice G p g) from rfl)
    go_wp2_with fail
    go_cut [66] (fun sx wx => sx = .bool false ∧ Below w9.heap.size w9 wx)
    case first =>
      go_region_with (first | (go_at_call 19; refine (toRows_any v A n c ns B m d bs G p g gs _ gN.drew gB.drew gG.drew big1 big2 big3).mono ?_; rintro e w7 ⟨A3, c3, A4, c4, A5, c5, rfl, o3, o4, o5, _, _, _, b⟩; have kx := KX.out.drew.ext b; have q0 := kx.cell 0; have q1 := kx.cell 1; have q2 := kx.cell 2; have q3 := kx.cell 3; clear kx) | (go_at_call 22; refine (eqRows_same v AxN n cxN ns AxB m cxB bs AxG p cxG gs A3 c3 A4 c4 A5 c5 _ (oxN.drew.below b).flts (oxB.drew.below b).flts (oxG.drew.below b).flts o3.flts o4.flts o5.flts HMN.out HMB.out HMG.out).mono ?_; rintro e w8 ⟨rfl, b8⟩))
      all_goals
        go_wp2_with fail
        go_meet
        exact ⟨rfl, ext_trans (ext_trans (Below.drew (Below.refl _ _)) b) b8⟩
    case rest =>
      obtain ⟨rfl, b⟩ := hcut
      clear pX0 pX1 pX2 pX3 pA0 pA1 pA2 pA3
      replace oxN := oxN.below b
      replace oxB := oxB.below b
      replace oxG := oxG.below b
      replace KA := Lib.hid (KA.out.ext b)
      replace KX := Lib.hid (KX.out.ext b)
      replace gN := gN.below b
      replace gB := gB.below b
      replace gG := gG.below b
      replace bb := ext_trans bb b
      clear b
      go_wp2
      go_ret
      exact ⟨rfl, (Below.refl w.heap.size w).trans bb⟩
  · go_enter Try.func6, Try.ntmps6
    have pA0 := (KA.out.cell 0).trans (show _ = some (Value.int .i64 v) from rfl)
    have pA1 := (KA.out.cell 1).trans (show _ = some (Value.slice A n c) from rfl)
    have pA2 := (KA.out.cell 2).trans (show _ = some (Value.slice B m d) from rfl)
    have pA3 := (KA.out.cell 3).trans (show _ = some (Value.slice G p g) from rfl)
    go_wp2_with fail
    generalize (w.alloc (.cells #[.int .i64 v, .slice A n c, .slice B m d, .slice G p g] 39)).alloc (.cells #[.int .i64 v, .slice A n c, .slice B m d, .slice G p g] 39) = w10 at *
    refine (szRows_no v A n c B m d G p g 1048576 _ (by omega) (by omega) (by omega) HMN.out HMB.out HMG.out).mono ?_
    rintro e w1 ⟨rfl, b⟩
    clear pA0 pA1 pA2 pA3
    replace bb := ext_trans bb b
    clear b
    go_wp2_with fail
    go_ret
    exact ⟨rfl, bb⟩
end Go.Proofs.Ytckfmemjcjhaaaa
