/- The walk of the law FnExactBestCorner (written by rowgen2.py). -/
import Derived.Test.YtbbcddbdinmaaaaCorX
import Derived.Test.YtbbcddbdinmaaaaCorW
import Derived.Test.YtbbcddbdinmaaaaTblLaw0
namespace Go.Proofs.Ytbbcddbdinmaaaa
open Go.RowKit

theorem sepD_BestCorner {T T' base size size' n c m d : Nat} {w w' : World} {A B : Option Addr} {vs us : List Value} (h1 : OwnC T base size w A n c vs) (h2 : OwnC T' w.heap.size size' w' B m d us) : Sep A B := by
  intro a b ha hb
  have := (OwnC.lt h1 ha).2
  have := (OwnC.lt h2 hb).1
  omega
theorem ccF_BestCorner {T base n c : Nat} {w : World} {A : Option Addr} {zs : List Nat} (h : OwnF T base w A n c zs) : OwnC T base 1 w A n c (zs.map (Value.float .f32)) := h
theorem ccI_BestCorner {T base n c : Nat} {w : World} {A : Option Addr} {zs : List Int} (h : OwnI T base w A n c zs) : OwnC T base 1 w A n c (zs.map (Value.int .i64)) := h
theorem cap2F_BestCorner {T base n c : Nat} {w : World} {A : Option Addr} {zs : List Nat} (h : OwnF T base w A n c zs) : n ≤ c ∧ c ≤ maxLen := by
  rcases h.form with ⟨_, h1, h2, _⟩ | ⟨_, _, _, _, h1, h2⟩
  · subst h1 h2; exact ⟨Nat.le_refl _, Nat.zero_le _⟩
  · exact ⟨h1, h2⟩
theorem cap2I_BestCorner {T base n c : Nat} {w : World} {A : Option Addr} {zs : List Int} (h : OwnI T base w A n c zs) : n ≤ c ∧ c ≤ maxLen := by
  rcases h.form with ⟨_, h1, h2, _⟩ | ⟨_, _, _, _, h1, h2⟩
  · subst h1 h2; exact ⟨Nat.le_refl _, Nat.zero_le _⟩
  · exact ⟨h1, h2⟩
set_option maxRecDepth 100000 in
set_option maxHeartbeats 1000000 in
theorem walk_BestCorner (v : Int) (A : Option Addr) (n c : Nat) (ns : List Nat) (B : Option Addr) (m d : Nat) (bs : List Nat) (G : Option Addr) (p g : Nat) (gs : List Nat) (a1 : Nat) (w : World) (hN : FltsAt w A n ns) (hB : FltsAt w B m bs) (hG : FltsAt w G p gs) (hn : n ≤ maxLen) (hm : m ≤ maxLen) (hp : p ≤ maxLen)  :
    Calls Try.prog 8 #[.agg #[.int .i64 v, .slice A n c, .slice B m d, .slice G p g], .float .f32 a1] w fun e w' => e = .returned (.bool true) ∧ Below w.heap.size w w' := by
  have HMN := Lib.hid hn
  have HMB := Lib.hid hm
  have HMG := Lib.hid hp
  have bb := (Below.refl w.heap.size w).alloc (Nat.le_refl _) (.cells #[.int .i64 v, .slice A n c, .slice B m d, .slice G p g] 39)
  have KA := Lib.hid (Blk.new w 39 #[.int .i64 v, .slice A n c, .slice B m d, .slice G p g])
  have gN := hN.alloc (.cells #[.int .i64 v, .slice A n c, .slice B m d, .slice G p g] 39)
  have gB := hB.alloc (.cells #[.int .i64 v, .slice A n c, .slice B m d, .slice G p g] 39)
  have gG := hG.alloc (.cells #[.int .i64 v, .slice A n c, .slice B m d, .slice G p g] 39)
  obtain ⟨r0n, hr0n⟩ : ∃ x, x = crL (corR v ns bs gs a1) := ⟨_, rfl⟩
  have Hr0n := Lib.hid hr0n
  have hl0 := cr_len v ns bs gs a1
  rw [← hr0n] at hl0
  obtain ⟨nr0n, hnr0n⟩ : ∃ x, x = r0n.length := ⟨_, rfl⟩
  rw [← hnr0n] at hl0
  have HNr0n := Lib.hid hnr0n
  clear hnr0n hr0n
  obtain ⟨r1x, hr1x⟩ : ∃ x, x = (corR v ns bs gs a1).isSome := ⟨_, rfl⟩
  have Hr1x := Lib.hid hr1x
  clear hr1x
  have hq1 : (r1x != r1x) = false := by simp
  by_cases hbig : n + m + p ≤ 1048576
  · have big1 : n ≤ 1048576 := by omega
    have big2 : m ≤ 1048576 := by omega
    have big3 : p ≤ 1048576 := by omega
    have hpos : ¬ ((1048576 : Int) - n - m - p < 0) := by omega
    go_enter Try.func8, Try.ntmps8
    have pA0 := (KA.out.cell 0).trans (show _ = some (Value.int .i64 v) from rfl)
    have pA1 := (KA.out.cell 1).trans (show _ = some (Value.slice A n c) from rfl)
    have pA2 := (KA.out.cell 2).trans (show _ = some (Value.slice B m d) from rfl)
    have pA3 := (KA.out.cell 3).trans (show _ = some (Value.slice G p g) from rfl)
    go_wp2_with fail
    generalize (w.alloc (.cells #[.int .i64 v, .slice A n c, .slice B m d, .slice G p g] 39)).alloc (.cells #[.int .i64 v, .slice A n c, .slice B m d, .slice G p g] 39) = w1 at *
    refine (szRows_yes v A n c B m d G p g 1048576 _ (by omega) (by omega)).mono ?_
    rintro e w2 ⟨rfl, b⟩
    clear pA0 pA1 pA2 pA3
    replace KA := Lib.hid (KA.out.ext b)
    replace gN := gN.below b
    replace gB := gB.below b
    replace gG := gG.below b
    replace bb := ext_trans bb b
    clear b
    have pA0 := (KA.out.cell 0).trans (show _ = some (Value.int .i64 v) from rfl)
    have pA1 := (KA.out.cell 1).trans (show _ = some (Value.slice A n c) from rfl)
    have pA2 := (KA.out.cell 2).trans (show _ = some (Value.slice B m d) from rfl)
    have pA3 := (KA.out.cell 3).trans (show _ = some (Value.slice G p g) from rfl)
    go_wp2_with fail
    refine (toRows_any v A n c ns B m d bs G p g gs _ gN gB gG big1 big2 big3).mono ?_
    rintro e w3 ⟨ApN, cpN, ApB, cpB, ApG, cpG, rfl, opN, opB, opG, s_pN_pB, s_pN_pG, s_pB_pG, b⟩
    clear pA0 pA1 pA2 pA3
    have t_pN_A := Lib.hid (fun ad (ha : ApN = some ad) => (show ad.block ≠ w.heap.size from by have h2 := (opN.lt ha).1; have h3 := KA.out.lt; omega))
    replace opN := OwnF.low opN bb.size
    have t_pB_A := Lib.hid (fun ad (ha : ApB = some ad) => (show ad.block ≠ w.heap.size from by have h2 := (opB.lt ha).1; have h3 := KA.out.lt; omega))
    replace opB := OwnF.low opB bb.size
    have t_pG_A := Lib.hid (fun ad (ha : ApG = some ad) => (show ad.block ≠ w.heap.size from by have h2 := (opG.lt ha).1; have h3 := KA.out.lt; omega))
    replace opG := OwnF.low opG bb.size
    replace KA := Lib.hid (KA.out.ext b)
    replace gN := gN.below b
    replace gB := gB.below b
    replace gG := gG.below b
    replace bb := ext_trans bb b
    clear b
    go_wp2_with fail
    refine (specBestCorner_r v ApN n cpN ns ApB m cpB bs ApG p cpG gs a1 _ opN.flts opB.flts opG.flts HMN.out HMB.out HMG.out (cap2F_BestCorner opN)).mono ?_
    rw [← Hr0n.out, ← Hr1x.out]
    rintro e w4 ⟨Aw0N, mw0N, cw0N, rfl, ow0N, b⟩
    obtain rfl : nr0n = mw0N := by rw [HNr0n.out]; exact ow0N.len
    have s_pN_w0N := sepD_BestCorner (ccF_BestCorner opN) (ccF_BestCorner ow0N)
    have s_pB_w0N := sepD_BestCorner (ccF_BestCorner opB) (ccF_BestCorner ow0N)
    have s_pG_w0N := sepD_BestCorner (ccF_BestCorner opG) (ccF_BestCorner ow0N)
    have t_w0N_A := Lib.hid (fun ad (ha : Aw0N = some ad) => (show ad.block ≠ w.heap.size from by have h2 := (ow0N.lt ha).1; have h3 := KA.out.lt; omega))
    replace ow0N := OwnF.low ow0N bb.size
    replace opN := opN.below b
    replace opB := opB.below b
    replace opG := opG.below b
    replace KA := Lib.hid (KA.out.ext b)
    replace gN := gN.below b
    replace gB := gB.below b
    replace gG := gG.below b
    replace bb := ext_trans bb b
    clear b
    clear opN
    clear opB
    clear opG
    have pA0 := (KA.out.cell 0).trans (show _ = some (Value.int .i64 v) from rfl)
    have pA1 := (KA.out.cell 1).trans (show _ = some (Value.slice A n c) from rfl)
    have pA2 := (KA.out.cell 2).trans (show _ = some (Value.slice B m d) from rfl)
    have pA3 := (KA.out.cell 3).trans (show _ = some (Value.slice G p g) from rfl)
    go_wp2_with fail
    refine (toRows_any v A n c ns B m d bs G p g gs _ gN gB gG big1 big2 big3).mono ?_
    rintro e w5 ⟨AxN, cxN, AxB, cxB, AxG, cxG, rfl, oxN, oxB, oxG, s_xN_xB, s_xN_xG, s_xB_xG, b⟩
    clear pA0 pA1 pA2 pA3
    have s_w0N_xN := sepD_BestCorner (ccF_BestCorner ow0N) (ccF_BestCorner oxN)
    have s_w0N_xB := sepD_BestCorner (ccF_BestCorner ow0N) (ccF_BestCorner oxB)
    have s_w0N_xG := sepD_BestCorner (ccF_BestCorner ow0N) (ccF_BestCorner oxG)
    have t_xN_A := Lib.hid (fun ad (ha : AxN = some ad) => (show ad.block ≠ w.heap.size from by have h2 := (oxN.lt ha).1; have h3 := KA.out.lt; omega))
    replace oxN := OwnF.low oxN bb.size
    have t_xB_A := Lib.hid (fun ad (ha : AxB = some ad) => (show ad.block ≠ w.heap.size from by have h2 := (oxB.lt ha).1; have h3 := KA.out.lt; omega))
    replace oxB := OwnF.low oxB bb.size
    have t_xG_A := Lib.hid (fun ad (ha : AxG = some ad) => (show ad.block ≠ w.heap.size from by have h2 := (oxG.lt ha).1; have h3 := KA.out.lt; omega))
    replace oxG := OwnF.low oxG bb.size
    replace ow0N := ow0N.below b
    replace KA := Lib.hid (KA.out.ext b)
    replace gN := gN.below b
    replace gB := gB.below b
    replace gG := gG.below b
    replace bb := ext_trans bb b
    clear b
    have t_w0N_X := Lib.hid (fun ad (ha : Aw0N = some ad) => (show ad.block ≠ w5.heap.size from by have h2 := (ow0N.lt ha).2; omega))
    have t_xN_X := Lib.hid (fun ad (ha : AxN = some ad) => (show ad.block ≠ w5.heap.size from by have h2 := (oxN.lt ha).2; omega))
    have t_xB_X := Lib.hid (fun ad (ha : AxB = some ad) => (show ad.block ≠ w5.heap.size from by have h2 := (oxB.lt ha).2; omega))
    have t_xG_X := Lib.hid (fun ad (ha : AxG = some ad) => (show ad.block ≠ w5.heap.size from by have h2 := (oxG.lt ha).2; omega))
    replace ow0N := ow0N.alloc (.cells #[.int .i64 v, .slice AxN n cxN, .slice AxB m cxB, .slice AxG p cxG] 43)
    replace oxN := oxN.alloc (.cells #[.int .i64 v, .slice AxN n cxN, .slice AxB m cxB, .slice AxG p cxG] 43)
    replace oxB := oxB.alloc (.cells #[.int .i64 v, .slice AxN n cxN, .slice AxB m cxB, .slice AxG p cxG] 43)
    replace oxG := oxG.alloc (.cells #[.int .i64 v, .slice AxN n cxN, .slice AxB m cxB, .slice AxG p cxG] 43)
    replace KA := Lib.hid (KA.out.alloc (.cells #[.int .i64 v, .slice AxN n cxN, .slice AxB m cxB, .slice AxG p cxG] 43))
    have KX := Lib.hid (Blk.new w5 43 #[.int .i64 v, .slice AxN n cxN, .slice AxB m cxB, .slice AxG p cxG])
    replace gN := gN.alloc (.cells #[.int .i64 v, .slice AxN n cxN, .slice AxB m cxB, .slice AxG p cxG] 43)
    replace gB := gB.alloc (.cells #[.int .i64 v, .slice AxN n cxN, .slice AxB m cxB, .slice AxG p cxG] 43)
    replace gG := gG.alloc (.cells #[.int .i64 v, .slice AxN n cxN, .slice AxB m cxB, .slice AxG p cxG] 43)
    replace bb := bb.alloc bb.size (.cells #[.int .i64 v, .slice AxN n cxN, .slice AxB m cxB, .slice AxG p cxG] 43)
    have pX0 := (KX.out.cell 0).trans (show _ = some (Value.int .i64 v) from rfl)
    have pX1 := (KX.out.cell 1).trans (show _ = some (Value.slice AxN n cxN) from rfl)
    have pX2 := (KX.out.cell 2).trans (show _ = some (Value.slice AxB m cxB) from rfl)
    have pX3 := (KX.out.cell 3).trans (show _ = some (Value.slice AxG p cxG) from rfl)
    go_wp2_with fail
    generalize w5.alloc (.cells #[.int .i64 v, .slice AxN n cxN, .slice AxB m cxB, .slice AxG p cxG] 43) = w6 at *
    refine (implBestCorner_r v AxN n cxN ns AxB m cxB bs AxG p cxG gs a1 _ oxN.flts oxB.flts oxG.flts HMN.out HMB.out HMG.out (cap2F_BestCorner oxN)).mono ?_
    rw [← Hr0n.out, ← Hr1x.out]
    rintro e w7 ⟨Ag0N, mg0N, cg0N, rfl, og0N, b⟩
    obtain rfl : nr0n = mg0N := by rw [HNr0n.out]; exact og0N.len
    clear pX0 pX1 pX2 pX3
    have s_w0N_g0N := sepD_BestCorner (ccF_BestCorner ow0N) (ccF_BestCorner og0N)
    have s_xN_g0N := sepD_BestCorner (ccF_BestCorner oxN) (ccF_BestCorner og0N)
    have s_xB_g0N := sepD_BestCorner (ccF_BestCorner oxB) (ccF_BestCorner og0N)
    have s_xG_g0N := sepD_BestCorner (ccF_BestCorner oxG) (ccF_BestCorner og0N)
    have t_g0N_A := Lib.hid (fun ad (ha : Ag0N = some ad) => (show ad.block ≠ w.heap.size from by have h2 := (og0N.lt ha).1; have h3 := KA.out.lt; omega))
    have t_g0N_X := Lib.hid (fun ad (ha : Ag0N = some ad) => (show ad.block ≠ w5.heap.size from by have h2 := (og0N.lt ha).1; have h3 := KX.out.lt; omega))
    replace og0N := OwnF.low og0N bb.size
    replace ow0N := ow0N.below b
    replace oxN := oxN.below b
    replace oxB := oxB.below b
    replace oxG := oxG.below b
    replace KA := Lib.hid (KA.out.ext b)
    replace KX := Lib.hid (KX.out.ext b)
    replace gN := gN.below b
    replace gB := gB.below b
    replace gG := gG.below b
    replace bb := ext_trans bb b
    clear b
    go_wp2_with fail
    refine (eqFloat32S_same Ag0N Aw0N nr0n cg0N cw0N r0n _ og0N.flts ow0N.flts (by unfold maxLen; omega)).mono ?_
    rintro e w8 ⟨rfl, dr⟩
    have b := dr.below
    clear dr
    replace ow0N := ow0N.below b
    replace oxN := oxN.below b
    replace oxB := oxB.below b
    replace oxG := oxG.below b
    replace og0N := og0N.below b
    replace KA := Lib.hid (KA.out.ext b)
    replace KX := Lib.hid (KX.out.ext b)
    replace gN := gN.below b
    replace gB := gB.below b
    replace gG := gG.below b
    replace bb := ext_trans bb b
    clear b
    have pX0 := (KX.out.cell 0).trans (show _ = some (Value.int .i64 v) from rfl)
    have pX1 := (KX.out.cell 1).trans (show _ = some (Value.slice AxN n cxN) from rfl)
    have pX2 := (KX.out.cell 2).trans (show _ = some (Value.slice AxB m cxB) from rfl)
    have pX3 := (KX.out.cell 3).trans (show _ = some (Value.slice AxG p cxG) from rfl)
    have pA0 := (KA.out.cell 0).trans (show _ = some (Value.int .i64 v) from rfl)
    have pA1 := (KA.out.cell 1).trans (show _ = some (Value.slice A n c) from rfl)
    have pA2 := (KA.out.cell 2).trans (show _ = some (Value.slice B m d) from rfl)
    have pA3 := (KA.out.cell 3).trans (show _ = some (Value.slice G p g) from rfl)
    go_wp2_with fail
    go_cut [49] (fun sx wx => sx = .bool false ∧ Below w8.heap.size w8 wx)
    case first =>
      go_region_with (first | (go_at_call 20; refine (toRows_any v A n c ns B m d bs G p g gs _ gN.drew gB.drew gG.drew big1 big2 big3).mono ?_; rintro e w7 ⟨A3, c3, A4, c4, A5, c5, rfl, o3, o4, o5, _, _, _, b⟩; have kx := KX.out.drew.ext b; have q0 := kx.cell 0; have q1 := kx.cell 1; have q2 := kx.cell 2; have q3 := kx.cell 3; clear kx) | (go_at_call 23; refine (eqRows_same v AxN n cxN ns AxB m cxB bs AxG p cxG gs A3 c3 A4 c4 A5 c5 _ (oxN.drew.below b).flts (oxB.drew.below b).flts (oxG.drew.below b).flts o3.flts o4.flts o5.flts HMN.out HMB.out HMG.out).mono ?_; rintro e w8 ⟨rfl, b8⟩))
      all_goals
        go_wp2_with fail
        go_meet
        exact ⟨rfl, ext_trans (ext_trans (Below.drew (Below.refl _ _)) b) b8⟩
    case rest =>
      obtain ⟨rfl, b⟩ := hcut
      clear pX0 pX1 pX2 pX3 pA0 pA1 pA2 pA3
      replace ow0N := ow0N.below b
      replace oxN := oxN.below b
      replace oxB := oxB.below b
      replace oxG := oxG.below b
      replace og0N := og0N.below b
      replace KA := Lib.hid (KA.out.ext b)
      replace KX := Lib.hid (KX.out.ext b)
      replace gN := gN.below b
      replace gB := gB.below b
      replace gG := gG.below b
      replace bb := ext_trans bb b
      clear b
      have pX0 := (KX.out.cell 0).trans (show _ = some (Value.int .i64 v) from rfl)
      have pX1 := (KX.out.cell 1).trans (show _ = some (Value.slice AxN n cxN) from rfl)
      have pX2 := (KX.out.cell 2).trans (show _ = some (Value.slice AxB m cxB) from rfl)
      have pX3 := (KX.out.cell 3).trans (show _ = some (Value.slice AxG p cxG) from rfl)
      go_wp2_with fail
      refine (markRows_any _ v AxN n cxN ns AxB m cxB bs AxG p cxG gs 1 _ oxN oxB oxG s_xN_xB s_xN_xG s_xB_xG (by omega)).mono ?_
      rintro e w9 ⟨rfl, u⟩
      clear pX0 pX1 pX2 pX3
      replace bb := bb.trans (u.toBelow bb.size (fun k hk hb => by
        rcases hb with ⟨x, h1, h2⟩ | ⟨x, h1, h2⟩ | ⟨x, h1, h2⟩
        · have h3 := (oxN.lt h1).1; omega
        · have h3 := (oxB.lt h1).1; omega
        · have h3 := (oxG.lt h1).1; omega))
      replace ow0N := OwnF.upd ow0N u (fun ad ha hb => by
        rcases hb with ⟨x, h1, h2⟩ | ⟨x, h1, h2⟩ | ⟨x, h1, h2⟩
        · exact s_w0N_xN.symm x ad h1 ha h2
        · exact s_w0N_xB.symm x ad h1 ha h2
        · exact s_w0N_xG.symm x ad h1 ha h2)
      replace og0N := OwnF.upd og0N u (fun ad ha hb => by
        rcases hb with ⟨x, h1, h2⟩ | ⟨x, h1, h2⟩ | ⟨x, h1, h2⟩
        · exact s_xN_g0N x ad h1 ha h2
        · exact s_xB_g0N x ad h1 ha h2
        · exact s_xG_g0N x ad h1 ha h2)
      replace KA := Lib.hid (KA.out.upd u (by
        rintro (⟨x, h1, h2⟩ | ⟨x, h1, h2⟩ | ⟨x, h1, h2⟩)
        · exact t_xN_A.out x h1 h2
        · exact t_xB_A.out x h1 h2
        · exact t_xG_A.out x h1 h2))
      replace KX := Lib.hid (KX.out.upd u (by
        rintro (⟨x, h1, h2⟩ | ⟨x, h1, h2⟩ | ⟨x, h1, h2⟩)
        · exact t_xN_X.out x h1 h2
        · exact t_xB_X.out x h1 h2
        · exact t_xG_X.out x h1 h2))
      clear gN gB gG
      have gN := hN.below bb
      have gB := hB.below bb
      have gG := hG.below bb
      clear u
      clear oxN
      clear oxB
      clear oxG
      have hk1 : ¬ (((1 + n + m + p : Nat) : Int) < 0) := by omega
      go_wp2_with fail
      refine (eqFloat32S_same Ag0N Aw0N nr0n cg0N cw0N r0n _ og0N.flts ow0N.flts (by unfold maxLen; omega)).mono ?_
      rintro e w10 ⟨rfl, dr⟩
      have b := dr.below
      clear dr
      replace ow0N := ow0N.below b
      replace og0N := og0N.below b
      replace KA := Lib.hid (KA.out.ext b)
      replace KX := Lib.hid (KX.out.ext b)
      replace gN := gN.below b
      replace gB := gB.below b
      replace gG := gG.below b
      replace bb := ext_trans bb b
      clear b
      go_wp2_with fail
      refine (markFloat32S_any _ _ Ag0N nr0n cg0N r0n (1) _ og0N (by omega)).mono ?_
      rintro e w11 ⟨rfl, o1, u⟩
      replace bb := bb.trans (u.toBelow bb.size (fun k hk hb => by
        obtain ⟨x, h1, h2⟩ := hb
        have h3 := (og0N.lt h1).1; omega))
      replace ow0N := OwnF.upd ow0N u (fun ad ha hb => by obtain ⟨x, h1, h2⟩ := hb; exact s_w0N_g0N.symm x ad h1 ha h2)
      replace KA := Lib.hid (KA.out.upd u (by
        rintro (⟨x, h1, h2⟩)
        · exact t_g0N_A.out x h1 h2))
      replace KX := Lib.hid (KX.out.upd u (by
        rintro (⟨x, h1, h2⟩)
        · exact t_g0N_X.out x h1 h2))
      clear gN gB gG
      have gN := hN.below bb
      have gB := hB.below bb
      have gG := hG.below bb
      clear u og0N
      have og0N := o1
      clear o1
      have hk2 : ¬ (((1 + nr0n : Nat) : Int) < 0) := by omega
      go_wp2_with fail
      refine (heldFloat32S_any Ag0N nr0n cg0N (1) _ og0N.flts (by omega)).mono ?_
      rintro e w_ ⟨rfl, rfl⟩
      have pA0 := (KA.out.cell 0).trans (show _ = some (Value.int .i64 v) from rfl)
      have pA1 := (KA.out.cell 1).trans (show _ = some (Value.slice A n c) from rfl)
      have pA2 := (KA.out.cell 2).trans (show _ = some (Value.slice B m d) from rfl)
      have pA3 := (KA.out.cell 3).trans (show _ = some (Value.slice G p g) from rfl)
      go_wp2_with fail
      refine (toRows_any v A n c ns B m d bs G p g gs _ gN gB gG big1 big2 big3).mono ?_
      rintro e w12 ⟨AqN, cqN, AqB, cqB, AqG, cqG, rfl, oqN, oqB, oqG, s_qN_qB, s_qN_qG, s_qB_qG, b⟩
      clear pA0 pA1 pA2 pA3
      have s_w0N_qN := sepD_BestCorner (ccF_BestCorner ow0N) (ccF_BestCorner oqN)
      have s_w0N_qB := sepD_BestCorner (ccF_BestCorner ow0N) (ccF_BestCorner oqB)
      have s_w0N_qG := sepD_BestCorner (ccF_BestCorner ow0N) (ccF_BestCorner oqG)
      have s_g0N_qN := sepD_BestCorner (ccF_BestCorner og0N) (ccF_BestCorner oqN)
      have s_g0N_qB := sepD_BestCorner (ccF_BestCorner og0N) (ccF_BestCorner oqB)
      have s_g0N_qG := sepD_BestCorner (ccF_BestCorner og0N) (ccF_BestCorner oqG)
      have t_qN_A := Lib.hid (fun ad (ha : AqN = some ad) => (show ad.block ≠ w.heap.size from by have h2 := (oqN.lt ha).1; have h3 := KA.out.lt; omega))
      have t_qN_X := Lib.hid (fun ad (ha : AqN = some ad) => (show ad.block ≠ w5.heap.size from by have h2 := (oqN.lt ha).1; have h3 := KX.out.lt; omega))
      replace oqN := OwnF.low oqN bb.size
      have t_qB_A := Lib.hid (fun ad (ha : AqB = some ad) => (show ad.block ≠ w.heap.size from by have h2 := (oqB.lt ha).1; have h3 := KA.out.lt; omega))
      have t_qB_X := Lib.hid (fun ad (ha : AqB = some ad) => (show ad.block ≠ w5.heap.size from by have h2 := (oqB.lt ha).1; have h3 := KX.out.lt; omega))
      replace oqB := OwnF.low oqB bb.size
      have t_qG_A := Lib.hid (fun ad (ha : AqG = some ad) => (show ad.block ≠ w.heap.size from by have h2 := (oqG.lt ha).1; have h3 := KA.out.lt; omega))
      have t_qG_X := Lib.hid (fun ad (ha : AqG = some ad) => (show ad.block ≠ w5.heap.size from by have h2 := (oqG.lt ha).1; have h3 := KX.out.lt; omega))
      replace oqG := OwnF.low oqG bb.size
      replace ow0N := ow0N.below b
      replace og0N := og0N.below b
      replace KA := Lib.hid (KA.out.ext b)
      replace KX := Lib.hid (KX.out.ext b)
      replace gN := gN.below b
      replace gB := gB.below b
      replace gG := gG.below b
      replace bb := ext_trans bb b
      clear b
      go_wp2_with fail
      refine (implBestCorner_r v AqN n cqN ns AqB m cqB bs AqG p cqG gs a1 _ oqN.flts oqB.flts oqG.flts HMN.out HMB.out HMG.out (cap2F_BestCorner oqN)).mono ?_
      rw [← Hr0n.out, ← Hr1x.out]
      rintro e w13 ⟨Ah0N, mh0N, ch0N, rfl, oh0N, b⟩
      obtain rfl : nr0n = mh0N := by rw [HNr0n.out]; exact oh0N.len
      have s_w0N_h0N := sepD_BestCorner (ccF_BestCorner ow0N) (ccF_BestCorner oh0N)
      have s_g0N_h0N := sepD_BestCorner (ccF_BestCorner og0N) (ccF_BestCorner oh0N)
      have s_qN_h0N := sepD_BestCorner (ccF_BestCorner oqN) (ccF_BestCorner oh0N)
      have s_qB_h0N := sepD_BestCorner (ccF_BestCorner oqB) (ccF_BestCorner oh0N)
      have s_qG_h0N := sepD_BestCorner (ccF_BestCorner oqG) (ccF_BestCorner oh0N)
      have t_h0N_A := Lib.hid (fun ad (ha : Ah0N = some ad) => (show ad.block ≠ w.heap.size from by have h2 := (oh0N.lt ha).1; have h3 := KA.out.lt; omega))
      have t_h0N_X := Lib.hid (fun ad (ha : Ah0N = some ad) => (show ad.block ≠ w5.heap.size from by have h2 := (oh0N.lt ha).1; have h3 := KX.out.lt; omega))
      replace oh0N := OwnF.low oh0N bb.size
      replace ow0N := ow0N.below b
      replace og0N := og0N.below b
      replace oqN := oqN.below b
      replace oqB := oqB.below b
      replace oqG := oqG.below b
      replace KA := Lib.hid (KA.out.ext b)
      replace KX := Lib.hid (KX.out.ext b)
      replace gN := gN.below b
      replace gB := gB.below b
      replace gG := gG.below b
      replace bb := ext_trans bb b
      clear b
      clear oqN
      clear oqB
      clear oqG
      go_wp2_with fail
      refine (eqFloat32S_same Ah0N Aw0N nr0n ch0N cw0N r0n _ oh0N.flts ow0N.flts (by unfold maxLen; omega)).mono ?_
      rintro e w14 ⟨rfl, dr⟩
      have b := dr.below
      clear dr
      replace ow0N := ow0N.below b
      replace og0N := og0N.below b
      replace oh0N := oh0N.below b
      replace KA := Lib.hid (KA.out.ext b)
      replace KX := Lib.hid (KX.out.ext b)
      replace gN := gN.below b
      replace gB := gB.below b
      replace gG := gG.below b
      replace bb := ext_trans bb b
      clear b
      go_wp2_with fail
      refine (heldFloat32S_any Ag0N nr0n cg0N (1) _ og0N.flts (by omega)).mono ?_
      rintro e w_ ⟨rfl, rfl⟩
      go_wp2
      go_ret
      exact ⟨rfl, (Below.refl w.heap.size w).trans bb⟩
  · go_enter Try.func8, Try.ntmps8
    have pA0 := (KA.out.cell 0).trans (show _ = some (Value.int .i64 v) from rfl)
    have pA1 := (KA.out.cell 1).trans (show _ = some (Value.slice A n c) from rfl)
    have pA2 := (KA.out.cell 2).trans (show _ = some (Value.slice B m d) from rfl)
    have pA3 := (KA.out.cell 3).trans (show _ = some (Value.slice G p g) from rfl)
    go_wp2_with fail
    generalize (w.alloc (.cells #[.int .i64 v, .slice A n c, .slice B m d, .slice G p g] 39)).alloc (.cells #[.int .i64 v, .slice A n c, .slice B m d, .slice G p g] 39) = w15 at *
    refine (szRows_no v A n c B m d G p g 1048576 _ (by omega) (by omega) (by omega) HMN.out HMB.out HMG.out).mono ?_
    rintro e w1 ⟨rfl, b⟩
    clear pA0 pA1 pA2 pA3
    replace bb := ext_trans bb b
    clear b
    go_wp2_with fail
    go_ret
    exact ⟨rfl, bb⟩
end Go.Proofs.Ytbbcddbdinmaaaa
