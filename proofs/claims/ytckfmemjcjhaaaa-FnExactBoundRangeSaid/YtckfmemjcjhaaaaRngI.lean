/- The program's BoundRange (printed by gen_rng.py). -/
import Derived.Test.YtckfmemjcjhaaaaRngR
import Derived.Test.YtckfmemjcjhaaaaRowI
namespace Go.Proofs.Ytckfmemjcjhaaaa
open Go.RowKit

set_option maxRecDepth 100000 in
set_option maxHeartbeats 4000000 in
theorem implBoundRange_r (v : Int) (A : Option Addr) (n c : Nat) (ns : List Nat) (B : Option Addr) (m d : Nat) (bs : List Nat) (G : Option Addr) (p g : Nat) (gs : List Nat) (ix most : Int) (near : Nat) (w : World) (hN : FltsAt w A n ns) (hB : FltsAt w B m bs) (hG : FltsAt w G p gs) (hn : n ≤ maxLen) (hm : m ≤ maxLen) (hp : p ≤ maxLen) (hcap : n ≤ c ∧ c ≤ maxLen) :
    Calls Try.prog 27 #[.agg #[.int .i64 v, .slice A n c, .slice B m d, .slice G p g], .int .i64 ix, .int .i64 most, .float .f32 near] w (Retffb (rgL (rngR v ns bs gs ix most near)) (rgH (rngR v ns bs gs ix most near)) (rngR v ns bs gs ix most near).isSome w) := by
  have HLB := Lib.hid hB.len
  obtain ⟨W0, hW0⟩ : ∃ W0, W0 = w.alloc (.cells #[.int .i64 v, .slice A n c, .slice B m d, .slice G p g] 43) := ⟨_, rfl⟩
  have KA := Lib.hid (show Blk W0 w.heap.size 43 #[.int .i64 v, .slice A n c, .slice B m d, .slice G p g] by rw [hW0]; exact Blk.new w _ _)
  have hW : Below w.heap.size w W0 := by rw [hW0]; exact (Below.refl _ _).alloc (Nat.le_refl _) _
  have HSD := Lib.hid (solved_r v A n c ns B m d bs G p g gs most near W0 (hN.below hW) (hB.below hW) (hG.below hW) hn hm hp hcap)
  have HBF := Lib.hid (hB.below hW)
  have HIV := Lib.hid (fun M a b (h : bestS v ns bs gs ((M : Nat) : Int) near = some (a, b)) => bestS_inv h)
  have HMN := Lib.hid (fun (h : ¬ 0 ≤ most) => show bestS v ns bs gs most near = none from bestS_no (rowS_no (by unfold rowOk; cases hi : inB most 0 64 with | false => simp | true => exact absurd (inB_iff.1 hi).1 h)))
  have HW0 := Lib.hid hW0
  obtain ⟨o, ho⟩ : ∃ o, o = rngR v ns bs gs ix most near := ⟨_, rfl⟩
  have HO := Lib.hid ho
  rw [← ho]
  clear hN hB hG hW0 hcap ho
  cases hs : bestS v ns bs gs most near with
  | none =>
    have HF := Lib.hid (show o = none by rw [HO.out]; exact rng_no2 hs)
    have p0 := KA.out.cell 0
    have p1 := KA.out.cell 1
    have p2 := KA.out.cell 2
    have p3 := KA.out.cell 3
    rw [HW0.out] at p0 p1 p2 p3
    go_enter Try.func27, Try.ntmps27
    go_wp2_with fail
    rw [← HW0.out]
    clear p0 p1 p2 p3 HW0
    refine HSD.out.mono ?_
    rw [hs]
    rintro e w1 ⟨b1, x, N, nn, cn, Q, qn, cq, rfl⟩
    have hW1 := below_ext hW hW.size b1
    have hW2 := hW1.alloc hW1.size (.cells #[.int .i64 x, .slice N nn cn, .slice Q qn cq] 27)
    go_wp2_with fail
    go_ret3
    rw [HF.out]
    exact ⟨rfl, hW2⟩
  | some s =>
    obtain ⟨a, b⟩ := s
    have h0 : 0 ≤ most := by
      by_cases h : 0 ≤ most
      · exact h
      · rw [HMN.out h] at hs; cases hs
    obtain ⟨M, rfl⟩ := Int.eq_ofNat_of_zero_le h0
    obtain ⟨V, rfl, hV, hm8, hto, hlb⟩ := HIV.out M a b hs
    have HYES := Lib.hid (fun ii (hi : ii < bs.length) => rng_yes (ii := ii) hi hs)
    have p0 := KA.out.cell 0
    have p1 := KA.out.cell 1
    have p2 := KA.out.cell 2
    have p3 := KA.out.cell 3
    rw [HW0.out] at p0 p1 p2 p3
    go_enter Try.func27, Try.ntmps27
    go_wp2_with fail
    rw [← HW0.out]
    clear p0 p1 p2 p3 HW0
    refine HSD.out.mono ?_
    rw [hs]
    rintro e w1 ⟨b1, N, nn, cn, Q, qn, cq, rfl, oN, oQ⟩
    clear hs HMN HIV
    rw [HLB.out] at hm8
    obtain rfl : m = qn := by rw [← oQ.len, hlb, HLB.out]
    have HNN := Lib.hid (show nn = (m + 1) * (V + m + 1) by rw [← oN.len, hto.1, ← oQ.len])
    have hW1 := below_ext hW hW.size b1
    have hW2 := hW1.alloc hW1.size (.cells #[.int .i64 V, .slice N nn cn, .slice Q m cq] 27)
    have KO := Lib.hid (Blk.new w1 27 #[.int .i64 V, .slice N nn cn, .slice Q m cq])
    have KA2 := Lib.hid ((KA.out.ext b1).alloc (.cells #[.int .i64 V, .slice N nn cn, .slice Q m cq] 27))
    have HBF2 := Lib.hid ((HBF.out.below b1).alloc (.cells #[.int .i64 V, .slice N nn cn, .slice Q m cq] 27))
    have HFN := Lib.hid (oN.flts.alloc (.cells #[.int .i64 V, .slice N nn cn, .slice Q m cq] 27))
    clear oN oQ hto hlb b1 KA HBF
    have HIX := Lib.hid (fun (w : World) => isIndex_any ix m w (by omega))
    go_upto_region 2 with (fail)
    generalize w1.alloc (.cells #[.int .i64 V, .slice N nn cn, .slice Q m cq] 27) = W1 at *
    generalize w1.heap.size = gO at *
    have p2 := KA2.out.cell 2
    cases hx : inB ix 0 ((m : Int) - 1)
    · rw [hx] at HIX
      have HF := Lib.hid (show o = none by rw [HO.out]; exact rng_no1 (by rw [HLB.out]; exact hx))
      go_wp2_with fail
      refine (HIX.out _).mono ?_
      rintro e w2 ⟨rfl, rfl⟩
      go_wp2_with fail
      go_ret3
      rw [HF.out]
      exact ⟨rfl, hW2⟩
    · rw [hx] at HIX
      obtain ⟨x0, x1⟩ := inB_iff.1 hx
      obtain ⟨ii, rfl⟩ := Int.eq_ofNat_of_zero_le x0
      have hii : ii < m := by omega
      have hii' : (ii : Int) < (m : Int) := by omega
      clear x0 x1 hx
      obtain ⟨bound, hbd⟩ : ∃ x, bs.getD ii 0 = x := ⟨_, rfl⟩
      have HF0 := Lib.hid (show o = brRes (brLo V m a near ii bound) (brHi V m a near ii bound) by rw [HO.out, HYES.out ii (by rw [HLB.out]; exact hii), HLB.out, hbd])
      obtain ⟨adB, hadB, _, cB⟩ := HBF2.out.at_ hii
      rw [hbd] at cB
      have HAT := Lib.hid (fun k (w : World) hN (hk : k < m) => tat_any V N nn cn a Q m cq k (V + ii) w hN hV.2 hm8.2 HNN.out (by omega) (by omega))
      have HLA := Lib.hid (fun k (w : World) hN (hk : k < m) => tlast_any V N nn cn a Q m cq k w hN hV.2 hm8.2 HNN.out (by omega))
      have HUS := Lib.hid (fun k => show brUp V m a near ii bound (k + 1) = brS near (a.getD (k * (V + m + 1) + (V + ii)) 0) (a.getD (k * (V + m + 1) + (V + m)) 0) (brUp V m a near ii bound k) from rfl)
      obtain ⟨C, hC⟩ : ∃ C : Nat, V + ii = C := ⟨_, rfl⟩
      have hVi : (V : Int) + (ii : Int) = (C : Int) := by omega
      have hC16 : C ≤ 16 := by omega
      rw [hC] at HAT HUS
      clear hC
      have hneg := fun (w : World) (b : Nat) => run_neg_f (P := Try.prog) w b
      have HADB := Lib.hid hadB
      rw [hadB] at p2
      clear hbd hadB
      have q2 := KO.out.cell 2
      go_wp2_with fail
      refine (HIX.out _).mono ?_
      rintro e w2 ⟨rfl, rfl⟩
      go_wp2_with fail
      clear p2 q2 cB
      go_loopg [14, 15, 16, 17, 49] m (fun rr dv uv lv mv iv wi => ∃ (k dn up : Nat) (less more : Bool), rr = m - k ∧ k ≤ m ∧ dv = .float .f32 dn ∧ uv = .float .f32 up ∧ lv = .bool less ∧ mv = .bool more ∧ iv = .int .i64 k ∧ Hid (brUp V m a near ii bound k = (absK .f32 dn, less, absK .f32 up, more)) ∧ Below W1.heap.size W1 wi)
      case atStart => exact ⟨0, bound, 1232348160, false, false, rfl, Nat.zero_le _, rfl, rfl, rfl, rfl, rfl, Lib.hid rfl, Below.refl _ _⟩
      case round =>
        obtain ⟨k, dn, up, less, more, hr, hk, rfl, rfl, rfl, rfl, rfl, hup, hbi⟩ := hrel
        have HRK := Lib.hid hr
        clear hr
        obtain ⟨wo, hwo⟩ : ∃ x, x = wr := ⟨_, rfl⟩
        rw [← hwo]
        rw [← hwo] at hbi
        clear hwo
        have K1 := Lib.hid (KO.out.ext hbi)
        have KA3 := Lib.hid (KA2.out.ext hbi)
        have N1 := Lib.hid (HFN.out.below hbi)
        by_cases hlt : k < m
        · have hlt' : (k : Int) < (m : Int) := by omega
          have HUP := Lib.hid (show brUp V m a near ii bound (k + 1) = brS near (a.getD (k * (V + m + 1) + C) 0) (a.getD (k * (V + m + 1) + (V + m)) 0) (absK .f32 dn, less, absK .f32 up, more) by rw [← hup.out]; exact HUS.out k)
          have p0 := K1.out.cell 0
          have p1 := K1.out.cell 1
          have p2 := K1.out.cell 2
          have r0 := KA3.out.cell 0
          go_wp2_with fail
          refine (HAT.out k _ N1.out hlt).mono ?_
          rintro e w5 ⟨rfl, b5⟩
          have K2 := Lib.hid (K1.out.ext b5)
          have N2 := Lib.hid (N1.out.below b5)
          have hb5 := below_ext hbi hbi.size b5
          clear p0 p1 p2 r0 b5 hbi
          generalize a.getD (k * (V + m + 1) + C) 0 = x at *
          have p0 := K2.out.cell 0
          have p1 := K2.out.cell 1
          have p2 := K2.out.cell 2
          go_wp2_with fail
          refine (HLA.out k _ N2.out hlt).mono ?_
          rintro e w6 ⟨rfl, b6⟩
          have hb6 := below_ext hb5 hb5.size b6
          clear p0 p1 p2 b6 hb5
          generalize a.getD (k * (V + m + 1) + (V + m)) 0 = y at *
          have HOQ := Lib.hid (fun q (hq : absK .f32 q = fop .quo .f32 (absK .f32 y) (absK .f32 x)) => brS_of (near := near) (dn := dn) (up := up) (less := less) (more := more) hq)
          go_upto_region 12 with (refine wp_fop _ rfl .quo _ _ _ _ rfl rfl .f32 y x rfl rfl ?_; intro q w9 hb9 hlt9 hd9; obtain ⟨q9, rfl⟩ := hd9; have HB9 := Lib.hid hb9; clear hb9)
          have HOF := Lib.hid (HOQ.out q HB9.out)
          have hb9 := below_drewN hb6 q9
          generalize w6.drewN q9 = W9 at *
          clear HOQ HB9
          cases hg1 : (FloatKind.f32.format.order x near == some .gt)
          · skip
            cases hg2 : (FloatKind.f32.format.order x (Op.negFloat .f32 near) == some .lt)
            · skip
              have HNX := Lib.hid (show brUp V m a near ii bound (k + 1) = (absK .f32 dn, less, absK .f32 up, more) by rw [HUP.out, HOF.out]; simp [hg1, hg2])
              go_wp2_with fail
              go_roundg (m - (k + 1))
              case measure => rw [HRK.out]; omega
              case rel => exact ⟨k + 1, dn, up, less, more, rfl, by omega, rfl, rfl, rfl, rfl, by go_num, HNX, hb9⟩
            · skip
              cases more
              · skip
                have HNX := Lib.hid (show brUp V m a near ii bound (k + 1) = (absK .f32 dn, less, absK .f32 (Op.negFloat .f32 q), true) by rw [HUP.out, HOF.out]; simp [hg1, hg2])
                go_wp2_with fail
                go_roundg (m - (k + 1))
                case measure => rw [HRK.out]; omega
                case rel => exact ⟨k + 1, dn, (Op.negFloat .f32 q), less, true, rfl, by omega, rfl, rfl, rfl, rfl, by go_num, HNX, hb9⟩
              · skip
                cases hu : (FloatKind.f32.format.order (Op.negFloat .f32 q) up == some .lt)
                · skip
                  have HNX := Lib.hid (show brUp V m a near ii bound (k + 1) = (absK .f32 dn, less, absK .f32 up, true) by rw [HUP.out, HOF.out]; simp [hg1, hg2, hu])
                  go_wp2_with fail
                  go_roundg (m - (k + 1))
                  case measure => rw [HRK.out]; omega
                  case rel => exact ⟨k + 1, dn, up, less, true, rfl, by omega, rfl, rfl, rfl, rfl, by go_num, HNX, hb9⟩
                · skip
                  have HNX := Lib.hid (show brUp V m a near ii bound (k + 1) = (absK .f32 dn, less, absK .f32 (Op.negFloat .f32 q), true) by rw [HUP.out, HOF.out]; simp [hg1, hg2, hu])
                  go_wp2_with fail
                  go_roundg (m - (k + 1))
                  case measure => rw [HRK.out]; omega
                  case rel => exact ⟨k + 1, dn, (Op.negFloat .f32 q), less, true, rfl, by omega, rfl, rfl, rfl, rfl, by go_num, HNX, hb9⟩
          · skip
            cases less
            · skip
              cases hg2 : (FloatKind.f32.format.order x (Op.negFloat .f32 near) == some .lt)
              · skip
                have HNX := Lib.hid (show brUp V m a near ii bound (k + 1) = (absK .f32 q, true, absK .f32 up, more) by rw [HUP.out, HOF.out]; simp [hg1, hg2])
                go_wp2_with fail
                go_roundg (m - (k + 1))
                case measure => rw [HRK.out]; omega
                case rel => exact ⟨k + 1, q, up, true, more, rfl, by omega, rfl, rfl, rfl, rfl, by go_num, HNX, hb9⟩
              · skip
                cases more
                · skip
                  have HNX := Lib.hid (show brUp V m a near ii bound (k + 1) = (absK .f32 q, true, absK .f32 (Op.negFloat .f32 q), true) by rw [HUP.out, HOF.out]; simp [hg1, hg2])
                  go_wp2_with fail
                  go_roundg (m - (k + 1))
                  case measure => rw [HRK.out]; omega
                  case rel => exact ⟨k + 1, q, (Op.negFloat .f32 q), true, true, rfl, by omega, rfl, rfl, rfl, rfl, by go_num, HNX, hb9⟩
                · skip
                  cases hu : (FloatKind.f32.format.order (Op.negFloat .f32 q) up == some .lt)
                  · skip
                    have HNX := Lib.hid (show brUp V m a near ii bound (k + 1) = (absK .f32 q, true, absK .f32 up, true) by rw [HUP.out, HOF.out]; simp [hg1, hg2, hu])
                    go_wp2_with fail
                    go_roundg (m - (k + 1))
                    case measure => rw [HRK.out]; omega
                    case rel => exact ⟨k + 1, q, up, true, true, rfl, by omega, rfl, rfl, rfl, rfl, by go_num, HNX, hb9⟩
                  · skip
                    have HNX := Lib.hid (show brUp V m a near ii bound (k + 1) = (absK .f32 q, true, absK .f32 (Op.negFloat .f32 q), true) by rw [HUP.out, HOF.out]; simp [hg1, hg2, hu])
                    go_wp2_with fail
                    go_roundg (m - (k + 1))
                    case measure => rw [HRK.out]; omega
                    case rel => exact ⟨k + 1, q, (Op.negFloat .f32 q), true, true, rfl, by omega, rfl, rfl, rfl, rfl, by go_num, HNX, hb9⟩
            · skip
              cases hl : (FloatKind.f32.format.order q dn == some .lt)
              · skip
                cases hg2 : (FloatKind.f32.format.order x (Op.negFloat .f32 near) == some .lt)
                · skip
                  have HNX := Lib.hid (show brUp V m a near ii bound (k + 1) = (absK .f32 dn, true, absK .f32 up, more) by rw [HUP.out, HOF.out]; simp [hg1, hl, hg2])
                  go_wp2_with fail
                  go_roundg (m - (k + 1))
                  case measure => rw [HRK.out]; omega
                  case rel => exact ⟨k + 1, dn, up, true, more, rfl, by omega, rfl, rfl, rfl, rfl, by go_num, HNX, hb9⟩
                · skip
                  cases more
                  · skip
                    have HNX := Lib.hid (show brUp V m a near ii bound (k + 1) = (absK .f32 dn, true, absK .f32 (Op.negFloat .f32 q), true) by rw [HUP.out, HOF.out]; simp [hg1, hl, hg2])
                    go_wp2_with fail
                    go_roundg (m - (k + 1))
                    case measure => rw [HRK.out]; omega
                    case rel => exact ⟨k + 1, dn, (Op.negFloat .f32 q), true, true, rfl, by omega, rfl, rfl, rfl, rfl, by go_num, HNX, hb9⟩
                  · skip
                    cases hu : (FloatKind.f32.format.order (Op.negFloat .f32 q) up == some .lt)
                    · skip
                      have HNX := Lib.hid (show brUp V m a near ii bound (k + 1) = (absK .f32 dn, true, absK .f32 up, true) by rw [HUP.out, HOF.out]; simp [hg1, hl, hg2, hu])
                      go_wp2_with fail
                      go_roundg (m - (k + 1))
                      case measure => rw [HRK.out]; omega
                      case rel => exact ⟨k + 1, dn, up, true, true, rfl, by omega, rfl, rfl, rfl, rfl, by go_num, HNX, hb9⟩
                    · skip
                      have HNX := Lib.hid (show brUp V m a near ii bound (k + 1) = (absK .f32 dn, true, absK .f32 (Op.negFloat .f32 q), true) by rw [HUP.out, HOF.out]; simp [hg1, hl, hg2, hu])
                      go_wp2_with fail
                      go_roundg (m - (k + 1))
                      case measure => rw [HRK.out]; omega
                      case rel => exact ⟨k + 1, dn, (Op.negFloat .f32 q), true, true, rfl, by omega, rfl, rfl, rfl, rfl, by go_num, HNX, hb9⟩
              · skip
                cases hg2 : (FloatKind.f32.format.order x (Op.negFloat .f32 near) == some .lt)
                · skip
                  have HNX := Lib.hid (show brUp V m a near ii bound (k + 1) = (absK .f32 q, true, absK .f32 up, more) by rw [HUP.out, HOF.out]; simp [hg1, hl, hg2])
                  go_wp2_with fail
                  go_roundg (m - (k + 1))
                  case measure => rw [HRK.out]; omega
                  case rel => exact ⟨k + 1, q, up, true, more, rfl, by omega, rfl, rfl, rfl, rfl, by go_num, HNX, hb9⟩
                · skip
                  cases more
                  · skip
                    have HNX := Lib.hid (show brUp V m a near ii bound (k + 1) = (absK .f32 q, true, absK .f32 (Op.negFloat .f32 q), true) by rw [HUP.out, HOF.out]; simp [hg1, hl, hg2])
                    go_wp2_with fail
                    go_roundg (m - (k + 1))
                    case measure => rw [HRK.out]; omega
                    case rel => exact ⟨k + 1, q, (Op.negFloat .f32 q), true, true, rfl, by omega, rfl, rfl, rfl, rfl, by go_num, HNX, hb9⟩
                  · skip
                    cases hu : (FloatKind.f32.format.order (Op.negFloat .f32 q) up == some .lt)
                    · skip
                      have HNX := Lib.hid (show brUp V m a near ii bound (k + 1) = (absK .f32 q, true, absK .f32 up, true) by rw [HUP.out, HOF.out]; simp [hg1, hl, hg2, hu])
                      go_wp2_with fail
                      go_roundg (m - (k + 1))
                      case measure => rw [HRK.out]; omega
                      case rel => exact ⟨k + 1, q, up, true, true, rfl, by omega, rfl, rfl, rfl, rfl, by go_num, HNX, hb9⟩
                    · skip
                      have HNX := Lib.hid (show brUp V m a near ii bound (k + 1) = (absK .f32 q, true, absK .f32 (Op.negFloat .f32 q), true) by rw [HUP.out, HOF.out]; simp [hg1, hl, hg2, hu])
                      go_wp2_with fail
                      go_roundg (m - (k + 1))
                      case measure => rw [HRK.out]; omega
                      case rel => exact ⟨k + 1, q, (Op.negFloat .f32 q), true, true, rfl, by omega, rfl, rfl, rfl, rfl, by go_num, HNX, hb9⟩
        · have e : k = m := by omega
          have HE := Lib.hid (show brUp V m a near ii bound m = (absK .f32 dn, less, absK .f32 up, more) by have h9 := hup.out; rw [e] at h9; exact h9)
          have HLO := Lib.hid (show brLo V m a near ii bound = fop .sub .f32 (absK .f32 bound) (absK .f32 dn) by unfold brLo; rw [HE.out])
          have HHI := Lib.hid (show brHi V m a near ii bound = fop .add .f32 (absK .f32 bound) (absK .f32 up) by unfold brHi; rw [HE.out])
          have hig : ¬ ((k : Int) < (m : Int)) := by omega
          clear e
          go_upto_region 17 with (fail)
          go_upto_region 18 with (first | (refine wp_fop _ rfl .sub _ _ _ _ rfl rfl .f32 bound dn rfl rfl ?_; intro lo w7 hb7 hlt7 hd7; obtain ⟨q7, rfl⟩ := hd7; have HB7 := Lib.hid hb7; clear hb7) | (refine wp_fop _ rfl .add _ _ _ _ rfl rfl .f32 bound up rfl rfl ?_; intro hi w8 hb8 hlt8 hd8; obtain ⟨q8, rfl⟩ := hd8; have HB8 := Lib.hid hb8; clear hb8))
        
          have HLO2 := Lib.hid (show brLo V m a near ii bound = absK .f32 lo by rw [HLO.out, HB7.out])
          have HHI2 := Lib.hid (show brHi V m a near ii bound = absK .f32 hi by rw [HHI.out, HB8.out])
          have HIF := Lib.hid (fun b (w : World) => isFinite_any b w)
          have hbz := below_ext hW2 hW2.size (below_drewN hbi (q7 + q8))
          clear HB7 HB8 HLO HHI
          cases h1 : finO (absK .f32 lo)
          · have HF := Lib.hid (show o = none by rw [HF0.out, HLO2.out, HHI2.out]; exact brRes_no1 h1)
            go_wp2_with fail
            refine (HIF.out lo _).mono ?_
            rw [h1]
            rintro e w9 ⟨rfl, dr9⟩
            have hz9 := below_ext hbz hbz.size dr9.below
            go_wp2_with fail
            go_ret3
            rw [HF.out]
            exact ⟨rfl, hz9⟩
          · cases h2 : finO (absK .f32 hi)
            · have HF := Lib.hid (show o = none by rw [HF0.out, HLO2.out, HHI2.out]; exact brRes_no2 h2)
              go_wp2_with fail
              refine (HIF.out lo _).mono ?_
              rw [h1]
              rintro e w9 ⟨rfl, dr9⟩
              have hz9 := below_ext hbz hbz.size dr9.below
              go_wp2_with fail
              refine (HIF.out hi _).mono ?_
              rw [h2]
              rintro e w10 ⟨rfl, dr10⟩
              have hz10 := below_ext hz9 hz9.size dr10.below
              go_wp2_with fail
              go_ret3
              rw [HF.out]
              exact ⟨rfl, hz10⟩
            · have HF := Lib.hid (show o = some (lo, hi) by rw [HF0.out, HLO2.out, HHI2.out]; exact brRes_yes h1 h2)
              go_wp2_with fail
              refine (HIF.out lo _).mono ?_
              rw [h1]
              rintro e w9 ⟨rfl, dr9⟩
              have hz9 := below_ext hbz hbz.size dr9.below
              go_wp2_with fail
              refine (HIF.out hi _).mono ?_
              rw [h2]
              rintro e w10 ⟨rfl, dr10⟩
              have hz10 := below_ext hz9 hz9.size dr10.below
              go_wp2_with fail
              go_ret3
              rw [HF.out]
              exact ⟨rfl, hz10⟩
end Go.Proofs.Ytckfmemjcjhaaaa
