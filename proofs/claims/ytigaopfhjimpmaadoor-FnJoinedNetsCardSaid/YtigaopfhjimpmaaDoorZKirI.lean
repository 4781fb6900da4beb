/- How many trees a net has: the program's determinant. -/
import Derived.Test.YtigaopfhjimpmaaDoorJ2
import Derived.StillTailTactics
namespace Go.Proofs.YtigaopfhjimpmaaDoor
open Go.RowKit
open DetP

theorem arith_i {X Y P R : Int} (X1 : -1152921504606846976 ≤ X) (X2 : X ≤ 1152921504606846976) (Y1 : -1152921504606846976 ≤ Y) (Y2 : Y ≤ 1152921504606846976) (P1 : 0 < P) (P2 : P ≤ 17179869184) (R1 : -17179869184 ≤ R) (R2 : R ≤ 17179869184) (hD : Int.tdiv (X - Y) P = R) :
    IntKind.i64.wrap X = X ∧ wrap64 X = X ∧ IntKind.i64.wrap Y = Y ∧ wrap64 Y = Y ∧ IntKind.i64.wrap (X - Y) = X - Y ∧ wrap64 (X - Y) = X - Y ∧ IntKind.i64.wrap R = R ∧ wrap64 R = R ∧ P ≠ 0 ∧ (P == 0) = false :=
  ⟨IntWalk.i64_in _ (by omega), by unfold wrap64; omega, IntWalk.i64_in _ (by omega), by unfold wrap64; omega, IntWalk.i64_in _ (by omega), by unfold wrap64; omega, IntWalk.i64_in _ (by omega), by unfold wrap64; omega, by omega, beq_eq_false_iff_ne.2 (by omega)⟩
/-- the blocks of the rows -/
def rowsB (g : Nat → Nat) (R b : Nat) : Prop := ∃ i, i < R ∧ b = g i
set_option maxRecDepth 100000 in
set_option maxHeartbeats 3200000 in
theorem determinant_any (gT cT R n m : Nat) (g ln : Nat → Nat) (l : Nat → Nat → Int) (w : World) (h : KRowsAt w 26 2 gT g R n ln l) (hmR : m ≤ R) (hmn : m ≤ n) (hln : ∀ i, i < m → ln i = m) (hm7 : m ≤ 7) (hm1 : 1 ≤ m) (hL : LapOk m l) :
    Calls Tryd.prog 39 #[.slice (some ⟨gT, 0, none⟩) m cT] w fun e w' => e = .returned (.int .i64 (bP l m)) ∧ Upd (rowsB g R) w w' := by
  have HOK := Lib.hid hL
  have HLN := Lib.hid hln
  have HPM := Lib.hid (fun (hnz : ∀ a, a < m → bP l (a + 1) ≠ 0) => show bP l m ≤ 17179869184 from by
    obtain ⟨q, rfl⟩ : ∃ q, m = q + 1 := ⟨m - 1, by omega⟩
    rw [bP_succ]
    exact (piv_facts hL hm7 (fun a ha => hnz a (by omega)) (by omega)).2)
  have HR0 := Lib.hid h
  have HF0 := Lib.hid (show ∀ a b, 0 ≤ a → a < m → 0 ≤ b → b < m → l a b = bD l 0 a b from fun a b _ _ _ _ => (bD_zero l a b).symm)
  clear h hL hln
  go_enter Tryd.func39, Tryd.ntmps39
  go_wp2_with fail
  go_loopg [3, 4, 6] m (fun r sv bv kv wr => ∃ (k : Nat) (f : Nat → Nat → Int), r = m - k ∧ k ≤ m ∧ sv = .int .i64 1 ∧ bv = .int .i64 (bP l k) ∧ kv = .int .i64 (k : Int) ∧ Hid (∀ a, a < k → bP l (a + 1) ≠ 0) ∧ Hid (∀ a b, k ≤ a → a < m → k ≤ b → b < m → f a b = bD l k a b) ∧ Hid (KRowsAt wr 26 2 gT g R n ln f) ∧ Upd (rowsB g R) w wr)
  case atStart => exact ⟨0, l, rfl, Nat.zero_le _, rfl, rfl, rfl, Lib.hid (fun a ha => absurd ha (Nat.not_lt_zero _)), HF0, HR0, Upd.refl _ _⟩
  case round =>
    obtain ⟨k, f, hr, hk, rfl, rfl, rfl, HNZ, HF, HRO, hu⟩ := hrel
    have HR := Lib.hid hr
    clear hr
    obtain ⟨wp, rfl⟩ : ∃ wp : World, wp = wr := ⟨_, rfl⟩
    have hp0 := (lap_inv HOK.out.lap k hk HNZ.out).1
    by_cases hkm : k < m
    · have hkk : (k : Int) < (m : Int) := Int.ofNat_lt.2 hkm
      have hkR : k < R := Nat.lt_of_lt_of_le hkm hmR
      have hkn : k < n := Nat.lt_of_lt_of_le hkm hmn
      by_cases hV : bD l k k k = 0
      · have HG := Lib.hid (lap_gone HOK.out.lap hkm HNZ.out hV)
        clear hV hp0
        go_wp2_with fail
        go_loopg [7] (m - k) (fun r pv wi => ∃ p : Nat, r = m - p ∧ k ≤ p ∧ p ≤ m ∧ pv = .int .i64 (p : Int) ∧ wi = wp)
        case atStart => exact ⟨k, rfl, Nat.le_refl _, hk, rfl, rfl⟩
        case round =>
          obtain ⟨p, hr, hkp, hp, rfl, rfl⟩ := hrel
          have HRP := Lib.hid hr
          clear hr
          by_cases hpm : p < m
          · have hpp : (p : Int) < (m : Int) := Int.ofNat_lt.2 hpm
            have c1 := HRO.out.line (Nat.lt_of_lt_of_le hpm hmR)
            rw [HLN.out p hpm] at c1
            have c2 := HRO.out.cell (Nat.lt_of_lt_of_le hpm hmR) hkn
            rw [HF.out p k hkp hpm (Nat.le_refl _) hkm, HG.out.1 p hkp hpm] at c2
            go_wp2_with fail
            go_roundg (m - (p + 1))
            case measure => rw [HRP.out]; exact Nat.sub_lt_sub_left hpm (Nat.lt_succ_self p)
            case rel => exact ⟨p + 1, rfl, Nat.le_succ_of_le hkp, hpm, by first | rfl | go_num, rfl⟩
          · obtain rfl : m = p := Nat.le_antisymm (Nat.le_of_not_lt hpm) hp
            go_wp2_with fail
            go_ret
            exact ⟨ret_int HG.out.2.symm, hu⟩
      · have dkm : ((k : Int) == (m : Int)) = false := beq_eq_false_iff_ne.2 (Int.ne_of_lt hkk)
        have d3 : (bD l k k k == 0) = false := beq_eq_false_iff_ne.2 hV
        have HNZ2 := Lib.hid (show ∀ a, a < k + 1 → bP l (a + 1) ≠ 0 from fun a ha => by
          by_cases e : a = k
          · rw [e, bP_succ]; exact hV
          · exact HNZ.out a (Nat.lt_of_le_of_ne (Nat.le_of_lt_succ ha) e))
        have HPV := Lib.hid (piv_facts HOK.out hm7 HNZ.out hkm)
        have HST := Lib.hid (fun i j h1 h2 hi hj => step_facts (k := k) (i := i) (j := j) HOK.out hm7 HNZ2.out h1 h2 hi hj)
        have HF2 := Lib.hid (show ∀ a b, k ≤ a → a < m → k ≤ b → b < m → f a b = mixB l k (k + 1) (k + 1) a b from fun a b h1 h2 h3 h4 => by rw [mixB_start]; exact HF.out a b h1 h2 h3 h4)
        have HKK := Lib.hid (show bP l (k + 1) = bD l k k k from rfl)
        have c1 := HRO.out.line hkR
        rw [HLN.out k hkm] at c1
        have c2 := HRO.out.cell hkR hkn
        rw [HF.out k k (Nat.le_refl _) hkm (Nat.le_refl _) hkm] at c2
        clear hV hp0
        generalize hpk : bP l k = P at *
        have HPK := Lib.hid hpk
        clear hpk
        generalize hvk : bD l k k k = V at *
        have HVK := Lib.hid hvk
        clear hvk
        go_wp2_with fail
        go_loopg [7] 0 (fun r pv wi => r = 0 ∧ pv = .int .i64 (k : Int) ∧ wi = wp)
        case atStart => exact ⟨rfl, rfl, rfl⟩
        case round =>
          obtain ⟨hr, rfl, rfl⟩ := hrel
          clear hr
          go_wp2_with fail
          go_loopg [8] (m - (k + 1)) (fun r iv wi => ∃ (i : Nat) (f : Nat → Nat → Int), r = m - i ∧ k + 1 ≤ i ∧ i ≤ m ∧ iv = .int .i64 (i : Int) ∧ Hid (∀ a b, k ≤ a → a < m → k ≤ b → b < m → f a b = mixB l k i (k + 1) a b) ∧ Hid (KRowsAt wi 26 2 gT g R n ln f) ∧ Upd (rowsB g R) w wi)
          case atStart => exact ⟨k + 1, f, rfl, Nat.le_refl _, hkm, by first | rfl | go_num, HF2, HRO, hu⟩
          case round =>
            clear hu c1 c2 d3 HF HF2 HRO
            obtain ⟨i, f, hr, hi1, him, rfl, HF, HRO, hu⟩ := hrel
            have HRI := Lib.hid hr
            clear hr
            obtain ⟨wi, rfl⟩ : ∃ wi : World, wi = wr := ⟨_, rfl⟩
            by_cases hilt : i < m
            · have hii : (i : Int) < (m : Int) := Int.ofNat_lt.2 hilt
              have HR1 := Lib.hid (show ∀ a b, k ≤ a → a < m → k ≤ b → b < m → f a b = mixB l k i (k + 1) a b from HF.out)
              go_wp2_with fail
              go_loopg [9] (m - (k + 1)) (fun r jv wi => ∃ (j : Nat) (f : Nat → Nat → Int), r = m - j ∧ k + 1 ≤ j ∧ j ≤ m ∧ jv = .int .i64 (j : Int) ∧ Hid (∀ a b, k ≤ a → a < m → k ≤ b → b < m → f a b = mixB l k i j a b) ∧ Hid (KRowsAt wi 26 2 gT g R n ln f) ∧ Upd (rowsB g R) w wi)
              case atStart => exact ⟨k + 1, f, rfl, Nat.le_refl _, hkm, by first | rfl | go_num, HR1, HRO, hu⟩
              case round =>
                clear hu HR1 HRO
                rename_i f0 _ _
                obtain ⟨j, f, hr, hj1, hjm, rfl, HF, HRO, hu⟩ := hrel
                have HRJ := Lib.hid hr
                clear hr
                obtain ⟨wj, rfl⟩ : ∃ wj : World, wj = wr := ⟨_, rfl⟩
                by_cases hjlt : j < m
                · have hjj : (j : Int) < (m : Int) := Int.ofNat_lt.2 hjlt
                  have hiR : i < R := Nat.lt_of_lt_of_le hilt hmR
                  have hin : i < n := Nat.lt_of_lt_of_le hilt hmn
                  have hjn : j < n := Nat.lt_of_lt_of_le hjlt hmn
                  obtain ⟨X, Y, hX, hY, X1, X2, Y1, Y2, hD, P1, P2, R1, R2⟩ := HST.out i j hi1 hj1 hilt hjlt
                  obtain ⟨m1, m2, m3, m4⟩ := mixB_read (l := l) hi1 hj1
                  have HF4 := Lib.hid (show ∀ a b, k ≤ a → a < m → k ≤ b → b < m → setF f i j (bD l (k + 1) i j) a b = mixB l k i (j + 1) a b from fun a b h1 h2 h3 h4 => by
                    rw [← mixB_set hi1 hj1]
                    unfold setF
                    by_cases e : a = i ∧ b = j
                    · rw [if_pos e, if_pos e]
                    · rw [if_neg e, if_neg e]; exact HF.out a b h1 h2 h3 h4)
                  go_upto_region 20 with (fail)
                  have t1 := HRO.out.line hiR
                  rw [HLN.out i hilt] at t1
                  have t2 := HRO.out.line hkR
                  rw [HLN.out k hkm] at t2
                  have c1 := HRO.out.cell hiR hjn
                  rw [HF.out i j (Nat.le_of_succ_le hi1) hilt (Nat.le_of_succ_le hj1) hjlt, m1] at c1
                  have c2 := HRO.out.cell hkR hkn
                  rw [HF.out k k (Nat.le_refl _) hkm (Nat.le_refl _) hkm, m2, HVK.out] at c2
                  have c3 := HRO.out.cell hiR hkn
                  rw [HF.out i k (Nat.le_of_succ_le hi1) hilt (Nat.le_refl _) hkm, m3] at c3
                  have c4 := HRO.out.cell hkR hjn
                  rw [HF.out k j (Nat.le_refl _) hkm (Nat.le_of_succ_le hj1) hjlt, m4] at c4
                  have g1 := HRO.out.free hiR j
                  have HR2 := Lib.hid (HRO.out.set hiR j (bD l (k + 1) i j)).drew
                  have u2 := (hu.setCell (p := ⟨g i, j, none⟩) (.inl ⟨i, hiR, rfl⟩) (.int .i64 (bD l (k + 1) i j))).drew
                  obtain ⟨w1', w2', w3', w4', w5', w6', w7', w8', w9', w10'⟩ := arith_i X1 X2 Y1 Y2 P1 P2 R1 R2 hD
                  clear m1 m2 m3 m4 X1 X2 Y1 Y2 R1 R2 hu
                  generalize bD l k i j = va at *
                  generalize bD l k i k = vb at *
                  generalize bD l k k j = vc at *
                  generalize bD l (k + 1) i j = vr at *
                  refine wp_region_still_tail 38 (by kernel_rfl) (by kernel_rfl) ?_
                  change wpStill _ _ wj.drew (fun a' => wpList _ _ _ _ a' wj.drew) _ _
                  simp only [List.take_succ_cons, List.take_zero, List.drop_succ_cons, List.drop_zero]
                  repeat still_step
                  refine wpStill_nil ?_
                  clear w1' w2' w3' w4' w5' w6' w7' w8' w9' w10' hX hY hD P1 P2 c2 c3 c4
                  go_wp2_with fail
                  go_roundg (m - (j + 1))
                  case measure => rw [HRJ.out]; exact Nat.sub_lt_sub_left hjlt (Nat.lt_succ_self j)
                  case rel => exact ⟨j + 1, _, rfl, Nat.le_succ_of_le hj1, hjlt, by first | rfl | go_num, HF4, HR2, u2⟩
                · obtain rfl : m = j := Nat.le_antisymm (Nat.le_of_not_lt hjlt) hjm
                  have HF3 := Lib.hid (show ∀ a b, k ≤ a → a < m → k ≤ b → b < m → f a b = mixB l k (i + 1) (k + 1) a b from fun a b h1 h2 h3 h4 => by rw [HF.out a b h1 h2 h3 h4]; exact mixB_row h4)
                  go_wp2_with fail
                  go_roundg (m - (i + 1))
                  case measure => rw [HRI.out]; exact Nat.sub_lt_sub_left hilt (Nat.lt_succ_self i)
                  case rel => exact ⟨i + 1, f, rfl, Nat.le_succ_of_le hi1, hilt, by first | rfl | go_num, HF3, HRO, hu⟩
            · obtain rfl : m = i := Nat.le_antisymm (Nat.le_of_not_lt hilt) him
              have c1 := HRO.out.line hkR
              rw [HLN.out k hkm] at c1
              have c2 := HRO.out.cell hkR hkn
              rw [HF.out k k (Nat.le_refl _) hkm (Nat.le_refl _) hkm, (mixB_k l k m (k + 1)).1, HVK.out] at c2
              have HF3 := Lib.hid (show ∀ a b, k + 1 ≤ a → a < m → k + 1 ≤ b → b < m → f a b = bD l (k + 1) a b from fun a b h1 h2 h3 h4 => by rw [HF.out a b (Nat.le_of_succ_le h1) h2 (Nat.le_of_succ_le h3) h4]; exact mixB_done h2 h1 h3)
              go_wp2_with fail
              go_roundg (m - (k + 1))
              case measure => rw [HR.out]; exact Nat.sub_lt_sub_left hkm (Nat.lt_succ_self k)
              case rel => exact ⟨k + 1, f, rfl, hkm, rfl, by rw [HKK.out], by first | rfl | go_num, HNZ2, HF3, HRO, hu⟩
    · obtain rfl : m = k := Nat.le_antisymm (Nat.le_of_not_lt hkm) hk
      have hpb : bP l m ≤ 17179869184 := HPM.out HNZ.out
      go_wp2_with fail
      go_ret
      exact ⟨rfl, hu⟩
end Go.Proofs.YtigaopfhjimpmaaDoor
