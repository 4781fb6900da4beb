/- LeastCover: the walks. -/
import Derived.Test.YtbdcnbnaammagaaCoverPlain
namespace Go.Proofs.Ytbdcnbnaammagaa
open Go.RowKit

theorem or_bd {a b : Nat} (ha : a ≤ 65535) (hb : b ≤ 65535) : a ||| b ≤ 65535 := by
  have := Nat.or_lt_two_pow (x := a) (y := b) (n := 16) (by omega) (by omega)
  omega

set_option maxHeartbeats 1600000 in
theorem implLeastCover_r (a : Int) (A : Option Addr) (n c : Nat) (zs : List Int) (w : World) (h : IntsAt w A n zs) (hl : n ≤ 1048576) :
    Calls Try.prog 13 #[.int .i64 a, .slice A n c] w (RetLB 2 (coverV a zs) (coverB a zs) w) := by
  have HL := Lib.hid h.len
  cases hs : setsB a zs
  · have HB := Lib.hid (show coverB a zs = false by unfold coverB; rw [hs]; rfl)
    have HV := Lib.hid (coverV_no hs)
    go_enter Try.func13, Try.ntmps13
    go_wp2_with (go_at_call 11; refine (implAreSets_any _ _ _ _ zs _ h hl).mono ?_; rintro e w' ⟨rfl, rfl⟩)
    go_ret2
    exact ⟨none, 0, 0, by rw [HB.out]; rfl, by rw [HV.out]; exact OwnI.nil_ _ _ _, Below.refl _ _⟩
  · obtain ⟨b1, b2, b3, b4, b5⟩ := setsB_bd hs
    have B5 := Lib.hid b5
    have HSS := Lib.hid hs
    rw [h.len] at b3 b4
    have hpw := pow_bd a (by omega) (by omega)
    have hpn := pow_bd (n : Int) (by omega) (by omega)
    rw [Int.toNat_natCast] at hpn
    have HP := Lib.hid (show ((2 ^ n : Nat) : Int) = (2 : Int) ^ n by exact_mod_cast rfl)
    have hp16 : (2 : Int) ^ n ≤ 65536 := by
      have := Nat.pow_le_pow_right (n := 2) (by omega) b4
      rw [← HP.out]; omega
    have HCO := Lib.hid (show coverOf a zs = bestC (natL zs) (2 ^ a.toNat - 1) (2 ^ n) by unfold coverOf; rw [HL.out])
    clear b5
    go_enter Try.func13, Try.ntmps13
    go_wp2_with (go_at_call 11; refine (implAreSets_any _ _ _ _ zs _ h hl).mono ?_; rintro e w' ⟨rfl, rfl⟩)
    clear hs
    go_loopg [6, 7, 8] (2 ^ n) (fun r bv lv i wr => ∃ k : Nat, r = 2 ^ n - k ∧ k ≤ 2 ^ n ∧ i = .int .i64 k ∧ bv = .int .i64 (bN (bestC (natL zs) (2 ^ a.toNat - 1) k) : Nat) ∧ lv = .int .i64 (bL (bestC (natL zs) (2 ^ a.toNat - 1) k)) ∧ Below w.heap.size w wr)
    case atStart => exact ⟨0, rfl, Nat.zero_le _, rfl, rfl, rfl, Below.refl _ _⟩
    case round =>
      obtain ⟨k, hr, hk, rfl, rfl, rfl, hb⟩ := hrel
      have HR := Lib.hid hr
      clear hr
      by_cases hlt : k < 2 ^ n
      · have hlt' : (k : Int) < (2 : Int) ^ n := by rw [← HP.out]; omega
        have HOD := Lib.hid (orD_eq (natL zs) k (by rw [natL_len, HL.out]; exact hlt) (by rw [natL_len, HL.out]; omega))
        have HD := Lib.hid (digitsOf_at k n hlt (by omega))
        have hk16 : (k : Int) ≤ 65536 := by omega
        have hkN : k < 4611686018427387904 := by omega
        have HON := Lib.hid (show ones k = (digitsOf k).length from rfl)
        go_wp2_with fail
        refine (digits_any k _ hkN).mono ?_
        generalize digitsOf k = D at *
        rintro e w1 ⟨A1, m, c1, rfl, o1, bb1⟩
        have HM := Lib.hid o1.len
        have hmle : m ≤ 9223372036854775807 := o1.le
        have hm64 : m ≤ 64 := by have := ones_le k; rw [HON.out, HM.out] at this; exact this
        have hb1 := below_ext hb hb.size bb1
        have h1 := h.below hb1
        have hD := o1.ints
        clear bb1 hb
        go_wp2_with fail
        go_loop [9, 28] (fun hv j => ∃ (q : Nat), q ≤ m ∧ j = .int .i64 q ∧ hv = .int .i64 (orD (natL zs) (D.take q) : Nat) ∧ orD (natL zs) (D.take q) ≤ 65535) (fun _ j => m - (intOf j).toNat)
        case atStart => exact ⟨0, by omega, rfl, rfl, by simp [orD]⟩
        case round =>
          obtain ⟨q, hq, rfl, rfl, hle⟩ := hrel
          by_cases hql : q < m
          · obtain ⟨bd, e1, _, hcD⟩ := hD.at_ hql
            obtain ⟨i, hi1, hi2⟩ := HD.out q (by rw [HM.out]; exact hql)
            have hts := orD_snoc (natL zs) D q (by rw [HM.out]; exact hql)
            rw [hi1] at hcD
            obtain ⟨ad, e2, _, hcS⟩ := h1.at_ hi2
            have hx := B5.out i (by rw [HL.out]; exact hi2)
            rw [hi1, Int.toNat_natCast, natL_get (by rw [HL.out]; exact hi2)] at hts
            clear hi1
            subst e1 e2
            obtain ⟨x0, x1, _⟩ := hx
            generalize hy : zs.getD i 0 = y at *
            obtain ⟨s, rfl⟩ := Int.eq_ofNat_of_zero_le x0
            rw [Int.toNat_natCast] at hts
            clear hy
            have HTS := Lib.hid hts
            clear hts
            generalize orD (natL zs) (D.take q) = hv at *
            have hor := i64_or_nat hv s (by omega) (by omega)
            have hole := or_bd (a := hv) (b := s) hle (by omega)
            go_wp2
            go_round
            case rel => exact ⟨q + 1, by omega, by go_num, by rw [HTS.out], by rw [HTS.out]; exact hole⟩
            case measure => simp [intOf]; omega
          · have ht : D.take q = D := List.take_of_length_le (by rw [HM.out]; omega)
            rw [ht] at hle ⊢
            rw [HOD.out] at hle ⊢
            clear ht
            generalize hhv : orM (natL zs) k = hv at *
            have HHV := Lib.hid hhv
            clear hhv
            by_cases hf : hv = 2 ^ a.toNat - 1
            · have hfb : ((hv : Int) == 2 ^ a.toNat - 1) = true := by rw [beq_iff_eq, ← pow_nat, hf]
              have HF := Lib.hid (show orM (natL zs) k = 2 ^ a.toNat - 1 by rw [HHV.out, hf])
              clear hf
              cases hbc : bestC (natL zs) (2 ^ a.toNat - 1) k with
              | none =>
                have HN := Lib.hid (bestC_yes1 HF.out hbc)
                clear hbc
                have hl1 : bL none = -1 := rfl
                go_wp2
                go_roundg (2 ^ n - (k + 1))
                case measure => rw [HR.out]; omega
                case rel => exact ⟨k + 1, rfl, by omega, by go_num, by rw [HN.out]; rfl, by rw [HN.out]; show Value.int .i64 (m : Int) = .int .i64 (ones k : Int); rw [HON.out, HM.out], hb1⟩
              | some b =>
                have hl1 : bL (some b) = (ones b : Int) := rfl
                by_cases hlb : m < ones b
                · have HN := Lib.hid (bestC_yes2 HF.out hbc (by rw [HON.out, HM.out]; exact hlb))
                  clear hbc
                  go_wp2
                  go_roundg (2 ^ n - (k + 1))
                  case measure => rw [HR.out]; omega
                  case rel => exact ⟨k + 1, rfl, by omega, by go_num, by rw [HN.out]; rfl, by rw [HN.out]; show Value.int .i64 (m : Int) = .int .i64 (ones k : Int); rw [HON.out, HM.out], hb1⟩
                · have HN := Lib.hid (bestC_no2 hbc (by rw [HON.out, HM.out]; exact hlb))
                  clear hbc
                  go_wp2
                  go_roundg (2 ^ n - (k + 1))
                  case measure => rw [HR.out]; omega
                  case rel => exact ⟨k + 1, rfl, by omega, by go_num, by rw [HN.out], by rw [HN.out]; rfl, hb1⟩
            · have hfb : ((hv : Int) == 2 ^ a.toNat - 1) = false := by
                rw [beq_eq_false_iff_ne, ← pow_nat]
                intro e
                exact hf (by exact_mod_cast e)
              have HF := Lib.hid (bestC_no1 (ss := natL zs) (full := 2 ^ a.toNat - 1) (k := k) (by rw [HHV.out]; exact hf))
              clear hf
              go_wp2
              go_roundg (2 ^ n - (k + 1))
              case measure => rw [HR.out]; omega
              case rel => exact ⟨k + 1, rfl, by omega, by go_num, by rw [HF.out], by rw [HF.out], hb1⟩
      · have hge : ¬ (k : Int) < (2 : Int) ^ n := by rw [← HP.out]; omega
        have e : k = 2 ^ n := by omega
        subst e
        rw [← HCO.out]
        have hbl : ∀ b, coverOf a zs = some b → b < 65536 := fun b hb => by
          have := bestC_lt _ _ _ b (HCO.out.symm.trans hb)
          have := Nat.pow_le_pow_right (n := 2) (by omega) b4
          omega
        cases hbc : coverOf a zs with
        | none =>
          have HB := Lib.hid (show coverB a zs = false by unfold coverB; rw [hbc]; simp)
          have HV := Lib.hid (show coverV a zs = digitsOf 0 by rw [coverV_none hbc]; decide)
          have hl1 : bL none = -1 := rfl
          clear hbc hbl
          go_wp2_with fail
          refine (digits_any 0 _ (by omega)).mono ?_
          rintro e w1 ⟨A1, m, c1, rfl, o1, bb1⟩
          go_wp2_with fail
          go_ret2
          exact ⟨A1, m, c1, by rw [HB.out]; rfl, by rw [HV.out]; exact o1.low hb.size, below_ext hb hb.size bb1⟩
        | some b =>
          have HB := Lib.hid (show coverB a zs = true by unfold coverB; rw [hbc, HSS.out]; rfl)
          have HV := Lib.hid (coverV_some HSS.out hbc)
          have hb16 := hbl b hbc
          have hl1 : bL (some b) = (ones b : Int) := rfl
          have hl2 : (0 : Int) ≤ (ones b : Int) := by omega
          clear hbc hbl
          go_wp2_with fail
          refine (digits_any b _ (by omega)).mono ?_
          rintro e w1 ⟨A1, m, c1, rfl, o1, bb1⟩
          go_wp2_with fail
          go_ret2
          exact ⟨A1, m, c1, by rw [HB.out]; rfl, by rw [HV.out]; exact o1.low hb.size, below_ext hb hb.size bb1⟩
end Go.Proofs.Ytbdcnbnaammagaa
