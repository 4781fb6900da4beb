/- BestHalves: the walks. -/
import Derived.Test.YtjpidpocaemkjaaHalvesPlain
import Derived.Test.YtjpidpocaemkjaaCover2
namespace Go.Proofs.Ytjpidpocaemkjaa
open Go.RowKit

theorem ret_LIB {A : Option Addr} {n c : Nat} {i j : Int} {a b : Bool} (h1 : i = j) (h2 : a = b) : Ending.returned (.tuple #[.slice A n c, .int .i64 i, .bool a]) = .returned (.tuple #[.slice A n c, .int .i64 j, .bool b]) := by rw [h1, h2]

theorem sum_any (A : Option Addr) (n c : Nat) (zs : List Int) (w : World) (h : IntsAt w A n zs) (hl : n ≤ 1048576) (hz : ∀ k, k ≤ n → -1000000000000 ≤ sumL (zs.take k) ∧ sumL (zs.take k) ≤ 1000000000000) (hy : ∀ k, k < n → -1000000000 ≤ zs.getD k 0 ∧ zs.getD k 0 ≤ 1000000000) :
    Calls Try.prog 42 #[.slice A n c] w fun e w' => e = .returned (.int .i64 (sumL zs)) ∧ w = w' := by
  have HL := Lib.hid h.len
  have HZ := Lib.hid hz
  have HY := Lib.hid hy
  clear hz hy
  go_enter Try.func42, Try.ntmps42
  go_wp2
  go_loop [3, 8] (fun s j => ∃ q : Nat, q ≤ n ∧ j = .int .i64 q ∧ s = .int .i64 (sumL (zs.take q))) (fun _ j => n - (intOf j).toNat)
  case atStart => exact ⟨0, by omega, rfl, rfl⟩
  case round =>
    obtain ⟨q, hq, rfl, rfl⟩ := hrel
    by_cases hlt : q < n
    · obtain ⟨ad, rfl, _, hcell⟩ := h.at_ hlt
      have HS := Lib.hid (sumL_snoc zs q (by rw [HL.out]; exact hlt))
      obtain ⟨s0, s1⟩ := HZ.out q (by omega)
      obtain ⟨y0, y1⟩ := HY.out q hlt
      generalize zs.getD q 0 = y at *
      generalize sumL (zs.take q) = s at *
      go_wp2
      go_round
      case rel => exact ⟨q + 1, by omega, by go_num, by rw [HS.out]⟩
      case measure => simp [intOf]; omega
    · go_wp2
      go_ret
      exact ⟨ret_int (by rw [List.take_of_length_le (by rw [HL.out]; omega)]), rfl⟩

theorem sumL_bd {zs : List Int} (hz : ∀ k, k < zs.length → 1 ≤ zs.getD k 0 ∧ zs.getD k 0 ≤ 1000) : ∀ k, k ≤ zs.length → 0 ≤ sumL (zs.take k) ∧ sumL (zs.take k) ≤ 1000 * k
  | 0, _ => by simp [sumL]
  | k + 1, h => by
    have := sumL_bd hz k (by omega)
    have := hz k (by omega)
    rw [sumL_snoc zs k (by omega)]
    omega

theorem pow_half (n : Nat) (h : 1 ≤ n) : 2 ^ n = 2 * 2 ^ (n - 1) := by
  obtain ⟨m, rfl⟩ : ∃ m, n = m + 1 := ⟨n - 1, by omega⟩
  rw [Nat.pow_succ, Nat.mul_comm]; rfl

set_option maxHeartbeats 3200000 in
theorem implBestHalves_r (A : Option Addr) (n c : Nat) (zs : List Int) (w : World) (h : IntsAt w A n zs) (hl : n ≤ 1048576) :
    Calls Try.prog 20 #[.slice A n c] w (RetLIB 2 (halvesV zs) (halvesL zs) (sizesB zs) w) := by
  have HL := Lib.hid h.len
  cases hs : sizesB zs
  · have HV := Lib.hid (halvesV_no hs)
    have HK := Lib.hid (halvesL_no hs)
    go_enter Try.func20, Try.ntmps20
    go_wp2_with (go_at_call 32; refine (implAreSizes_any _ _ _ zs _ h hl).mono ?_; rintro e w' ⟨rfl, rfl⟩)
    go_ret3
    exact ⟨none, 0, 0, ret_LIB HK.out.symm rfl, by rw [HV.out]; exact OwnI.nil_ _ _ _, Below.refl _ _⟩
  · have HV := Lib.hid (halvesV_yes hs)
    have HK := Lib.hid (halvesL_yes hs)
    obtain ⟨b3, b4, b5⟩ := sizesB_bd hs
    have B5 := Lib.hid b5
    have hsb := sumL_bd b5
    rw [h.len] at b3 b4
    have hpn := pow_bd2 n (by omega)
    have hph := pow_half n b3
    have HP := Lib.hid (show ((2 ^ n : Nat) : Int) = (2 : Int) ^ n by exact_mod_cast rfl)
    have hp16 : (2 : Int) ^ n ≤ 65536 := by
      have := Nat.pow_le_pow_right (n := 2) (by omega) b4
      rw [← HP.out]; omega
    have HH := Lib.hid (show halfOf zs = halfTo zs (sumL zs) (2 ^ (n - 1)) by unfold halfOf; rw [HL.out])
    have hall := hsb n (by rw [HL.out]; exact Nat.le_refl _)
    rw [List.take_of_length_le (by rw [HL.out]; exact Nat.le_refl _)] at hall
    obtain ⟨al0, al1⟩ := hall
    have HSB := Lib.hid hsb
    have HPH := Lib.hid hph
    clear b5 hsb hph
    go_enter Try.func20, Try.ntmps20
    go_wp2_with (first | (go_at_call 32; refine (implAreSizes_any _ _ _ zs _ h hl).mono ?_; rintro e w' ⟨rfl, rfl⟩) | (go_at_call 42; refine (sum_any _ _ _ zs _ h hl (fun k hk => by have := HSB.out k (by rw [HL.out]; exact hk); omega) (fun k hk => by have := B5.out k (by rw [HL.out]; exact hk); omega)).mono ?_; rintro e w' ⟨rfl, rfl⟩))
    clear hs
    have al2 : sumL zs ≤ 16000 := by omega
    generalize sumL zs = all at *
    go_loopg [6, 7, 8] (2 ^ (n - 1)) (fun r bv lv i wr => ∃ k : Nat, r = 2 ^ (n - 1) - k ∧ k ≤ 2 ^ (n - 1) ∧ i = .int .i64 ((2 * k : Nat) : Int) ∧ bv = .int .i64 ((halfTo zs all k).1 : Nat) ∧ lv = .int .i64 (halfTo zs all k).2 ∧ Below w.heap.size w wr)
    case atStart => exact ⟨0, rfl, Nat.zero_le _, rfl, rfl, rfl, Below.refl _ _⟩
    case round =>
      obtain ⟨k, hr, hk, rfl, rfl, rfl, hb⟩ := hrel
      have HR := Lib.hid hr
      clear hr
      have hk2 := HPH.out
      by_cases hlt : k < 2 ^ (n - 1)
      · have hlt2 : 2 * k < 2 ^ n := by omega
        have hlt' : ((2 * k : Nat) : Int) < (2 : Int) ^ n := by rw [← HP.out]; omega
        have hk16 : ((2 * k : Nat) : Int) ≤ 65536 := by omega
        have hkN : 2 * k < 4611686018427387904 := by omega
        have HSD := Lib.hid (sumD_eq zs (2 * k) (by rw [HL.out]; exact hlt2) (by rw [HL.out]; omega))
        have HD := Lib.hid (digitsOf_at (2 * k) n hlt2 (by omega))
        have hst := sumTo_bd zs (2 * k) B5.out n (by rw [HL.out]; exact Nat.le_refl _)
        have hle64 := ones_le (2 * k)
        rw [show ones (2 * k) = (digitsOf (2 * k)).length from rfl] at hle64
        have hhb := halfTo_bd zs all al0 k
        have HY := Lib.hid (fun x => @halfTo_yes zs all x k)
        have HNo := Lib.hid (fun x => @halfTo_no zs all x k)
        rw [HL.out] at HSD HY HNo
        have HSD' := Lib.hid HSD.out
        have HK2 := Lib.hid hk2
        have e2k : ((2 * k : Nat) : Int) + 2 = ((2 * (k + 1) : Nat) : Int) := by omega
        have HE2 := Lib.hid e2k
        clear hk2 e2k
        generalize hM : 2 * k = M at *
        have HMM := Lib.hid hM
        clear hM
        go_wp2_with fail
        refine (digits_any M _ hkN).mono ?_
        generalize digitsOf M = D at *
        rintro e w1 ⟨A1, m, c1, rfl, o1, bb1⟩
        have HM := Lib.hid o1.len
        have hmle : m ≤ 64 := by rw [← HM.out]; exact hle64
        have hb1 := below_ext hb hb.size bb1
        have h1 := h.below hb1
        have hD := o1.ints
        clear bb1 hb hle64
        go_wp2_with fail
        go_loop [9, 29] (fun hv j => ∃ (q : Nat), q ≤ m ∧ j = .int .i64 q ∧ hv = .int .i64 (sumD zs (D.take q)) ∧ 0 ≤ sumD zs (D.take q) ∧ sumD zs (D.take q) ≤ 1000 * q) (fun _ j => m - (intOf j).toNat)
        case atStart => exact ⟨0, by omega, rfl, rfl, by simp [sumD], by simp [sumD]⟩
        case round =>
          obtain ⟨q, hq, rfl, rfl, hq0, hq1⟩ := hrel
          by_cases hql : q < m
          · obtain ⟨bd, e1, _, hcD⟩ := hD.at_ hql
            obtain ⟨i, hi1, hi2⟩ := HD.out q (by rw [HM.out]; exact hql)
            have hts := sumD_snoc zs D q (by rw [HM.out]; exact hql)
            rw [hi1] at hcD
            obtain ⟨ad, e2, _, hcS⟩ := h1.at_ hi2
            have hx := B5.out i (by rw [HL.out]; exact hi2)
            rw [hi1, Int.toNat_natCast] at hts
            clear hi1
            subst e1 e2
            obtain ⟨x0, x1⟩ := hx
            generalize zs.getD i 0 = y at *
            have HTS := Lib.hid hts
            clear hts
            generalize sumD zs (D.take q) = hv at *
            go_wp2
            go_round
            case rel => exact ⟨q + 1, by omega, by go_num, by rw [HTS.out], by rw [HTS.out]; omega, by rw [HTS.out]; omega⟩
            case measure => simp [intOf]; omega
          · have ht : D.take q = D := List.take_of_length_le (by rw [HM.out]; omega)
            rw [ht] at hq0 hq1 ⊢
            rw [HSD'.out] at hq0 hq1 ⊢
            clear ht
            obtain ⟨s0, s1⟩ := hst
            generalize sumTo zs M n = s at *
            obtain ⟨f0, f1⟩ := hhb
            have HF := Lib.hid (show farOf all s = max (all - 2 * s) (2 * s - all) from rfl)
            by_cases hmx : 2 * s - all ≤ all - 2 * s
            · have HF2 := Lib.hid (show farOf all s = all - 2 * s by rw [HF.out]; omega)
              by_cases hless : all - 2 * s < (halfTo zs all k).2
              · have HN := Lib.hid (HY.out _ HF2.out hless)
                go_wp2
                go_roundg (2 ^ (n - 1) - (k + 1))
                case measure => rw [HR.out]; omega
                case rel => exact ⟨k + 1, rfl, by omega, by rw [← HE2.out], by rw [HN.out], by rw [HN.out], hb1⟩
              · have HN := Lib.hid (HNo.out _ HF2.out (Int.not_lt.mp hless))
                go_wp2
                go_roundg (2 ^ (n - 1) - (k + 1))
                case measure => rw [HR.out]; omega
                case rel => exact ⟨k + 1, rfl, by omega, by rw [← HE2.out], by rw [HN.out], by rw [HN.out], hb1⟩
            · have HF2 := Lib.hid (show farOf all s = 2 * s - all by rw [HF.out]; omega)
              by_cases hless : 2 * s - all < (halfTo zs all k).2
              · have HN := Lib.hid (HY.out _ HF2.out hless)
                go_wp2
                go_roundg (2 ^ (n - 1) - (k + 1))
                case measure => rw [HR.out]; omega
                case rel => exact ⟨k + 1, rfl, by omega, by rw [← HE2.out], by rw [HN.out], by rw [HN.out], hb1⟩
              · have HN := Lib.hid (HNo.out _ HF2.out (Int.not_lt.mp hless))
                go_wp2
                go_roundg (2 ^ (n - 1) - (k + 1))
                case measure => rw [HR.out]; omega
                case rel => exact ⟨k + 1, rfl, by omega, by rw [← HE2.out], by rw [HN.out], by rw [HN.out], hb1⟩
      · have e : k = 2 ^ (n - 1) := by omega
        have hge : ¬ ((2 * k : Nat) : Int) < (2 : Int) ^ n := by rw [← HP.out]; omega
        subst e
        have hlt3 := halfTo_lt zs all (2 ^ (n - 1))
        rw [← HH.out] at hlt3 ⊢
        have hbn : (halfOf zs).1 < 4611686018427387904 := by
          have := Nat.pow_le_pow_right (n := 2) (by omega) b4
          omega
        go_wp2_with fail
        refine (digits_any (halfOf zs).1 _ hbn).mono ?_
        rintro e w1 ⟨A1, m, c1, rfl, o1, bb1⟩
        go_wp2_with fail
        go_ret3
        exact ⟨A1, m, c1, ret_LIB HK.out.symm rfl, by rw [HV.out]; exact o1.low hb.size, below_ext hb hb.size bb1⟩
theorem halfTo_lt2 (zs : List Int) (all : Int) (k : Nat) (h : 0 < k) : (halfTo zs all k).1 < 2 * k := by
  obtain ⟨m, rfl⟩ : ∃ m, k = m + 1 := ⟨k - 1, by omega⟩
  have := halfTo_lt zs all m
  unfold halfTo
  split
  · show 2 * m < _; omega
  · omega

set_option maxHeartbeats 3200000 in
theorem specBestHalves_r (A : Option Addr) (n c : Nat) (zs : List Int) (w : World) (h : IntsAt w A n zs) (hl : n ≤ 1048576) :
    Calls Try.prog 19 #[.slice A n c] w (RetLIB 2 (halvesV zs) (halvesL zs) (sizesB zs) w) := by
  have HL := Lib.hid h.len
  cases hs : sizesB zs
  · have HV := Lib.hid (halvesV_no hs)
    have HK := Lib.hid (halvesL_no hs)
    go_enter Try.func19, Try.ntmps19
    go_wp2_with (go_at_call 41; refine (l04Sizes_any _ _ _ zs _ h hl).mono ?_; rintro e w' ⟨rfl, rfl⟩)
    go_ret3
    exact ⟨none, 0, 0, ret_LIB HK.out.symm rfl, by rw [HV.out]; exact OwnI.nil_ _ _ _, Below.refl _ _⟩
  · have HV := Lib.hid (halvesV_yes hs)
    have HK := Lib.hid (halvesL_yes hs)
    obtain ⟨b3, b4, b5⟩ := sizesB_bd hs
    have B5 := Lib.hid b5
    have hsb := sumL_bd b5
    rw [h.len] at b3 b4
    have hpn := pow_bd2 n (by omega)
    have hph := pow_half n b3
    have hp16 : 2 ^ n ≤ 65536 := Nat.le_trans (Nat.pow_le_pow_right (n := 2) (by omega) b4) (by omega)
    have HH := Lib.hid (show halfOf zs = halfTo zs (sumL zs) (2 ^ (n - 1)) by unfold halfOf; rw [HL.out])
    have hall := hsb n (by rw [HL.out]; exact Nat.le_refl _)
    rw [List.take_of_length_le (by rw [HL.out]; exact Nat.le_refl _)] at hall
    obtain ⟨al0, al1⟩ := hall
    have hfull := sumTo_full zs n HL.out n (Nat.le_refl _)
    rw [List.take_of_length_le (by rw [HL.out]; exact Nat.le_refl _)] at hfull
    have hgl := sumsL_get zs (2 ^ n) (2 ^ n - 1) (Nat.sub_lt (Nat.two_pow_pos n) Nat.one_pos)
    rw [HL.out, hfull] at hgl

    have HG := Lib.hid hgl
    have HSL := Lib.hid (sumsL_len zs (2 ^ n))
    have HPH := Lib.hid hph
    clear b5 hsb hph hgl
    go_enter Try.func19, Try.ntmps19
    go_wp2_with (go_at_call 41; refine (l04Sizes_any _ _ _ zs _ h hl).mono ?_; rintro e w' ⟨rfl, rfl⟩)
    refine (l04Sums_any _ _ _ zs _ h b4 B5.out).mono ?_
    rintro e w1 ⟨A1, m, c1, rfl, o1, bb1⟩
    have hm := o1.len
    rw [HSL.out] at hm
    have hm0 := Nat.two_pow_pos n
    have hm1 : ((m : Nat) : Int) - 1 = ((m - 1 : Nat) : Int) := by omega
    have hmw : IntKind.i64.wrap ((m : Int) - 1) = ((m - 1 : Nat) : Int) := by rw [IntKind.wrap_i64, hm1]; omega
    have hD := o1.ints
    obtain ⟨ad, e1, _, hcD⟩ := hD.at_ (show m - 1 < m by omega)
    have HG2 := Lib.hid HG.out
    rw [show 2 ^ n - 1 = m - 1 by rw [hm]] at HG2
    have hg := HG2.out
    rw [hg] at hcD
    subst e1
    go_wp2_with fail
    have HM := Lib.hid hm
    have HSG := Lib.hid (fun k hk => sumsL_get zs (2 ^ n) k hk)
    generalize sumsL zs (2 ^ n) = TB at *
    have al2 : sumL zs ≤ 16000 := by omega
    generalize sumL zs = all at *
    clear hm1 hmw hfull hg HG HG2
    go_loopg [7, 8, 9] (2 ^ (n - 1)) (fun r bv lv i wr => ∃ k : Nat, r = 2 ^ (n - 1) - k ∧ k ≤ 2 ^ (n - 1) ∧ i = .int .i64 ((2 * k : Nat) : Int) ∧ bv = .int .i64 ((halfTo zs all k).1 : Nat) ∧ lv = .int .i64 (halfTo zs all k).2 ∧ Below w.heap.size w wr ∧ IntsAt wr (some ad) m TB)
    case atStart => exact ⟨0, rfl, Nat.zero_le _, rfl, rfl, rfl, bb1, hD⟩
    case round =>
      clear hD hcD bb1 o1
      obtain ⟨k, hr, hk, rfl, rfl, rfl, hb, hD⟩ := hrel
      have HR := Lib.hid hr
      clear hr
      have hk2 := HPH.out
      rw [hm] at hk2
      have hhb := halfTo_bd zs all al0 k
      have HY := Lib.hid (fun x => @halfTo_yes zs all x k)
      have HNo := Lib.hid (fun x => @halfTo_no zs all x k)
      rw [HL.out] at HY HNo
      by_cases hlt : k < 2 ^ (n - 1)
      · have hlt2 : 2 * k < m := by omega
        obtain ⟨ad', e2, _, hcS⟩ := hD.at_ hlt2
        rw [HSG.out (2 * k) (by rw [HM.out]; exact hlt2), HL.out] at hcS
        have hst := sumTo_bd zs (2 * k) B5.out n (by rw [HL.out]; exact Nat.le_refl _)
        have e2k : ((2 * k : Nat) : Int) + 2 = ((2 * (k + 1) : Nat) : Int) := by omega
        have HE2 := Lib.hid e2k
        have HK2 := Lib.hid hk2
        clear hk2 e2k
        generalize hM : 2 * k = M at *
        have HMM := Lib.hid hM
        clear hM
        have HFF := Lib.hid (show ∀ s, farOf all s = max (all - 2 * s) (2 * s - all) from fun _ => rfl)
        obtain ⟨s0, s1⟩ := hst
        generalize sumTo zs M n = s at *
        obtain ⟨f0, f1⟩ := hhb
        injection e2 with e2
        subst e2
        by_cases hmx : 2 * s - all ≤ all - 2 * s
        · have HF2 := Lib.hid (show farOf all s = all - 2 * s by rw [HFF.out]; omega)
          have hmm : max (all - 2 * s) (2 * s - all) = all - 2 * s := by omega
          by_cases hless : all - 2 * s < (halfTo zs all k).2
          · have HN := Lib.hid (HY.out _ HF2.out hless)
            go_wp2_with go_quiet (fail)
            go_roundg (2 ^ (n - 1) - (k + 1))
            case measure => rw [HR.out]; omega
            case rel => exact ⟨k + 1, rfl, by omega, by rw [← HE2.out], by rw [HN.out], by rw [HN.out], below_drewN hb _, hD.drewN _⟩
          · have HN := Lib.hid (HNo.out _ HF2.out (by omega))
            go_wp2_with go_quiet (fail)
            go_roundg (2 ^ (n - 1) - (k + 1))
            case measure => rw [HR.out]; omega
            case rel => exact ⟨k + 1, rfl, by omega, by rw [← HE2.out], by rw [HN.out], by rw [HN.out], below_drewN hb _, hD.drewN _⟩
        · have HF2 := Lib.hid (show farOf all s = 2 * s - all by rw [HFF.out]; omega)
          have hmm : max (all - 2 * s) (2 * s - all) = 2 * s - all := by omega
          by_cases hless : 2 * s - all < (halfTo zs all k).2
          · have HN := Lib.hid (HY.out _ HF2.out hless)
            go_wp2_with go_quiet (fail)
            go_roundg (2 ^ (n - 1) - (k + 1))
            case measure => rw [HR.out]; omega
            case rel => exact ⟨k + 1, rfl, by omega, by rw [← HE2.out], by rw [HN.out], by rw [HN.out], below_drewN hb _, hD.drewN _⟩
          · have HN := Lib.hid (HNo.out _ HF2.out (by omega))
            go_wp2_with go_quiet (fail)
            go_roundg (2 ^ (n - 1) - (k + 1))
            case measure => rw [HR.out]; omega
            case rel => exact ⟨k + 1, rfl, by omega, by rw [← HE2.out], by rw [HN.out], by rw [HN.out], below_drewN hb _, hD.drewN _⟩
      · have e : k = 2 ^ (n - 1) := by omega
        have hge : ¬ 2 * k < m := by omega
        have hge2 : ¬ ((2 * k : Nat) : Int) < (m : Int) := by omega
        subst e
        have hlt3 := halfTo_lt2 zs all (2 ^ (n - 1)) (Nat.two_pow_pos _)
        rw [← HH.out] at hlt3 ⊢
        have hsz := hb.size
        have HQ := Lib.hid (digitsOf_eq (halfOf zs).1 n (by omega) (by omega))
        have hbn : (halfOf zs).1 < 4611686018427387904 := by omega
        go_wp2_with fail
        refine (l04Set_any (halfOf zs).1 n _ hbn (by omega)).mono ?_
        rw [← HQ.out]
        rintro e w1 ⟨A1, m, c1, rfl, o1, bb1⟩
        go_wp2_with fail
        go_ret3
        exact ⟨A1, m, c1, ret_LIB HK.out.symm rfl, by rw [HV.out]; exact o1.low hb.size, below_ext hb hb.size bb1⟩
end Go.Proofs.Ytjpidpocaemkjaa
