/- LeastCover of the reference: the walks. -/
import Derived.Test.YtbdcnbnaammagaaCover
namespace Go.Proofs.Ytbdcnbnaammagaa
open Go.RowKit

theorem l04Ones_any (x : Nat) (w : World) (hx : x < 4611686018427387904) :
    Calls Try.prog 34 #[.int .i64 x] w fun e w' => e = .returned (.int .i64 (ones x : Nat)) ∧ w = w' := by
  go_enter Try.func34, Try.ntmps34
  go_wp2
  go_loop [0, 3] (fun v c => ∃ (y s : Nat), v = .int .i64 y ∧ c = .int .i64 s ∧ y < 4611686018427387904 ∧ s + ones y ≤ 64 ∧ Hid (s + ones y = ones x)) (fun v _ => (intOf v).toNat)
  case atStart => exact ⟨x, 0, rfl, rfl, hx, by have := ones_le x; omega, Lib.hid (by omega)⟩
  case round =>
    obtain ⟨y, s, rfl, rfl, hy, hs, hall⟩ := hrel
    by_cases h0 : 0 < y
    · have hh := ones_half y (by omega)
      have HH := Lib.hid hh
      have e1 : ((y : Int) / 2) = ((y / 2 : Nat) : Int) := by omega
      have e2 : ((y : Int) % 2) = ((y % 2 : Nat) : Int) := by omega
      have b1 : (y : Int) % 2 ≤ 1 := by omega
      have b2 : 0 ≤ (y : Int) % 2 := by omega
      have E1 := Lib.hid e1
      have E2 := Lib.hid e2
      clear e1 e2 hh
      go_wp2
      go_round
      case rel => exact ⟨y / 2, s + y % 2, by rw [E1.out], by rw [E2.out]; go_num, by omega, by have := HH.out; omega, Lib.hid (by have := HH.out; have := hall.out; omega)⟩
      case measure => rw [E1.out]; simp [intOf]; omega
    · have e : y = 0 := by omega
      subst e
      go_wp2
      go_ret
      exact ⟨ret_int (by have := hall.out; rw [ones_zero] at this; omega), rfl⟩

set_option maxHeartbeats 800000 in
theorem l04Set_any (m n : Nat) (w : World) (hm : m < 4611686018427387904) (hn : n ≤ 62) :
    Calls Try.prog 35 #[.int .i64 m, .int .i64 n] w (RetI 2 (digitsTo m n) w) := by
  have he : OwnI 2 w.heap.size (w.alloc (.cells #[] 2)) (some ⟨w.heap.size, 0, none⟩) 0 0 [] := World.ownsRow_lit (e := 2) (base := w.heap.size) (size := 1) w #[] 0 (Nat.le_refl _) (Nat.zero_le _) rfl
  have hW : Below w.heap.size w (w.alloc (.cells #[] 2)) := (Below.refl _ _).alloc (Nat.le_refl _) _
  go_enter Try.func35, Try.ntmps35
  go_wp2
  generalize w.alloc (.cells #[] 2) = w0 at *
  go_loopg [5, 6] n (fun r v i wr => ∃ (k : Nat) (A : Option Addr) (l c : Nat), r = n - k ∧ k ≤ n ∧ i = .int .i64 k ∧ v = .slice A l c ∧ l ≤ k ∧ OwnI 2 w.heap.size wr A l c (digitsTo m k) ∧ Below w.heap.size w wr)
  case atStart => exact ⟨0, _, 0, 0, by omega, by omega, rfl, rfl, by omega, he, hW⟩
  case round =>
    clear he hW
    obtain ⟨k, A, l, c, hr, hk, rfl, rfl, hlk, hown, hb⟩ := hrel
    have HR := Lib.hid hr
    clear hr
    by_cases hlt : k < n
    · have hbt := bit_test m k (by omega)
      have HS := Lib.hid (digitsTo_succ m k)
      have hk61 : k ≤ 61 := by omega
      cases hb2 : m.testBit k
      · rw [hb2] at hbt
        go_wp2
        go_roundg (n - (k + 1))
        case measure => rw [HR.out]; omega
        case rel => exact ⟨k + 1, A, l, c, rfl, by omega, by go_num, rfl, by omega, by rw [HS.out, hb2]; exact hown, hb⟩
      · rw [hb2] at hbt
        have hsz := hb.size
        go_wp2_with (at_builtin; refine wp_append_int wr _ rfl _ _ _ rfl 2 w.heap.size Try.underlying26 info64 A l c _ rfl hown rfl (by omega) hsz ?_; intro g c1 w1 o1 u1 b1 _)
        go_roundg (n - (k + 1))
        case measure => rw [HR.out]; omega
        case rel => exact ⟨k + 1, _, _, _, rfl, by omega, by go_num, rfl, by omega, by rw [HS.out, hb2]; exact o1, hb.trans b1⟩
    · have e : k = n := by omega
      subst e
      go_wp2
      go_ret
      exact ⟨A, l, c, rfl, hown, hb⟩

set_option maxHeartbeats 1600000 in
theorem specLeastCover_r (a : Int) (A : Option Addr) (n c : Nat) (zs : List Int) (w : World) (h : IntsAt w A n zs) (hl : n ≤ 1048576) :
    Calls Try.prog 20 #[.int .i64 a, .slice A n c] w (RetLB 2 (coverV a zs) (coverB a zs) w) := by
  have HL := Lib.hid h.len
  cases hs : setsB a zs
  · have HB := Lib.hid (show coverB a zs = false by unfold coverB; rw [hs]; rfl)
    have HV := Lib.hid (coverV_no hs)
    go_enter Try.func20, Try.ntmps20
    go_wp2_with (go_at_call 32; refine (l04Sets_any _ _ _ _ zs _ h hl).mono ?_; rintro e w' ⟨rfl, rfl⟩)
    go_ret2
    exact ⟨none, 0, 0, by rw [HB.out]; rfl, by rw [HV.out]; exact OwnI.nil_ _ _ _, Below.refl _ _⟩
  · obtain ⟨b1, b2, b3, b4, b5⟩ := setsB_bd hs
    have B5 := Lib.hid b5
    have HSS := Lib.hid hs
    rw [h.len] at b3 b4
    have hpw := pow_bd a (by omega) (by omega)
    have hpn := pow_bd (n : Int) (by omega) (by omega)
    rw [Int.toNat_natCast] at hpn
    have HP := Lib.hid (show ((2 ^ n : Nat) : Int) = (2 : Int) ^ n by exact_mod_cast rfl)
    have hp16 : (2 : Int) ^ n ≤ 65536 := by
      have := Nat.pow_le_pow_right (n := 2) (by omega) b4
      rw [← HP.out]; omega
    have HCO := Lib.hid (show coverOf a zs = bestC (natL zs) (2 ^ a.toNat - 1) (2 ^ n) by unfold coverOf; rw [HL.out])
    clear b5
    go_enter Try.func20, Try.ntmps20
    go_wp2_with (go_at_call 32; refine (l04Sets_any _ _ _ _ zs _ h hl).mono ?_; rintro e w' ⟨rfl, rfl⟩)
    clear hs
    go_loopg [6, 7] (2 ^ n) (fun r bv i wr => ∃ k : Nat, r = 2 ^ n - k ∧ k ≤ 2 ^ n ∧ i = .int .i64 k ∧ bv = .int .i64 (bM (bestC (natL zs) (2 ^ a.toNat - 1) k)) ∧ wr = w)
    case atStart => exact ⟨0, rfl, Nat.zero_le _, rfl, rfl, rfl⟩
    case round =>
      obtain ⟨k, hr, hk, rfl, rfl, rfl⟩ := hrel
      have HR := Lib.hid hr
      clear hr
      by_cases hlt : k < 2 ^ n
      · have hlt' : (k : Int) < (2 : Int) ^ n := by rw [← HP.out]; omega
        have HOM := Lib.hid (show orM (natL zs) k = orTo (natL zs) k n by unfold orM; rw [natL_len, HL.out])
        have hk16 : (k : Int) ≤ 65536 := by omega
        have hkN : k < 4611686018427387904 := by omega
        have hbl : ∀ b, bestC (natL zs) (2 ^ a.toNat - 1) k = some b → b < 4611686018427387904 := fun b hb => by
          have := bestC_lt _ _ _ b hb; omega
        have HBL := Lib.hid hbl
        clear hbl
        go_wp2_with fail
        go_loop [8, 9] (fun hv j => ∃ (q : Nat), q ≤ n ∧ j = .int .i64 q ∧ hv = .int .i64 (orTo (natL zs) k q : Nat) ∧ orTo (natL zs) k q ≤ 65535) (fun _ j => n - (intOf j).toNat)
        case atStart => exact ⟨0, by omega, rfl, rfl, by simp [orTo]⟩
        case round =>
          obtain ⟨q, hq, rfl, rfl, hle⟩ := hrel
          have hbt := bit_test k q (by omega)
          have hts := orTo_succ (natL zs) k q
          by_cases hql : q < n
          · obtain ⟨ad, rfl, _, hcS⟩ := h.at_ hql
            have hx := B5.out q (by rw [HL.out]; exact hql)
            rw [natL_get (by rw [HL.out]; exact hql)] at hts
            obtain ⟨x0, x1, _⟩ := hx
            generalize hy : zs.getD q 0 = y at *
            obtain ⟨s, rfl⟩ := Int.eq_ofNat_of_zero_le x0
            rw [Int.toNat_natCast] at hts
            clear hy
            generalize orTo (natL zs) k q = hv at *
            have hor := i64_or_nat hv s (by omega) (by omega)
            have hole := or_bd (a := hv) (b := s) hle (by omega)
            cases hb2 : k.testBit q
            · rw [hb2] at hbt
              have HTS := Lib.hid (hts.trans (by rw [hb2]; rfl) : orTo (natL zs) k (q + 1) = hv)
              clear hts hor
              go_wp2
              go_round
              case rel => exact ⟨q + 1, by omega, by go_num, by rw [HTS.out], by rw [HTS.out]; exact hle⟩
              case measure => simp [intOf]; omega
            · rw [hb2] at hbt
              have HTS := Lib.hid (hts.trans (by rw [hb2]; rfl) : orTo (natL zs) k (q + 1) = hv ||| s)
              clear hts
              go_wp2
              go_round
              case rel => exact ⟨q + 1, by omega, by go_num, by rw [HTS.out], by rw [HTS.out]; exact hole⟩
              case measure => simp [intOf]; omega
          · have e : q = n := by omega
            subst e
            rw [← HOM.out] at hle ⊢
            clear hts hbt
            generalize hhv : orM (natL zs) k = hv at *
            have HHV := Lib.hid hhv
            clear hhv
            by_cases hf : hv = 2 ^ a.toNat - 1
            · have hfb : ((hv : Int) == 2 ^ a.toNat - 1) = true := by rw [beq_iff_eq, ← pow_nat, hf]
              have HF := Lib.hid (show orM (natL zs) k = 2 ^ a.toNat - 1 by rw [HHV.out, hf])
              clear hf
              cases hbc : bestC (natL zs) (2 ^ a.toNat - 1) k with
              | none =>
                have HN := Lib.hid (bestC_yes1 HF.out hbc)
                clear hbc
                have hl1 : bM none = -1 := rfl
                go_wp2
                go_roundg (2 ^ q - (k + 1))
                case measure => rw [HR.out]; omega
                case rel => exact ⟨k + 1, rfl, by omega, by go_num, by rw [HN.out]; rfl, rfl⟩
              | some b =>
                have hl1 : bM (some b) = (b : Int) := rfl
                have hb62 := HBL.out b hbc
                have hol1 := ones_le k
                have hol2 := ones_le b
                by_cases hlb : ones k < ones b
                · have HN := Lib.hid (bestC_yes2 HF.out hbc hlb)
                  clear hbc
                  go_wp2_with (go_at_call 34; refine (l04Ones_any _ _ (by omega)).mono ?_; rintro e w' ⟨rfl, rfl⟩)
                  go_roundg (2 ^ q - (k + 1))
                  case measure => rw [HR.out]; omega
                  case rel => exact ⟨k + 1, rfl, by omega, by go_num, by rw [HN.out]; rfl, rfl⟩
                · have HN := Lib.hid (bestC_no2 hbc hlb)
                  clear hbc
                  go_wp2_with (go_at_call 34; refine (l04Ones_any _ _ (by omega)).mono ?_; rintro e w' ⟨rfl, rfl⟩)
                  go_roundg (2 ^ q - (k + 1))
                  case measure => rw [HR.out]; omega
                  case rel => exact ⟨k + 1, rfl, by omega, by go_num, by rw [HN.out]; rfl, rfl⟩
            · have hfb : ((hv : Int) == 2 ^ a.toNat - 1) = false := by
                rw [beq_eq_false_iff_ne, ← pow_nat]
                intro e
                exact hf (by exact_mod_cast e)
              have HF := Lib.hid (bestC_no1 (ss := natL zs) (full := 2 ^ a.toNat - 1) (k := k) (by rw [HHV.out]; exact hf))
              clear hf
              go_wp2
              go_roundg (2 ^ q - (k + 1))
              case measure => rw [HR.out]; omega
              case rel => exact ⟨k + 1, rfl, by omega, by go_num, by rw [HF.out], rfl⟩
      · have hge : ¬ (k : Int) < (2 : Int) ^ n := by rw [← HP.out]; omega
        have e : k = 2 ^ n := by omega
        subst e
        rw [← HCO.out]
        have hbl : ∀ b, coverOf a zs = some b → b < 2 ^ n := fun b hb => bestC_lt _ _ _ b (HCO.out.symm.trans hb)
        cases hbc : coverOf a zs with
        | none =>
          have HB := Lib.hid (show coverB a zs = false by unfold coverB; rw [hbc]; simp)
          have HV := Lib.hid (coverV_none (a := a) hbc)
          have hl1 : bM none = -1 := rfl
          clear hbc hbl
          go_wp2_with fail
          go_ret2
          exact ⟨none, 0, 0, by rw [HB.out]; rfl, by rw [HV.out]; exact OwnI.nil_ _ _ _, Below.refl _ _⟩
        | some b =>
          have HB := Lib.hid (show coverB a zs = true by unfold coverB; rw [hbc, HSS.out]; rfl)
          have hb16 := hbl b hbc
          have HV := Lib.hid ((coverV_some HSS.out hbc).trans (digitsOf_eq b n hb16 (by omega)))
          have hb17 : b < 4611686018427387904 := by
            have := Nat.pow_le_pow_right (n := 2) (by omega) b4
            omega
          have hl1 : bM (some b) = (b : Int) := rfl
          clear hbc hbl
          go_wp2_with fail
          refine (l04Set_any b n _ hb17 (by omega)).mono ?_
          rintro e w1 ⟨A1, m, c1, rfl, o1, bb1⟩
          go_wp2_with fail
          go_ret2
          exact ⟨A1, m, c1, by rw [HB.out]; rfl, by rw [HV.out]; exact o1, bb1⟩
end Go.Proofs.Ytbdcnbnaammagaa
