/- GreedyCover: the walks. -/
import Derived.Test.YtbdcnbnaammagaaGreedyPlain
import Derived.Test.YtbdcnbnaammagaaCover2
namespace Go.Proofs.Ytbdcnbnaammagaa
open Go.RowKit

def greedyR (a : Int) (zs : List Int) : List Int × Bool := gRun (natL zs) zs.length (2 ^ a.toNat - 1) (2 ^ a.toNat - 1) []
def greedyB (a : Int) (zs : List Int) : Bool := setsB a zs && (greedyR a zs).2
def greedyV (a : Int) (zs : List Int) : List Int := if setsB a zs = true then (greedyR a zs).1 else []
theorem greedyV_no {a : Int} {zs : List Int} (h : setsB a zs = false) : greedyV a zs = [] := by unfold greedyV; rw [if_neg (by rw [h]; decide)]
theorem greedyV_yes {a : Int} {zs : List Int} (h : setsB a zs = true) : greedyV a zs = (greedyR a zs).1 := by unfold greedyV; rw [if_pos h]

theorem gRet {A : Option Addr} {n c : Nat} {a b : Bool} (h : a = b) : Ending.returned (.tuple #[.slice A n c, .bool a]) = .returned (.tuple #[.slice A n c, .bool b]) := by rw [h]

set_option maxRecDepth 100000 in
set_option maxHeartbeats 3200000 in
theorem implGreedyCover_r (a : Int) (A : Option Addr) (n c : Nat) (zs : List Int) (w : World) (h : IntsAt w A n zs) (hl : n ≤ 1048576) :
    Calls Try.prog 12 #[.int .i64 a, .slice A n c] w (RetLB 2 (greedyV a zs) (greedyB a zs) w) := by
  have HL := Lib.hid h.len
  cases hs : setsB a zs
  · have HB := Lib.hid (show greedyB a zs = false by unfold greedyB; rw [hs]; rfl)
    have HV := Lib.hid (greedyV_no hs)
    go_enter Try.func12, Try.ntmps12
    go_wp2_with (go_at_call 11; refine (implAreSets_any _ _ _ _ zs _ h hl).mono ?_; rintro e w' ⟨rfl, rfl⟩)
    go_ret2
    exact ⟨none, 0, 0, gRet HB.out.symm, by rw [HV.out]; exact OwnI.nil_ _ _ _, Below.refl _ _⟩
  · obtain ⟨b1, b2, b3, b4, b5⟩ := setsB_bd hs
    have B5 := Lib.hid b5
    have HB := Lib.hid (show greedyB a zs = (greedyR a zs).2 by unfold greedyB; rw [hs]; rfl)
    have HV := Lib.hid (greedyV_yes hs)
    have HG := Lib.hid (show greedyR a zs = gRun (natL zs) n (2 ^ a.toNat - 1) (2 ^ a.toNat - 1) [] by unfold greedyR; rw [HL.out])
    rw [h.len] at b3 b4
    have hpw := pow_bd a (by omega) (by omega)
    clear b5
    go_enter Try.func12, Try.ntmps12
    go_wp2_with (go_at_call 11; refine (implAreSets_any _ _ _ _ zs _ h hl).mono ?_; rintro e w' ⟨rfl, rfl⟩)
    have hF : ((2 ^ a.toNat - 1 : Nat) : Int) = (2 : Int) ^ a.toNat - 1 := pow_nat a
    have hF16 : 2 ^ a.toNat - 1 ≤ 65535 := by
      have := Nat.pow_le_pow_right (n := 2) (by omega) (show a.toNat ≤ 16 by omega)
      omega
    rw [← hF]
    clear hF hpw
    generalize 2 ^ a.toNat - 1 = F at *
    go_loopg [6, 7] F (fun r lv ov wr => ∃ (f left q : Nat) (S : Option Addr) (sc : Nat) (out : List Int), r = f ∧ left ≤ f ∧ q + left ≤ 65535 ∧ lv = .int .i64 left ∧ ov = .slice S q sc ∧ OwnI 2 w.heap.size wr S q sc out ∧ Below w.heap.size w wr ∧ Hid (greedyR a zs = gRun (natL zs) n f left out))
    case atStart => exact ⟨F, F, 0, none, 0, [], rfl, Nat.le_refl _, by omega, rfl, rfl, OwnI.nil_ _ _ _, Below.refl _ _, HG⟩
    case round =>
      obtain ⟨f, left, q, S, sc, out, hr, hlf, hql, rfl, rfl, hown, hb, hG⟩ := hrel
      have HR := Lib.hid hr
      clear hr
      by_cases h0 : left = 0
      · subst h0
        have HE := Lib.hid (hG.out.trans (gRun_end _ _ _ _))
        go_wp2
        go_ret2
        exact ⟨_, _, _, gRet (by rw [HB.out, HE.out]), by rw [HV.out, HE.out]; exact hown, hb⟩
      · have h0b : ((left : Int) != 0) = true := by rw [bne_iff_ne]; omega
        have h0' : ¬ (left : Int) = 0 := by omega
        have HLL := Lib.hid hlf
        go_wp2_with fail
        go_loop [8, 9, 24] (fun bv mv i => ∃ k : Nat, k ≤ n ∧ i = .int .i64 k ∧ bv = .int .i64 (gBest (natL zs) left k : Nat) ∧ mv = .int .i64 (gMost (natL zs) left k : Nat) ∧ gMost (natL zs) left k ≤ 16) (fun _ _ i => n - (intOf i).toNat)
        case atStart => exact ⟨0, Nat.zero_le _, rfl, rfl, rfl, Nat.zero_le _⟩
        case round =>
          obtain ⟨k, hk, rfl, rfl, rfl, hm16⟩ := hrel
          by_cases hlk : k < n
          · obtain ⟨ad, rfl, _, hcS⟩ := (h.below hb).at_ hlk
            have hx := B5.out k (by rw [HL.out]; exact hlk)
            have hg := natL_get (zs := zs) (k := k) (by rw [HL.out]; exact hlk)
            have hcnt : gCnt (natL zs) left k = ones ((natL zs).getD k 0 &&& left) := rfl
            have HY := Lib.hid (@gBest_yes (natL zs) left k)
            have HNo := Lib.hid (@gBest_no (natL zs) left k)
            rw [hg] at hcnt
            generalize zs.getD k 0 = y at *
            obtain ⟨x0, x1, _⟩ := hx
            obtain ⟨s, rfl⟩ := Int.eq_ofNat_of_zero_le x0
            rw [Int.toNat_natCast] at hcnt
            have hand := i64_and_nat s left (by omega) (by omega)
            have hz : s &&& left ≤ s := Nat.and_le_left
            have hc16 := onesCount64_le (s &&& left) (by omega)
            generalize hzz : s &&& left = z at *
            have hz2 : z < 65536 := by omega
            clear hzz hg
            have HC := Lib.hid hcnt
            rw [hcnt] at HY HNo
            by_cases hmore : gMost (natL zs) left k < ones z
            · obtain ⟨e1, e2⟩ := HY.out hmore
              have E1 := Lib.hid e1
              have E2 := Lib.hid e2
              clear e1 e2 hcnt
              generalize gMost (natL zs) left k = mo at *
              generalize gBest (natL zs) left k = be at *
              go_wp2_with (go_at_call 29; refine (onesCount64_any z _ hz2).mono ?_; rintro e w' ⟨rfl, rfl⟩)
              go_round
              case rel => exact ⟨k + 1, by omega, by go_num, by rw [E1.out], by rw [E2.out], by rw [E2.out]; exact hc16⟩
              case measure => simp [intOf]; omega
            · obtain ⟨e1, e2⟩ := HNo.out hmore
              have E1 := Lib.hid e1
              have E2 := Lib.hid e2
              clear e1 e2 hcnt
              generalize gMost (natL zs) left k = mo at *
              generalize gBest (natL zs) left k = be at *
              go_wp2_with (go_at_call 29; refine (onesCount64_any z _ hz2).mono ?_; rintro e w' ⟨rfl, rfl⟩)
              go_round
              case rel => exact ⟨k + 1, by omega, by go_num, by rw [E1.out], by rw [E2.out], by rw [E2.out]; exact hm16⟩
              case measure => simp [intOf]; omega
          · have e : k = n := by omega
            subst e
            have hbl := gBest_lt (natL zs) left k b3
            have hme := gMost_eq (natL zs) left k b3
            have hbz : gBest (natL zs) left k < zs.length := by rw [HL.out]; exact hbl
            obtain ⟨ad, rfl, _, hcS⟩ := (h.below hb).at_ hbl
            have hx := B5.out _ hbz
            have hg := natL_get (zs := zs) hbz
            have hcnt : gCnt (natL zs) left (gBest (natL zs) left k) = ones ((natL zs).getD (gBest (natL zs) left k) 0 &&& left) := rfl
            have HSt := Lib.hid (fun f out => @gRun_stuck (natL zs) k f left out h0)
            have HSp := Lib.hid (fun f out => @gRun_step (natL zs) k f left out h0)
            rw [hg] at hcnt
            rw [hcnt] at hme
            obtain ⟨f, rfl⟩ : ∃ f', f = f' + 1 := ⟨f - 1, by omega⟩
            have H1 := Lib.hid (fun (hh : (natL zs).getD (gBest (natL zs) left k) 0 &&& left = 0) => hG.out.trans (HSt.out f out hh))
            have H2 := Lib.hid (fun (hh : (natL zs).getD (gBest (natL zs) left k) 0 &&& left ≠ 0) => hG.out.trans (HSp.out f out hh))
            rw [hg] at H1 H2
            clear hg hcnt HSt HSp
            generalize gBest (natL zs) left k = be at *
            have HC4 := Lib.hid (fun (w4 : World) (hh : Below w.heap.size w w4) => ints_cell (h.below hh) hbl)
            generalize zs.getD be 0 = y at *
            obtain ⟨x0, x1, _⟩ := hx
            obtain ⟨s, rfl⟩ := Int.eq_ofNat_of_zero_le x0
            rw [Int.toNat_natCast] at hme H1 H2
            have hz : s &&& left ≤ s := Nat.and_le_left
            have hon := ones_none (m := s &&& left) (by omega)
            have HM := Lib.hid hme
            clear hme
            by_cases hzero : s &&& left = 0
            · have HE := Lib.hid (H1.out hzero)
              have hm0 : gMost (natL zs) left k = 0 := by rw [HM.out]; exact hon.2 hzero
              clear hon hzero hz H1 H2
              rw [hm0]
              go_wp2_with fail
              go_ret2
              exact ⟨none, 0, 0, gRet (by rw [HB.out, HE.out]), by rw [HV.out, HE.out]; exact OwnI.nil_ _ _ _, hb⟩
            · have HE := Lib.hid (H2.out hzero)
              have hm0 : ¬ gMost (natL zs) left k = 0 := by rw [HM.out]; exact fun e => hzero (hon.1 e)
              have hlt := andN_lt (left := left) (s := s) (by omega) (by omega) hzero
              have hnot := i64_andNot_nat left s (by omega) (by omega)
              clear hon hzero hz H1 H2
              generalize gMost (natL zs) left k = mo at *
              have hm1 : ((mo : Int) == 0) = false := by simpa using hm0
              have hm2 : ¬ (mo : Int) = 0 := by omega
              have hsz := hb.size
              generalize andN left s = l2 at *
              have HNOT := Lib.hid hnot
              go_wp2_with (at_builtin; refine wp_append_int _ _ rfl _ _ _ rfl 2 w.heap.size Try.underlying26 info64 S q sc _ rfl hown rfl (by omega) hsz ?_; intro g4 c4 w4 o4 u4 b4 hg4; have hc4 := HC4.out w4 (hb.trans b4))
              go_roundg (f)
              case measure => rw [HR.out]; omega
              case rel => exact ⟨f, l2, q + 1, _, _, _, rfl, by omega, by omega, rfl, rfl, o4, hb.trans b4, HE⟩

theorem greedyV_len (a : Int) (zs : List Int) : (greedyV a zs).length ≤ 1048576 := by
  cases hs : setsB a zs
  · rw [greedyV_no hs]; simp
  · rw [greedyV_yes hs, greedyR]
    obtain ⟨b1, b2, _⟩ := setsB_bd hs
    have := gRun_len (natL zs) zs.length (2 ^ a.toNat - 1) (2 ^ a.toNat - 1) []
    have := Nat.pow_le_pow_right (n := 2) (by omega) (show a.toNat ≤ 16 by omega)
    simp only [List.length_nil] at *
    omega

theorem l04Ones_q (x : Nat) (w : World) (m k : Nat) (hx : x < 4611686018427387904) :
    Calls Try.prog 34 #[.int .i64 x] (w.drewN (m + k)) fun e w'' => e = .returned (.int .i64 (ones x : Nat)) ∧ ∃ q, w'' = w.drewN (m + q) :=
  (l04Ones_any x _ hx).mono fun _ _ ⟨h1, h2⟩ => ⟨h1, k, h2.symm⟩

set_option maxRecDepth 100000 in
set_option maxHeartbeats 3200000 in
theorem specGreedyCover_r (a : Int) (A : Option Addr) (n c : Nat) (zs : List Int) (w : World) (h : IntsAt w A n zs) (hl : n ≤ 1048576) :
    Calls Try.prog 23 #[.int .i64 a, .slice A n c] w (RetLB 2 (greedyV a zs) (greedyB a zs) w) := by
  have HL := Lib.hid h.len
  cases hs : setsB a zs
  · have HB := Lib.hid (show greedyB a zs = false by unfold greedyB; rw [hs]; rfl)
    have HV := Lib.hid (greedyV_no hs)
    go_enter Try.func23, Try.ntmps23
    go_wp2_with (go_at_call 32; refine (l04Sets_any _ _ _ _ zs _ h hl).mono ?_; rintro e w' ⟨rfl, rfl⟩)
    go_ret2
    exact ⟨none, 0, 0, gRet HB.out.symm, by rw [HV.out]; exact OwnI.nil_ _ _ _, Below.refl _ _⟩
  · obtain ⟨b1, b2, b3, b4, b5⟩ := setsB_bd hs
    have B5 := Lib.hid b5
    have HB := Lib.hid (show greedyB a zs = (greedyR a zs).2 by unfold greedyB; rw [hs]; rfl)
    have HV := Lib.hid (greedyV_yes hs)
    have HG := Lib.hid (show greedyR a zs = gRun (natL zs) n (2 ^ a.toNat - 1) (2 ^ a.toNat - 1) [] by unfold greedyR; rw [HL.out])
    rw [h.len] at b3 b4
    have hpw := pow_bd a (by omega) (by omega)
    have he : OwnI 2 w.heap.size (w.alloc (.cells #[] 2)) (some ⟨w.heap.size, 0, none⟩) 0 0 [] := World.ownsRow_lit (e := 2) (base := w.heap.size) (size := 1) w #[] 0 (Nat.le_refl _) (Nat.zero_le _) rfl
    have hW : Below w.heap.size w (w.alloc (.cells #[] 2)) := (Below.refl _ _).alloc (Nat.le_refl _) _
    clear b5
    go_enter Try.func23, Try.ntmps23
    go_wp2_with (go_at_call 32; refine (l04Sets_any _ _ _ _ zs _ h hl).mono ?_; rintro e w' ⟨rfl, rfl⟩)
    generalize w.alloc (.cells #[] 2) = w0 at *
    have hF : ((2 ^ a.toNat - 1 : Nat) : Int) = (2 : Int) ^ a.toNat - 1 := pow_nat a
    have hF16 : 2 ^ a.toNat - 1 ≤ 65535 := by
      have := Nat.pow_le_pow_right (n := 2) (by omega) (show a.toNat ≤ 16 by omega)
      omega
    rw [← hF]
    clear hF hpw
    generalize 2 ^ a.toNat - 1 = F at *
    go_loopg [6, 7] F (fun r lv ov wr => ∃ (f left q : Nat) (S : Option Addr) (sc : Nat) (out : List Int), r = f ∧ left ≤ f ∧ q + left ≤ 65535 ∧ lv = .int .i64 left ∧ ov = .slice S q sc ∧ OwnI 2 w.heap.size wr S q sc out ∧ Below w.heap.size w wr ∧ Hid (greedyR a zs = gRun (natL zs) n f left out))
    case atStart => exact ⟨F, F, 0, _, 0, [], rfl, Nat.le_refl _, by omega, rfl, rfl, he, hW, HG⟩
    case round =>
      clear he hW
      obtain ⟨f, left, q, S, sc, out, hr, hlf, hql, rfl, rfl, hown, hb, hG⟩ := hrel
      have HR := Lib.hid hr
      clear hr
      by_cases h0 : left = 0
      · subst h0
        have HE := Lib.hid (hG.out.trans (gRun_end _ _ _ _))
        go_wp2
        go_ret2
        exact ⟨_, _, _, gRet (by rw [HB.out, HE.out]), by rw [HV.out, HE.out]; exact hown, hb⟩
      · have h0b : decide ((0 : Int) < (left : Int)) = true := by rw [decide_eq_true_iff]; omega
        have h0' : (0 : Int) < (left : Int) := by omega
        have h00 := Lib.hid h0
        clear h0
        go_wp2_with fail
        obtain ⟨wo, rfl⟩ : ∃ wo : World, wo = wr := ⟨_, rfl⟩
        go_loopg [8, 9] (n - 1) (fun r bv i wi => ∃ k : Nat, r = n - k ∧ 1 ≤ k ∧ k ≤ n ∧ i = .int .i64 k ∧ bv = .int .i64 (gBest (natL zs) left k : Nat) ∧ Drew wo wi)
        case atStart => exact ⟨1, by omega, Nat.le_refl _, b3, rfl, by rw [gBest_one]; rfl, Drew.refl _⟩
        case round =>
          obtain ⟨k, hq, hk1, hk, rfl, rfl, m, rfl⟩ := hrel
          have HQ := Lib.hid hq
          clear hq
          have hbl := gBest_lt (natL zs) left k hk1
          by_cases hlk : k < n
          · obtain ⟨ad, rfl, _, hcS⟩ := (h.below hb).at_ hlk
            have hcT := ints_cell (h.below hb) (k := gBest (natL zs) left k) (by omega)
            have hx := B5.out k (by rw [HL.out]; exact hlk)
            have hx2 := B5.out (gBest (natL zs) left k) (by rw [HL.out]; omega)
            have hg := natL_get (zs := zs) (k := k) (by rw [HL.out]; exact hlk)
            have hg2 := natL_get (zs := zs) (k := gBest (natL zs) left k) (by rw [HL.out]; omega)
            have hcnt : gCnt (natL zs) left k = ones ((natL zs).getD k 0 &&& left) := rfl
            have hcnt2 : gCnt (natL zs) left (gBest (natL zs) left k) = ones ((natL zs).getD (gBest (natL zs) left k) 0 &&& left) := rfl
            have HY := Lib.hid (@gSpec_yes (natL zs) left k)
            have HNo := Lib.hid (@gSpec_no (natL zs) left k)
            rw [hg] at hcnt
            rw [hg2] at hcnt2
            rw [hcnt, hcnt2] at HY HNo
            clear hg hg2 hcnt hcnt2
            generalize hbb : gBest (natL zs) left k = be at *
            generalize zs.getD k 0 = y at *
            generalize zs.getD be 0 = y2 at *
            obtain ⟨x0, x1, _⟩ := hx
            obtain ⟨s, rfl⟩ := Int.eq_ofNat_of_zero_le x0
            obtain ⟨z0, z1, _⟩ := hx2
            obtain ⟨s2, rfl⟩ := Int.eq_ofNat_of_zero_le z0
            rw [Int.toNat_natCast, Int.toNat_natCast] at HY HNo
            have hand := i64_and_nat s left (by omega) (by omega)
            have hand2 := i64_and_nat s2 left (by omega) (by omega)
            have hz : s &&& left ≤ s := Nat.and_le_left
            have hz2 : s2 &&& left ≤ s2 := Nat.and_le_left
            generalize s &&& left = z at *
            generalize s2 &&& left = y2 at *
            have hbi : (be : Int) < (n : Int) := by omega
            have q1 : z < 4611686018427387904 := by omega
            have q2 : y2 < 4611686018427387904 := by omega
            have HBB := Lib.hid hbb
            clear hbb
            by_cases hmore : ones y2 < ones z
            · have E1 := Lib.hid (HY.out hmore)
              have hd : decide ((ones y2 : Int) < (ones z : Int)) = true := by rw [decide_eq_true_iff]; omega
              go_wp2_with fail
              go_quiet ((first | (go_at_call 34; exact l04Ones_q _ _ _ _ q1) | (go_at_call 34; exact l04Ones_q _ _ _ _ q2)))
              go_wp2
              go_roundg (n - (k + 1))
              case measure => rw [HQ.out]; omega
              case rel => exact ⟨k + 1, rfl, by omega, by omega, by go_num, by rw [E1.out], ⟨_, rfl⟩⟩
            · have E1 := Lib.hid (HNo.out hmore)
              have hd : decide ((ones y2 : Int) < (ones z : Int)) = false := by rw [decide_eq_false_iff_not]; omega
              go_wp2_with fail
              go_quiet ((first | (go_at_call 34; exact l04Ones_q _ _ _ _ q1) | (go_at_call 34; exact l04Ones_q _ _ _ _ q2)))
              go_wp2
              go_roundg (n - (k + 1))
              case measure => rw [HQ.out]; omega
              case rel => exact ⟨k + 1, rfl, by omega, by omega, by go_num, by rw [E1.out], ⟨_, rfl⟩⟩
          · have e : k = n := by omega
            subst e
            have hbz : gBest (natL zs) left k < zs.length := by rw [HL.out]; exact hbl
            obtain ⟨ad, rfl, _, hcS⟩ := ((h.below hb).drewN m).at_ hbl
            have hx := B5.out _ hbz
            have hg := natL_get (zs := zs) hbz
            have HSt := Lib.hid (fun f out => @gRun_stuck (natL zs) k f left out h00.out)
            have HSp := Lib.hid (fun f out => @gRun_step (natL zs) k f left out h00.out)
            obtain ⟨f, rfl⟩ : ∃ f', f = f' + 1 := ⟨f - 1, by omega⟩
            have H1 := Lib.hid (fun (hh : (natL zs).getD (gBest (natL zs) left k) 0 &&& left = 0) => hG.out.trans (HSt.out f out hh))
            have H2 := Lib.hid (fun (hh : (natL zs).getD (gBest (natL zs) left k) 0 &&& left ≠ 0) => hG.out.trans (HSp.out f out hh))
            rw [hg] at H1 H2
            clear hg HSt HSp
            generalize gBest (natL zs) left k = be at *
            generalize zs.getD be 0 = y at *
            obtain ⟨x0, x1, _⟩ := hx
            obtain ⟨s, rfl⟩ := Int.eq_ofNat_of_zero_le x0
            rw [Int.toNat_natCast] at H1 H2
            have hand := i64_and_nat s left (by omega) (by omega)
            by_cases hzero : s &&& left = 0
            · have HE := Lib.hid (H1.out hzero)
              rw [hzero] at hand
              clear hzero H1 H2
              go_wp2_with fail
              go_ret2
              exact ⟨none, 0, 0, gRet (by rw [HB.out, HE.out]), by rw [HV.out, HE.out]; exact OwnI.nil_ _ _ _, below_drewN hb _⟩
            · have HE := Lib.hid (H2.out hzero)
              have hlt := andN_lt (left := left) (s := s) (by omega) (by omega) hzero
              have hnot := i64_andNot_nat left s (by omega) (by omega)
              have hm1 : (((s &&& left : Nat) : Int) == 0) = false := by rw [beq_eq_false_iff_ne]; omega
              clear hzero H1 H2
              generalize s &&& left = z at *
              have hsz := (below_drewN hb m).size
              generalize andN left s = l2 at *
              go_wp2_with (at_builtin; refine wp_append_int _ _ rfl _ _ _ rfl 2 w.heap.size Try.underlying26 info64 S q sc _ rfl (hown.drewN m) rfl (by omega) hsz ?_; intro g4 c4 w4 o4 u4 b4 hg4)
              go_roundg (f)
              case measure => rw [HR.out]; omega
              case rel => exact ⟨f, l2, q + 1, _, _, _, rfl, by omega, by omega, rfl, rfl, o4, (below_drewN hb m).trans b4, HE⟩
end Go.Proofs.Ytbdcnbnaammagaa
