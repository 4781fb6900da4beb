/- ExactCovers: the walks. -/
import Derived.Test.YtbdcnbnaammagaaExactPlain
namespace Go.Proofs.Ytbdcnbnaammagaa
open Go.RowKit

def exactV (a : Int) (zs : List Int) : Int := if (setsB a zs && !hasB zs 0) = true then (exactG (natL zs) (2 ^ a.toNat - 1) : Nat) else 0
def exactB (a : Int) (zs : List Int) : Bool := setsB a zs && !hasB zs 0

theorem l04Exact_any (A : Option Addr) (n c : Nat) (zs : List Int) (hn : n ≤ 16) (hz : ∀ k, k < zs.length → 0 ≤ zs.getD k 0 ∧ zs.getD k 0 ≤ 65535) :
    ∀ (k at_ left : Nat) (w : World), n = at_ + k → left ≤ 65535 → IntsAt w A n zs →
    Calls Try.prog 33 #[.slice A n c, .int .i64 at_, .int .i64 left] w fun e w' => e = .returned (.int .i64 (exactG ((natL zs).drop at_) left : Nat)) ∧ Drew w w' := by
  intro k
  induction k with
  | zero =>
    intro at_ left w hk hleft h
    have hl := h.len
    have hdrop : (natL zs).drop at_ = [] := List.drop_eq_nil_of_le (by rw [natL_len]; omega)
    have HD := Lib.hid hdrop
    clear hdrop
    have hat : ((at_ : Int) == (n : Int)) = true := by simp; omega
    have HK := Lib.hid hk
    clear hk hl
    by_cases h0 : left = 0
    · subst h0
      go_enter Try.func33, Try.ntmps33
      go_wp2_with fail
      go_ret
      exact ⟨ret_int (by rw [HD.out]; rfl), Drew.refl _⟩
    · have hb : ((left : Int) == 0) = false := by simp; omega
      have H0 := Lib.hid h0
      clear h0
      go_enter Try.func33, Try.ntmps33
      go_wp2_with fail
      go_ret
      exact ⟨ret_int (by rw [HD.out, exactG, if_neg H0.out]; rfl), Drew.refl _⟩
  | succ k ih =>
    intro at_ left w hk hleft h
    have hl := h.len
    have hlt : at_ < n := by omega
    have hdrop : (natL zs).drop at_ = (zs.getD at_ 0).toNat :: (natL zs).drop (at_ + 1) := by
      rw [← natL_get (by omega), List.drop_eq_getElem_cons (by rw [natL_len]; omega)]
      simp [List.getD, List.getElem?_eq_getElem (show at_ < (natL zs).length by rw [natL_len]; omega)]
    have hbd := hz at_ (by omega)
    have hg1 := exactG_le ((natL zs).drop (at_ + 1)) left
    have hlen : ((natL zs).drop (at_ + 1)).length ≤ 15 := by rw [List.length_drop, natL_len]; omega
    have hpw : 2 ^ ((natL zs).drop (at_ + 1)).length ≤ 2 ^ 15 := Nat.pow_le_pow_right (by omega) hlen
    by_cases h0 : left = 0
    · subst h0
      have HD := Lib.hid hdrop
      clear hdrop hl hlen hpw hg1 hbd
      go_enter Try.func33, Try.ntmps33
      go_wp2_with fail
      go_ret
      exact ⟨ret_int (by rw [HD.out]; rfl), Drew.refl _⟩
    · have hb : ((left : Int) == 0) = false := by simp; omega
      have hat : ((at_ : Int) == (n : Int)) = false := by rw [beq_eq_false_iff_ne]; omega
      have H0 := Lib.hid h0
      have HK := Lib.hid hk
      clear h0 hk
      obtain ⟨ad, rfl, _, hcell⟩ := h.at_ hlt
      obtain ⟨hb0, hb1⟩ := hbd
      generalize zs.getD at_ 0 = x at *
      obtain ⟨s, rfl⟩ := Int.eq_ofNat_of_zero_le hb0
      rw [Int.toNat_natCast] at hdrop
      have hand := i64_and_nat s left (by omega) (by omega)
      have hnot := i64_andNot_nat left s (by omega) (by omega)
      have hle := andN_le left s
      have hg2 := exactG_le ((natL zs).drop (at_ + 1)) (andN left s)
      have g1 : exactG ((natL zs).drop (at_ + 1)) left ≤ 32768 := by omega
      have g2 : exactG ((natL zs).drop (at_ + 1)) (andN left s) ≤ 32768 := by omega
      have HE := Lib.hid (show exactG ((natL zs).drop at_) left = exactG ((natL zs).drop (at_ + 1)) left + if s &&& left = s then exactG ((natL zs).drop (at_ + 1)) (andN left s) else 0 by rw [hdrop, exactG, if_neg H0.out])
      clear hdrop hg1 hg2 hlen hpw hl
      have IH := Lib.hid ih
      clear ih
      by_cases hs : s &&& left = s
      · have HE2 := Lib.hid (HE.out.trans (by rw [if_pos hs]))
        rw [hs] at hand
        have hbit : (bits .and .i64 (s : Int) (left : Int) == (s : Int)) = true := by rw [hand]; simp
        clear hs HE hand
        go_enter Try.func33, Try.ntmps33
        go_wp2_with fail
        have e1 : ((at_ : Int) + 1) = ((at_ + 1 : Nat) : Int) := by omega
        rw [e1]
        refine (IH.out (at_ + 1) left w (by have := HK.out; omega) hleft h).mono ?_
        rintro e w1 ⟨rfl, hd⟩
        have h1 := h.drewTo hd
        have hc1 : w1.cell? (ad.add at_) = some (.int .i64 s) := by obtain ⟨q, rfl⟩ := hd; exact hcell
        clear e1
        go_wp2_with fail
        go_quiet (fail)
        go_wp2_with fail
        have e1 : ((at_ : Int) + 1) = ((at_ + 1 : Nat) : Int) := by omega
        rw [e1]
        refine (IH.out (at_ + 1) (andN left s) _ (by have := HK.out; omega) (by omega) (h1.drewN _)).mono ?_
        rintro e w2 ⟨rfl, hd2⟩
        clear e1
        go_wp2_with fail
        go_ret
        exact ⟨ret_int (by rw [HE2.out]; simp), (hd.step _).trans hd2⟩
      · have HE2 := Lib.hid (HE.out.trans (by rw [if_neg hs]))
        have hbit : (bits .and .i64 (s : Int) (left : Int) == (s : Int)) = false := by
          rw [hand, beq_eq_false_iff_ne]
          intro e
          exact hs (by exact_mod_cast e)
        clear hs HE hand
        go_enter Try.func33, Try.ntmps33
        go_wp2_with fail
        have e1 : ((at_ : Int) + 1) = ((at_ + 1 : Nat) : Int) := by omega
        rw [e1]
        refine (IH.out (at_ + 1) left w (by have := HK.out; omega) hleft h).mono ?_
        rintro e w1 ⟨rfl, hd⟩
        have hc1 : w1.cell? (ad.add at_) = some (.int .i64 s) := by obtain ⟨q, rfl⟩ := hd; exact hcell
        clear e1
        go_wp2_with fail
        go_quiet (fail)
        go_wp2_with fail
        go_ret
        exact ⟨ret_int (by rw [HE2.out]; simp), hd.step _⟩

theorem exactV_no {a : Int} {zs : List Int} (h : exactB a zs = false) : exactV a zs = 0 := by
  unfold exactV; unfold exactB at h; rw [if_neg (by rw [h]; decide)]
theorem exactV_yes {a : Int} {zs : List Int} (h : exactB a zs = true) : exactV a zs = (exactG (natL zs) (2 ^ a.toNat - 1) : Nat) := by
  unfold exactV; unfold exactB at h; rw [if_pos h]
set_option maxHeartbeats 800000 in
theorem specExactCovers_r (a : Int) (A : Option Addr) (n c : Nat) (zs : List Int) (w : World) (h : IntsAt w A n zs) (hl : n ≤ 1048576) :
    Calls Try.prog 19 #[.int .i64 a, .slice A n c] w (RetV (.tuple #[.int .i64 (exactV a zs), .bool (exactB a zs)]) w) := by
  have HL := Lib.hid h.len
  cases hs : setsB a zs
  · have HB := Lib.hid (show exactB a zs = false by unfold exactB; rw [hs]; rfl)
    go_enter Try.func19, Try.ntmps19
    go_wp2_with (go_at_call 32; refine (l04Sets_any _ _ _ _ zs _ h hl).mono ?_; rintro e w' ⟨rfl, rfl⟩)
    go_ret2
    exact ⟨ret_IB (exactV_no HB.out).symm HB.out.symm, Below.refl _ _⟩
  · have hbd := setsB_bd hs
    have HS := Lib.hid hs
    go_enter Try.func19, Try.ntmps19
    go_wp2_with (go_at_call 32; refine (l04Sets_any _ _ _ _ zs _ h hl).mono ?_; rintro e w' ⟨rfl, rfl⟩)
    clear hs
    go_loop [6] (fun i => ∃ k : Nat, k ≤ n ∧ i = .int .i64 k ∧ Hid (hasB (zs.take k) 0 = false)) (fun i => n - (intOf i).toNat)
    case atStart => exact ⟨0, Nat.zero_le _, rfl, Lib.hid (by simp [hasB])⟩
    case round =>
      obtain ⟨k, hk, rfl, hall⟩ := hrel
      by_cases hlt : k < n
      · obtain ⟨ad, rfl, _, hcell⟩ := h.at_ hlt
        clear hbd
        generalize hx : zs.getD k 0 = x at *
        have HX := Lib.hid hx
        clear hx
        by_cases h0 : x = 0
        · have HB := Lib.hid (show exactB a zs = false by unfold exactB; rw [HS.out, ← h0, hasB_stop HL.out hlt HX.out]; rfl)
          have hb : (x == 0) = true := by simpa using h0
          clear h0
          go_wp2
          go_ret2
          exact ⟨ret_IB (exactV_no HB.out).symm HB.out.symm, Below.refl _ _⟩
        · have H0 := Lib.hid h0
          have hb : (x == 0) = false := by simpa using h0
          clear h0
          go_wp2
          go_round
          case rel => exact ⟨k + 1, by omega, by go_num, Lib.hid (hasB_step HL.out hlt HX.out hall.out H0.out)⟩
          case measure => simp [intOf]; omega
      · have HB := Lib.hid (show exactB a zs = true by unfold exactB; rw [HS.out, hasB_done HL.out hlt hall.out]; rfl)
        obtain ⟨b1, b2, b3, b4, b5⟩ := hbd
        have B5 := Lib.hid b5
        clear b5
        have b4' : n ≤ 16 := by rw [← HL.out]; exact b4
        have hpw := pow_bd a (by omega) (by omega)
        clear b3 b4
        go_wp2_with fail
        have e0 : (0 : Int) = ((0 : Nat) : Int) := rfl
        rw [e0, ← pow_nat a]
        have hp := Nat.pow_le_pow_right (n := 2) (by omega) (show a.toNat ≤ 16 by omega)
        refine (l04Exact_any A n c zs b4' (fun k hk => ⟨(B5.out k hk).1, (B5.out k hk).2.1⟩) n 0 (2 ^ a.toNat - 1) _ (by omega) (by omega) h).mono ?_
        rintro e w1 ⟨rfl, hd⟩
        clear e0 hp hpw
        have HV := Lib.hid (exactV_yes HB.out)
        go_wp2_with fail
        go_ret2
        exact ⟨ret_IB (by rw [HV.out]) HB.out.symm, hd.below⟩

theorem takeD_snoc (ss : List Nat) (D : List Int) (j : Nat) (st : Nat × Bool) (hj : j < D.length) : takeD ss (D.take (j + 1)) st = takeS (takeD ss (D.take j) st) (ss.getD (D.getD j 0).toNat 0) := by
  rw [List.take_succ_eq_append_getElem hj, takeD, List.foldl_append, takeD]
  simp [List.getD, List.getElem?_eq_getElem hj]
set_option maxHeartbeats 1600000 in
theorem implExactCovers_r (a : Int) (A : Option Addr) (n c : Nat) (zs : List Int) (w : World) (h : IntsAt w A n zs) (hl : n ≤ 1048576) :
    Calls Try.prog 15 #[.int .i64 a, .slice A n c] w (RetV (.tuple #[.int .i64 (exactV a zs), .bool (exactB a zs)]) w) := by
  have HL := Lib.hid h.len
  cases hs : setsB a zs
  · have HB := Lib.hid (show exactB a zs = false by unfold exactB; rw [hs]; rfl)
    go_enter Try.func15, Try.ntmps15
    go_wp2_with (go_at_call 11; refine (implAreSets_any _ _ _ _ zs _ h hl).mono ?_; rintro e w' ⟨rfl, rfl⟩)
    go_ret2
    exact ⟨ret_IB (exactV_no HB.out).symm HB.out.symm, Below.refl _ _⟩
  · cases hz : hasB zs 0
    · have HB := Lib.hid (show exactB a zs = true by unfold exactB; rw [hs, hz]; rfl)
      obtain ⟨b1, b2, b3, b4, b5⟩ := setsB_bd hs
      have B5 := Lib.hid b5
      have HZ := Lib.hid (hasB_not.1 hz)
      rw [h.len] at b3 b4
      have hpw := pow_bd a (by omega) (by omega)
      have hpn := pow_bd (n : Int) (by omega) (by omega)
      rw [Int.toNat_natCast] at hpn
      have hp16 : (2 : Int) ^ n ≤ 65536 := by
        have := Nat.pow_le_pow_right (n := 2) (by omega) b4
        have e : ((2 ^ n : Nat) : Int) = (2 : Int) ^ n := by exact_mod_cast rfl
        rw [← e]; omega
      have HP := Lib.hid (show ((2 ^ n : Nat) : Int) = (2 : Int) ^ n by exact_mod_cast rfl)
      clear b5
      have HV := Lib.hid (show exactV a zs = (cntM (natL zs) (2 ^ a.toNat - 1) (2 ^ n) : Nat) by
        rw [exactV_yes HB.out, ← exact_eq (natL zs) a.toNat (by omega) (fun s hs => by
          obtain ⟨z, hz1, rfl⟩ := List.mem_map.1 hs
          obtain ⟨k, hk, rfl⟩ := List.mem_iff_getElem.1 hz1
          have h1 := B5.out k hk
          have h2 : zs.getD k 0 = zs[k] := by simp [List.getD, List.getElem?_eq_getElem hk]
          rw [h2] at h1
          have h3 : zs[k] ≠ 0 := fun e => HZ.out (by rw [← e]; exact List.getElem_mem hk)
          have h4 := pow_nat a
          have h5 := Nat.two_pow_pos a.toNat
          omega), natL_len, HL.out])
      go_enter Try.func15, Try.ntmps15
      go_wp2_with (first | (go_at_call 11; refine (implAreSets_any _ _ _ _ zs _ h hl).mono ?_; rintro e w' ⟨rfl, rfl⟩) | (go_at_call 31; refine (has_any _ _ _ zs _ _ h hl).mono ?_; rintro e w' ⟨rfl, rfl⟩))
      clear hs hz
      go_loopg [6, 7] (2 ^ n) (fun r cv i wr => ∃ k : Nat, r = 2 ^ n - k ∧ k ≤ 2 ^ n ∧ i = .int .i64 k ∧ cv = .int .i64 (cntM (natL zs) (2 ^ a.toNat - 1) k : Nat) ∧ Below w.heap.size w wr)
      case atStart => exact ⟨0, rfl, Nat.zero_le _, rfl, rfl, Below.refl _ _⟩
      case round =>
        obtain ⟨k, hr, hk, rfl, rfl, hb⟩ := hrel
        have HR := Lib.hid hr
        clear hr
        have hcle := cntM_le (natL zs) (2 ^ a.toNat - 1) k
        have hcs := cntM_succ (natL zs) (2 ^ a.toNat - 1) k
        by_cases hlt : k < 2 ^ n
        · have hlt' : (k : Int) < (2 : Int) ^ n := by rw [← HP.out]; omega
          rw [← takeD_eq (natL zs) k _ (by rw [natL_len, HL.out]; exact hlt) (by rw [natL_len, HL.out]; omega)] at hcs
          have HCS := Lib.hid hcs
          have HD := Lib.hid (digitsOf_at k n hlt (by omega))
          have hk16 : (k : Int) ≤ 65536 := by omega
          have hkN : k < 4611686018427387904 := by omega
          clear hcs
          generalize cntM (natL zs) (2 ^ a.toNat - 1) k = cv at *
          go_wp2_with fail
          refine (digits_any k _ hkN).mono ?_
          generalize digitsOf k = D at *
          rintro e w1 ⟨A1, m, c1, rfl, o1, b1⟩
          have hm := o1.len
          have HM := Lib.hid hm
          have hmle : m ≤ 9223372036854775807 := o1.le
          have hb1 := below_ext hb hb.size b1
          have h1 := h.below hb1
          have hD := o1.ints
          clear hm b1 hb
          go_wp2_with fail
          go_loop [8, 9, 30] (fun hv ev j => ∃ (q : Nat), q ≤ m ∧ j = .int .i64 q ∧ hv = .int .i64 ((takeD (natL zs) (D.take q) (0, true)).1 : Nat) ∧ ev = .bool (takeD (natL zs) (D.take q) (0, true)).2 ∧ (takeD (natL zs) (D.take q) (0, true)).1 ≤ 65535) (fun _ _ j => m - (intOf j).toNat)
          case atStart => exact ⟨0, by omega, rfl, rfl, rfl, by simp [takeD]⟩
          case round =>
            obtain ⟨q, hq, rfl, rfl, rfl, hle⟩ := hrel
            by_cases hql : q < m
            · obtain ⟨bd, e1, _, hcD⟩ := hD.at_ hql
              obtain ⟨i, hi1, hi2⟩ := HD.out q (by rw [HM.out]; exact hql)
              have HTS := Lib.hid (takeD_snoc (natL zs) D q (0, true) (by rw [HM.out]; exact hql))
              rw [hi1] at hcD
              obtain ⟨ad, e2, _, hcS⟩ := h1.at_ hi2
              have hx := B5.out i (by rw [HL.out]; exact hi2)
              have HN := Lib.hid (natL_get (zs := zs) (k := i) (by rw [HL.out]; exact hi2))
              have HI := Lib.hid hi1
              clear hi1
              subst e1 e2
              obtain ⟨x0, x1, _⟩ := hx
              generalize hy : zs.getD i 0 = y at *
              obtain ⟨s, rfl⟩ := Int.eq_ofNat_of_zero_le x0
              clear hy
              have HST : takeD (natL zs) (D.take (q + 1)) (0, true) = takeS (takeD (natL zs) (D.take q) (0, true)) s := by rw [HTS.out, HI.out, Int.toNat_natCast, HN.out, Int.toNat_natCast]
              have HST' := Lib.hid HST
              clear HST
              generalize takeD (natL zs) (D.take q) (0, true) = st at *
              obtain ⟨hv, ev⟩ := st
              have hor := i64_or_nat hv s (by omega) (by omega)
              have hole : hv ||| s < 2 ^ 16 := Nat.or_lt_two_pow (by omega) (by omega)
              have hand := i64_and_nat hv s (by omega) (by omega)
              cases hd : (hv &&& s == 0)
              · have hbit : (bits .and .i64 (hv : Int) (s : Int) == 0) = false := by
                  rw [hand, beq_eq_false_iff_ne]
                  rw [beq_eq_false_iff_ne] at hd
                  omega
                clear hand
                cases ev
                all_goals
                  go_wp2
                  go_round
                  case rel => exact ⟨q + 1, by omega, by go_num, by rw [HST'.out]; rfl, by rw [HST'.out, takeS]; simp [hd], by rw [HST'.out]; show hv ||| s ≤ 65535; omega⟩
                  case measure => simp [intOf]; omega
              · have hbit : (bits .and .i64 (hv : Int) (s : Int) == 0) = true := by
                  rw [hand, beq_iff_eq]
                  rw [beq_iff_eq] at hd
                  omega
                clear hand
                cases ev
                all_goals
                  go_wp2
                  go_round
                  case rel => exact ⟨q + 1, by omega, by go_num, by rw [HST'.out]; rfl, by rw [HST'.out, takeS]; simp [hd], by rw [HST'.out]; show hv ||| s ≤ 65535; omega⟩
                  case measure => simp [intOf]; omega
            · have ht : D.take q = D := List.take_of_length_le (by rw [HM.out]; omega)
              rw [ht]
              clear ht hle
              generalize takeD (natL zs) D (0, true) = st at *
              obtain ⟨hv, ev⟩ := st
              cases ev
              · go_wp2
                go_roundg (2 ^ n - (k + 1))
                case measure => rw [HR.out]; omega
                case rel => exact ⟨k + 1, rfl, by omega, by go_num, by rw [HCS.out]; rfl, hb1⟩
              · by_cases hf : hv = 2 ^ a.toNat - 1
                · have hfb : ((hv : Int) == 2 ^ a.toNat - 1) = true := by rw [beq_iff_eq, ← pow_nat, hf]
                  have HF := Lib.hid hf
                  clear hf
                  go_wp2
                  go_roundg (2 ^ n - (k + 1))
                  case measure => rw [HR.out]; omega
                  case rel => exact ⟨k + 1, rfl, by omega, by go_num, by rw [HCS.out]; simp [okM, HF.out], hb1⟩
                · have hfb : ((hv : Int) == 2 ^ a.toNat - 1) = false := by
                    rw [beq_eq_false_iff_ne, ← pow_nat]
                    intro e
                    exact hf (by exact_mod_cast e)
                  have HF := Lib.hid hf
                  clear hf
                  go_wp2
                  go_roundg (2 ^ n - (k + 1))
                  case measure => rw [HR.out]; omega
                  case rel => exact ⟨k + 1, rfl, by omega, by go_num, by rw [HCS.out]; simp [okM, HF.out], hb1⟩
        · have hge : ¬ (k : Int) < (2 : Int) ^ n := by rw [← HP.out]; omega
          have e : k = 2 ^ n := by omega
          subst e
          have HV' := HV.out
          have HVV := Lib.hid HV'
          clear HV' hcs hcle
          go_wp2
          go_ret2
          exact ⟨ret_IB HVV.out.symm HB.out.symm, hb⟩
    · have HB := Lib.hid (show exactB a zs = false by unfold exactB; rw [hs, hz]; rfl)
      go_enter Try.func15, Try.ntmps15
      go_wp2_with (first | (go_at_call 11; refine (implAreSets_any _ _ _ _ zs _ h hl).mono ?_; rintro e w' ⟨rfl, rfl⟩) | (go_at_call 31; refine (has_any _ _ _ zs _ _ h hl).mono ?_; rintro e w' ⟨rfl, rfl⟩))
      go_ret2
      exact ⟨ret_IB (exactV_no HB.out).symm HB.out.symm, Below.refl _ _⟩
end Go.Proofs.Ytbdcnbnaammagaa
