/- The reference's small functions of tables. -/
import Derived.Test.YtckfmemjcjhaaaaPivPlain
import Derived.Test.YtckfmemjcjhaaaaTabPlain
namespace Go.Proofs.Ytckfmemjcjhaaaa
open Go.RowKit

theorem l02Wide_any (gr V : Nat) (A : Option Addr) (n c : Nat) (B : Option Addr) (m d : Nat) (w : World) (KX : Blk w gr 27 #[.int .i64 V, .slice A n c, .slice B m d]) (hV : V ≤ 8) (hm : m ≤ 8) :
    Calls Try.prog 60 #[.pointer (some ⟨gr, 0, none⟩)] w fun e w' => e = .returned (.int .i64 ((V + m + 1 : Nat) : Int)) ∧ Drew w w' := by
  have p0 := KX.cell 0
  have p2 := KX.cell 2
  clear KX
  go_enter Try.func60, Try.ntmps60
  go_wp2_with fail
  go_quiet (fail)
  go_wp2_with fail
  go_ret
  exact ⟨by show Ending.returned (Value.int .i64 _) = _; congr 2, (Drew.refl _).step _⟩
theorem l02Wide_q (gr V : Nat) (A : Option Addr) (n c : Nat) (B : Option Addr) (m d : Nat) (w : World) (KX : Blk w gr 27 #[.int .i64 V, .slice A n c, .slice B m d]) (hV : V ≤ 8) (hm : m ≤ 8) (q : Nat) :
    Calls Try.prog 60 #[.pointer (some ⟨gr, 0, none⟩)] (w.drewN q) fun e w'' => e = .returned (.int .i64 ((V + m + 1 : Nat) : Int)) ∧ ∃ j, w'' = w.drewN j :=
  quiet_drew (l02Wide_any gr V A n c B m d _ (KX.drewN q) hV hm)
set_option maxRecDepth 100000 in
set_option maxHeartbeats 1000000 in
theorem l02At_any (gr V : Nat) (A : Option Addr) (n c : Nat) (ns : List Nat) (B : Option Addr) (m d : Nat) (i k : Nat) (w : World) (KX : Blk w gr 27 #[.int .i64 V, .slice A n c, .slice B m d]) (hN : FltsAt w A n ns) (hV : V ≤ 8) (hm : m ≤ 8) (hn : n = (m + 1) * (V + m + 1)) (hi : i < m + 1) (hk : k < V + m + 1) :
    Calls Try.prog 56 #[.pointer (some ⟨gr, 0, none⟩), .int .i64 i, .int .i64 k] w fun e w' => e = .returned (.float .f32 (ns.getD (i * (V + m + 1) + k) 0)) ∧ Drew w w' := by
  have hlt0 : i * (V + m + 1) + k < n := by rw [hn]; exact cell_lt hi hk
  have hbd : n ≤ 153 := by rw [hn]; exact Nat.mul_le_mul (show m + 1 ≤ 9 by omega) (show V + m + 1 ≤ 17 by omega)
  have hwc := l02Wide_q gr V A n c B m d w KX hV hm
  obtain ⟨Wd, hWd⟩ : ∃ Wd : Nat, V + m + 1 = Wd := ⟨_, rfl⟩
  rw [hWd] at hwc hlt0 ⊢
  obtain ⟨P, hP⟩ : ∃ P : Nat, i * Wd = P := ⟨_, rfl⟩
  have hm1 : (i : Int) * (Wd : Int) = (P : Int) := by rw [← hP]; push_cast; rfl
  rw [hP] at hlt0 ⊢
  obtain ⟨J, hJ⟩ : ∃ J : Nat, P + k = J := ⟨_, rfl⟩
  have hm2 : (P : Int) + (k : Int) = (J : Int) := by omega
  rw [hJ] at hlt0 ⊢
  have hw1 : IntKind.i64.wrap (P : Int) = (P : Int) := IntWalk.i64_in _ (by omega)
  have hw2 : IntKind.i64.wrap (J : Int) = (J : Int) := IntWalk.i64_in _ (by omega)
  obtain ⟨ad, rfl, had, hcell⟩ := hN.at_ hlt0
  generalize hx : ns.getD J 0 = x at *
  have QW := Lib.hid hwc
  have p1 := KX.cell 1
  clear hP hn hN hx had hJ hWd hwc KX
  go_enter Try.func56, Try.ntmps56
  go_wp2_with fail
  go_quiet ((go_at_call 60; exact QW.out _))
  go_wp2_with fail
  go_ret
  exact ⟨rfl, (Drew.refl _).step _⟩
theorem l02At_q (gr V : Nat) (A : Option Addr) (n c : Nat) (ns : List Nat) (B : Option Addr) (m d : Nat) (i k : Nat) (w : World) (KX : Blk w gr 27 #[.int .i64 V, .slice A n c, .slice B m d]) (hN : FltsAt w A n ns) (hV : V ≤ 8) (hm : m ≤ 8) (hn : n = (m + 1) * (V + m + 1)) (hi : i < m + 1) (hk : k < V + m + 1) (q : Nat) :
    Calls Try.prog 56 #[.pointer (some ⟨gr, 0, none⟩), .int .i64 i, .int .i64 k] (w.drewN q) fun e w'' => e = .returned (.float .f32 (ns.getD (i * (V + m + 1) + k) 0)) ∧ ∃ j, w'' = w.drewN j :=
  quiet_drew (l02At_any gr V A n c ns B m d i k _ (KX.drewN q) (hN.drewN q) hV hm hn hi hk)
set_option maxRecDepth 100000 in
set_option maxHeartbeats 1000000 in
theorem l02Table_any (gr : Nat) (v : Int) (A : Option Addr) (n c : Nat) (ns : List Nat) (B : Option Addr) (m d : Nat) (bs : List Int) (w : World) (KX : Blk w gr 27 #[.int .i64 v, .slice A n c, .slice B m d]) (hN : FltsAt w A n ns) (hB : IntsAt w B m bs) (hn : n ≤ maxLen) (hm : m ≤ maxLen) :
    Calls Try.prog 45 #[.pointer (some ⟨gr, 0, none⟩)] w fun e w' => e = .returned (.bool (tblB v ns bs)) ∧ Drew w w' := by
  have HLN := Lib.hid hN.len
  have HLB := Lib.hid hB.len
  have HR := Lib.hid (show tblB v ns bs = (tshB v n m && (allFin ns && basOk (v + m - 1) bs)) by unfold tblB; rw [HLN.out, HLB.out])
  have HKX := Lib.hid KX
  have HN := Lib.hid hN
  have HB := Lib.hid hB
  have p0 := KX.cell 0
  have p1 := KX.cell 1
  have p2 := KX.cell 2
  have hm9 : m ≤ 9223372036854775807 := hm
  clear hN hB KX
  have QA := Lib.hid (fun q => l00In_qF v 1 8 w q)
  cases h1 : inB v 1 8
  · have HF := Lib.hid (show tblB v ns bs = false by rw [HR.out]; unfold tshB; rw [h1]; rfl)
    rw [h1] at QA
    go_enter Try.func45, Try.ntmps45
    go_wp2_with fail
    go_quiet ((go_at_call 34; exact QA.out _))
    go_wp2_with fail
    go_ret
    exact ⟨ret_bool HF.out.symm, (Drew.refl _).step _⟩
  · rw [h1] at QA
    obtain ⟨v0, v1⟩ := inB_iff.1 h1
    obtain ⟨V, rfl⟩ := Int.eq_ofNat_of_zero_le (show 0 ≤ v by omega)
    have QB := Lib.hid (fun q => l00In_qF (m : Int) 1 8 w q)
    cases h2 : inB (m : Int) 1 8
    · have HF := Lib.hid (show tblB V ns bs = false by rw [HR.out]; unfold tshB; rw [h1, h2]; rfl)
      rw [h2] at QB
      go_enter Try.func45, Try.ntmps45
      go_wp2_with fail
      go_quiet ((first | (go_at_call_of 34 (V : Int); exact QA.out _) | (go_at_call_of 34 (m : Int); exact QB.out _)))
      go_wp2_with fail
      go_ret
      exact ⟨ret_bool HF.out.symm, (Drew.refl _).step _⟩
    · rw [h2] at QB
      obtain ⟨m0, m1⟩ := inB_iff.1 h2
      have hwq := fun (w : World) KX q => l02Wide_q gr V A n c B m d w KX (by omega) (by omega) q
      obtain ⟨Wd, hWd⟩ : ∃ Wd : Nat, V + m + 1 = Wd := ⟨_, rfl⟩
      have HWD := Lib.hid hWd
      rw [hWd] at hwq
      have hwU : IntKind.i64.wrap ((V : Int) + m - 1) = (V : Int) + m - 1 := IntWalk.i64_in _ (by omega)
      have hw2' : (Wd : Int) - 2 = (V : Int) + m - 1 := by omega
      obtain ⟨P, hP⟩ : ∃ P : Nat, (m + 1) * Wd = P := ⟨_, rfl⟩
      have hmul : ((m : Int) + 1) * (Wd : Int) = (P : Int) := by rw [← hP]; push_cast; rfl
      have hP64 : P ≤ 153 := by rw [← hP]; exact Nat.mul_le_mul (show m + 1 ≤ 9 by omega) (show Wd ≤ 17 by omega)
      have hwr : IntKind.i64.wrap (P : Int) = (P : Int) := IntWalk.i64_in _ (by omega)
      have hwr2 : IntKind.i64.wrap ((m : Int) + 1) = (m : Int) + 1 := IntWalk.i64_in _ (by omega)
      have HSH := Lib.hid (show tshB V n m = decide ((n : Int) = P) by unfold tshB; rw [h1, h2, ← hmul, ← hWd]; push_cast; rw [Int.mul_comm]; simp)
      have QW := Lib.hid (hwq w HKX.out)
      have HWQ := Lib.hid hwq
      clear hP hWd hwq
      obtain ⟨U, hU⟩ : ∃ U : Int, (V : Int) + m - 1 = U := ⟨_, rfl⟩
      rw [hU] at HR hwU hw2'
      have HU := Lib.hid hU
      clear hU
      by_cases h4 : n = P
      · have HR2 := Lib.hid (show tblB V ns bs = (allFin ns && basOk U bs) by rw [HR.out, HSH.out, decide_eq_true (by rw [h4]), Bool.true_and])
        have hn2 : ((n : Int) != (P : Int)) = false := by rw [h4]; simp
        clear h4
        have QN := Lib.hid (fun q => quiet_drew (l02Finite_any A n c ns (w.drewN q) (HN.out.drewN q) hn))
        cases f1 : allFin ns
        · have HF := Lib.hid (show tblB V ns bs = false by rw [HR2.out, f1, Bool.false_and])
          rw [f1] at QN
          go_enter Try.func45, Try.ntmps45
          go_wp2_with fail
          go_quiet ((first | (go_at_call_of 34 (V : Int); exact QA.out _) | (go_at_call_of 34 (m : Int); exact QB.out _) | (go_at_call 60; exact QW.out _) | (go_at_call 74; exact QN.out _)))
          go_wp2_with fail
          go_ret
          exact ⟨ret_bool HF.out.symm, (Drew.refl _).step _⟩
        · have HF := Lib.hid (show tblB V ns bs = basOk U bs by rw [HR2.out, f1, Bool.true_and])
          rw [f1] at QN
          go_enter Try.func45, Try.ntmps45
          go_wp2_with fail
          go_quiet ((first | (go_at_call_of 34 (V : Int); exact QA.out _) | (go_at_call_of 34 (m : Int); exact QB.out _) | (go_at_call 60; exact QW.out _) | (go_at_call 74; exact QN.out _)))
          have hd0 : Drew w (w.drewN nq) := (Drew.refl _).step _
          have HK0 := Lib.hid (HKX.out.drewN nq)
          have HB0 := Lib.hid (HB.out.drewN nq)
          clear p0 p1 p2 QA QB QW QN HN HB HKX
          generalize w.drewN nq = W at *
          go_wp2_with fail
          go_loopg [4] m (fun r iv wi => ∃ k : Nat, r = m - k ∧ k ≤ m ∧ iv = .int .i64 k ∧ Hid (basUp U bs k = true) ∧ Drew W wi)
          case atStart => exact ⟨0, rfl, Nat.zero_le _, rfl, Lib.hid (by simp [basUp]), Drew.refl _⟩
          case round =>
            obtain ⟨k, hr, hk, rfl, hall, qi, rfl⟩ := hrel
            have HRK := Lib.hid hr
            clear hr
            have HBi := Lib.hid (HB0.out.drewN qi)
            have HKi := Lib.hid (HK0.out.drewN qi)
            have hdi : Drew W (W.drewN qi) := (Drew.refl _).step _
            generalize W.drewN qi = Wi at *
            by_cases hlt : k < m
            · have hlt' : (k : Int) < (m : Int) := by omega
              obtain ⟨ad, hB0, _, hcell⟩ := HBi.out.at_ hlt
              subst hB0
              have HIS := Lib.hid (basUp_succ U bs k)
              have HNO := Lib.hid (fun h => basUp_no U bs hlt h)
              have HSTEP := Lib.hid (fun j y (hj : j < k) (hy : bs.getD j 0 = y) (hall : hasB (bs.take j) (bs.getD k 0) = false) hne => hasB_step HLB.out (show j < m by omega) hy hall hne)
              have HMEM := Lib.hid (fun j (hj : j < k) (hy : bs.getD j 0 = bs.getD k 0) => show hasB (bs.take k) (bs.getD k 0) = true by
                rw [hasB_iff, ← hy]
                rw [List.mem_take_iff_getElem]
                exact ⟨j, by have := HLB.out; omega, by simp [List.getD, List.getElem?_eq_getElem (show j < bs.length by have := HLB.out; omega)]⟩)
              obtain ⟨x, hxe⟩ : ∃ x, bs.getD k 0 = x := ⟨_, rfl⟩
              have HXE := Lib.hid hxe
              rw [hxe] at hcell HIS HNO HSTEP HMEM
              clear hxe
              have QX := Lib.hid (fun q => l00In_qF x 0 U Wi q)
              have QW := Lib.hid (HWQ.out Wi HKi.out)
              have p2 := HKi.out.cell 2
              cases hin : inB x 0 U
              · rw [hin] at QX
                have HFF := Lib.hid (show tblB V ns bs = false by rw [HF.out]; unfold basOk; rw [HLB.out]; exact HNO.out (by rw [hin]; rfl))
                go_wp2_with fail
                go_quiet ((first | (go_at_call 34; exact QX.out _) | (go_at_call 60; exact QW.out _)))
                go_wp2_with fail
                go_ret
                exact ⟨ret_bool HFF.out.symm, hd0.trans (hdi.step _)⟩
              · rw [hin] at QX
                go_wp2_with fail
                go_quiet ((first | (go_at_call 34; exact QX.out _) | (go_at_call 60; exact QW.out _)))
                have HBj := Lib.hid (HBi.out.drewN nq)
                have HKj := Lib.hid (HKi.out.drewN nq)
                have hdj := hdi.step nq
                clear p2 hcell QX QW HBi HKi hdi
                generalize Wi.drewN nq = Wj at *
                go_wp2_with fail
                go_loopg [5] k (fun r jv wj => ∃ j : Nat, r = k - j ∧ j ≤ k ∧ jv = .int .i64 j ∧ Hid (hasB (bs.take j) x = false) ∧ Drew Wj wj)
                case atStart => exact ⟨0, rfl, Nat.zero_le _, rfl, Lib.hid (by simp [hasB]), Drew.refl _⟩
                case round =>
                  obtain ⟨j, hrj, hjk, rfl, hno, qj, rfl⟩ := hrel
                  have HRJ := Lib.hid hrj
                  clear hrj
                  have hB3 := HBj.out.drewN qj
                  have HK3 := Lib.hid (HKj.out.drewN qj)
                  have hd3 : Drew Wj (Wj.drewN qj) := (Drew.refl _).step _
                  generalize Wj.drewN qj = Wk at *
                  have p2 := HK3.out.cell 2
                  by_cases hjlt : j < k
                  · have hjlt' : (j : Int) < (k : Int) := by omega
                    have hjm' : (j : Int) < (m : Int) := by omega
                    obtain ⟨ad2, e2, _, hck⟩ := hB3.at_ hlt
                    injection e2 with e2
                    subst e2
                    obtain ⟨ad3, e3, _, hcj⟩ := hB3.at_ (k := j) (by omega)
                    injection e3 with e3
                    subst e3
                    have HM := Lib.hid (HMEM.out j hjlt)
                    have HS := Lib.hid (HSTEP.out j _ hjlt rfl hno.out)
                    generalize bs.getD j 0 = y at *
                    rw [HXE.out] at hck
                    by_cases hyx : y = x
                    · have hyx2 : (y == x) = true := by rw [hyx]; simp
                      have HFF := Lib.hid (show tblB V ns bs = false by rw [HF.out]; unfold basOk; rw [HLB.out]; exact HNO.out (by rw [HM.out hyx, Bool.not_true, Bool.and_false]))
                      clear hyx
                      go_wp2_with fail
                      go_quiet (fail)
                      go_wp2_with fail
                      go_ret
                      exact ⟨ret_bool HFF.out.symm, hd0.trans ((hdj.trans hd3).step _)⟩
                    · have hyx2 : (y == x) = false := by simpa using hyx
                      have HS2 := Lib.hid (HS.out hyx)
                      clear hyx
                      go_wp2_with fail
                      go_quiet (fail)
                      go_wp2_with fail
                      go_roundg (k - (j + 1))
                      case measure => rw [HRJ.out]; omega
                      case rel => exact ⟨j + 1, rfl, by omega, by go_num, HS2, hd3.step _⟩
                  · have e : j = k := by omega
                    have HNN := Lib.hid (show hasB (bs.take k) x = false by have h2 := hno.out; rw [e] at h2; exact h2)
                    clear e
                    go_wp2_with fail
                    go_roundg (m - (k + 1))
                    case measure => rw [HRK.out]; omega
                    case rel => exact ⟨k + 1, rfl, by omega, by go_num, Lib.hid (by rw [HIS.out, hall.out, hin, HNN.out]; rfl), hdj.trans hd3⟩
            · have e : k = m := by omega
              have HAL := Lib.hid (show tblB V ns bs = true by rw [HF.out]; unfold basOk; rw [HLB.out]; have h2 := hall.out; rw [e] at h2; exact h2)
              clear e
              go_wp2_with fail
              go_ret
              exact ⟨ret_bool HAL.out.symm, hd0.trans hdi⟩
      · have HF := Lib.hid (show tblB V ns bs = false by rw [HR.out, HSH.out, decide_eq_false (by omega)]; rfl)
        have hn2 : ((n : Int) != (P : Int)) = true := by rw [bne_iff_ne]; omega
        clear h4
        go_enter Try.func45, Try.ntmps45
        go_wp2_with fail
        go_quiet ((first | (go_at_call_of 34 (V : Int); exact QA.out _) | (go_at_call_of 34 (m : Int); exact QB.out _) | (go_at_call 60; exact QW.out _)))
        go_wp2_with fail
        go_ret
        exact ⟨ret_bool HF.out.symm, (Drew.refl _).step _⟩
end Go.Proofs.Ytckfmemjcjhaaaa
