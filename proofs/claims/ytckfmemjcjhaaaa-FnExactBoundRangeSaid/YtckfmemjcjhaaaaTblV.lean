/- When a table is valid: the program (printed by gen_tbl.py). -/
import Derived.Test.YtckfmemjcjhaaaaTbl
namespace Go.Proofs.Ytckfmemjcjhaaaa
open Go.RowKit

theorem ints_takeT {w : World} {A : Option Addr} {n : Nat} {zs : List Int} (h : IntsAt w A n zs) {k : Nat} (hk : k ≤ n) : IntsAt w A k (zs.take k) := by
  refine ⟨by rw [List.length_take, h.len]; omega, fun hp => ?_⟩
  obtain ⟨ad, h1, h2, h3⟩ := h.2 (by omega)
  refine ⟨ad, h1, h2, fun j hj => ?_⟩
  rw [h3 j (by omega)]
  simp [List.getD, List.getElem?_take, hj]
set_option maxRecDepth 100000 in
set_option maxHeartbeats 1000000 in
theorem vt_mis (V : Nat) (A : Option Addr) (n c : Nat) (B : Option Addr) (m d : Nat) (w : World) (h1 : inB (V : Int) 1 8 = true) (h2 : inB (m : Int) 1 8 = true) (Wd P : Nat)
    (hwc : ∀ w, Calls Try.prog 71 #[.agg #[.int .i64 V, .slice A n c, .slice B m d]] w (RetV (.int .i64 (Wd : Int)) w)) (hmul : (Wd : Int) * ((m : Int) + 1) = (P : Int)) (hP64 : P ≤ 153) (hn2 : ((n : Int) != (P : Int)) = true) :
    Calls Try.prog 38 #[.agg #[.int .i64 V, .slice A n c, .slice B m d]] w (RetV (.bool false) w) := by
  have hW : Below w.heap.size w (w.alloc (.cells #[.int .i64 V, .slice A n c, .slice B m d] 27)) := (Below.refl _ _).alloc (Nat.le_refl _) _
  have KX := Lib.hid (Blk.new w 27 #[.int .i64 V, .slice A n c, .slice B m d])
  have hwr : IntKind.i64.wrap (P : Int) = (P : Int) := IntWalk.i64_in _ (by omega)
  obtain ⟨m0, m1⟩ := inB_iff.1 h2
  have hwr2 : IntKind.i64.wrap ((m : Int) + 1) = (m : Int) + 1 := IntWalk.i64_in _ (by omega)
  have HWC := Lib.hid hwc
  clear hwc
  go_enter Try.func38, Try.ntmps38
  go_wp2_with fail
  generalize w.alloc (.cells #[.int .i64 V, .slice A n c, .slice B m d] 27) = W at *
  have HKC := Lib.hid (fun (W' : World) (hW : Below W.heap.size W W') => (show W'.cell? ⟨w.heap.size, 0, none⟩ = some (.int .i64 V) ∧ W'.cell? ⟨w.heap.size, 1, none⟩ = some (.slice A n c) ∧ W'.cell? ⟨w.heap.size, 2, none⟩ = some (.slice B m d) from ⟨(KX.out.ext hW).cell 0, (KX.out.ext hW).cell 1, (KX.out.ext hW).cell 2⟩))
  have hwi1 := Lib.hid (fun w => (within_any (V : Int) 1 8 w))
  have hwi2 := Lib.hid (fun w => (within_any (m : Int) 1 8 w))
  rw [h1] at hwi1
  rw [h2] at hwi2
  refine wp_region_quiet (C := fun w' => Below W.heap.size W w') (by kernel_rfl) (by kernel_rfl) (Below.drew (Below.refl W.heap.size W)) ?_
  repeat (
    refine wpQuiet_step (fun K hK => ?_)
    first
      | (rw [if_pos (by rfl)]
         apply Exists.intro
         refine ⟨fun w5 hC => ?_, hK _ ?_⟩
         · (obtain ⟨p0, p1, p2⟩ := HKC.out w5 hC
            unfold Oper.quietAt Oper.quietUpon
            go_simp
            first
              | exact rfl
              | exact ⟨rfl, rfl⟩
              | (go_at_call 70; exact (size_any _ _).mono fun e w6 ⟨h1, h2⟩ => ⟨h1, by rw [← h2]; exact hC⟩)
              | (go_at_call_of 69 (V : Int); exact (hwi1.out _).mono fun e w6 ⟨h1, h2⟩ => ⟨h1, by rw [← h2]; exact hC⟩)
              | (go_at_call_of 69 (m : Int); exact (hwi2.out _).mono fun e w6 ⟨h1, h2⟩ => ⟨h1, by rw [← h2]; exact hC⟩)
              | (go_at_call 71; exact (HWC.out _).mono fun e w6 ⟨h1, h2⟩ => ⟨h1, below_ext hC hC.size h2⟩))
         clear hK K
         try simp only [Act.put, List.setIfInBounds_toArray, List.set_cons_zero, List.set_cons_succ])
      | (go_simp
         refine hK _ ?_
         clear hK K))
  refine wpQuiet_nil ?_
  intro w9 h9
  go_wp2_with fail
  go_ret
  exact ⟨rfl, below_ext hW hW.size h9⟩
set_option maxRecDepth 100000 in
set_option maxHeartbeats 1000000 in
theorem validTable_r (v : Int) (A : Option Addr) (n c : Nat) (ns : List Nat) (B : Option Addr) (m d : Nat) (bs : List Int) (w : World) (hN : FltsAt w A n ns) (hB : IntsAt w B m bs) (hn : n ≤ maxLen) (hm : m ≤ maxLen) (hcap : m ≤ d ∧ d ≤ maxLen) :
    Calls Try.prog 38 #[.agg #[.int .i64 v, .slice A n c, .slice B m d]] w (RetV (.bool (tblB v ns bs)) w) := by
  have HLN := Lib.hid hN.len
  have HLB := Lib.hid hB.len
  have hW : Below w.heap.size w (w.alloc (.cells #[.int .i64 v, .slice A n c, .slice B m d] 27)) := (Below.refl _ _).alloc (Nat.le_refl _) _
  have KX := Lib.hid (Blk.new w 27 #[.int .i64 v, .slice A n c, .slice B m d])
  have HN := Lib.hid (hN.below hW)
  have HB := Lib.hid (hB.below hW)
  have HR := Lib.hid (show tblB v ns bs = (tshB v n m && (allFin ns && basOk (v + m - 1) bs)) by unfold tblB; rw [HLN.out, HLB.out])
  clear hN hB
  cases h1 : inB v 1 8
  · have HF := Lib.hid (show tblB v ns bs = false by rw [HR.out]; unfold tshB; rw [h1]; rfl)
    go_enter Try.func38, Try.ntmps38
    go_wp2_with fail
    generalize w.alloc (.cells #[.int .i64 v, .slice A n c, .slice B m d] 27) = W at *
    have p0 := KX.out.cell 0
    have p1 := KX.out.cell 1
    have p2 := KX.out.cell 2
    have QA := Lib.hid (fun q => by have := within_qF v 1 8 W q; rw [h1] at this; exact this)
    go_quiet ((go_at_call 69; exact QA.out _))
    go_wp2_with fail
    go_ret
    exact ⟨ret_bool HF.out.symm, below_drewN hW _⟩
  · obtain ⟨v0, v1⟩ := inB_iff.1 h1
    obtain ⟨V, rfl⟩ := Int.eq_ofNat_of_zero_le (show 0 ≤ v by omega)
    cases h2 : inB (m : Int) 1 8
    · have HF := Lib.hid (show tblB V ns bs = false by rw [HR.out]; unfold tshB; rw [h1, h2]; rfl)
      go_enter Try.func38, Try.ntmps38
      go_wp2_with fail
      generalize w.alloc (.cells #[.int .i64 V, .slice A n c, .slice B m d] 27) = W at *
      have p0 := KX.out.cell 0
      have p1 := KX.out.cell 1
      have p2 := KX.out.cell 2
      have QA := Lib.hid (fun q => by have := within_qF V 1 8 W q; rw [h1] at this; exact this)
      have QB := Lib.hid (fun q => by have := within_qF m 1 8 W q; rw [h2] at this; exact this)
      go_quiet ((first | (go_at_call 70; exact size_qF _ _ _) | (go_at_call_of 69 (V : Int); exact QA.out _) | (go_at_call_of 69 (m : Int); exact QB.out _)))
      go_wp2_with fail
      go_ret
      exact ⟨ret_bool HF.out.symm, below_drewN hW _⟩
    · obtain ⟨m0, m1⟩ := inB_iff.1 h2
      have HWC := Lib.hid (fun w => wide_any V A n c B m d w (by omega) (by omega))
      obtain ⟨Wd, hWd⟩ : ∃ Wd : Nat, V + m + 1 = Wd := ⟨_, rfl⟩
      have HWD := Lib.hid hWd
      rw [hWd] at HWC
      obtain ⟨P, hP⟩ : ∃ P : Nat, Wd * (m + 1) = P := ⟨_, rfl⟩
      have HP := Lib.hid hP
      have hmul : (Wd : Int) * ((m : Int) + 1) = (P : Int) := by rw [← hP]; push_cast; rfl
      have hP64 : P ≤ 153 := by rw [← hP]; exact Nat.mul_le_mul (show Wd ≤ 17 by omega) (show m + 1 ≤ 9 by omega)
      have hwr : IntKind.i64.wrap (P : Int) = (P : Int) := IntWalk.i64_in _ (by omega)
      have hwr2 : IntKind.i64.wrap ((m : Int) + 1) = (m : Int) + 1 := IntWalk.i64_in _ (by omega)
      have HSH := Lib.hid (show tshB V n m = decide ((n : Int) = P) by unfold tshB; rw [h1, h2, ← hmul, ← hWd]; push_cast; simp)
      clear hP hWd
      by_cases h4 : n = P
      · have HR2 := Lib.hid (show tblB V ns bs = (allFin ns && basOk ((V : Int) + m - 1) bs) by rw [HR.out, HSH.out, decide_eq_true (by rw [h4]), Bool.true_and])
        have hn2 : ((n : Int) != (P : Int)) = false := by rw [h4]; simp
        clear h4
        cases f1 : allFin ns
        · have HF := Lib.hid (show tblB V ns bs = false by rw [HR2.out, f1, Bool.false_and])
          go_enter Try.func38, Try.ntmps38
          go_wp2_with fail
          generalize w.alloc (.cells #[.int .i64 V, .slice A n c, .slice B m d] 27) = W at *
          have HKC := Lib.hid (fun (W' : World) (hW : Below W.heap.size W W') => (show W'.cell? ⟨w.heap.size, 0, none⟩ = some (.int .i64 V) ∧ W'.cell? ⟨w.heap.size, 1, none⟩ = some (.slice A n c) ∧ W'.cell? ⟨w.heap.size, 2, none⟩ = some (.slice B m d) from ⟨(KX.out.ext hW).cell 0, (KX.out.ext hW).cell 1, (KX.out.ext hW).cell 2⟩))
          obtain ⟨k0, k1, k2⟩ := HKC.out _ (Below.drew (Below.refl W.heap.size W))
          obtain ⟨p0, p1, p2⟩ := HKC.out _ (Below.refl W.heap.size W)
          go_region_held3 (fun w' => w'.cell? ⟨w.heap.size, 0, none⟩ = some (.int .i64 V) ∧ w'.cell? ⟨w.heap.size, 1, none⟩ = some (.slice A n c) ∧ w'.cell? ⟨w.heap.size, 2, none⟩ = some (.slice B m d))
            (first | exact ⟨by assumption, by assumption, by assumption⟩)
            (first
              | (go_at_call_of 69 (V : Int); refine (within_any (V : Int) 1 8 _).mono ?_; rw [h1]; rintro e w5 ⟨rfl, rfl⟩)
              | (go_at_call_of 69 (m : Int); refine (within_any (m : Int) 1 8 _).mono ?_; rw [h2]; rintro e w5 ⟨rfl, rfl⟩)
              | (go_at_call 70; refine (size_any _ _).mono ?_; rintro e w5 ⟨rfl, rfl⟩)
              | (go_at_call 71; refine (HWC.out _).mono ?_; rintro e w7 ⟨rfl, b⟩; obtain ⟨q0, q1, q2⟩ := HKC.out w7 (ext_trans (Below.drew (Below.refl W.heap.size W)) b); have HB7 := Lib.hid (ext_trans (Below.drew (Below.refl W.heap.size W)) b); clear b)
              | (go_at_call 72; refine (areFinite_any A n c ns _ (HN.out.below HB7.out) hn).mono ?_; rw [f1]; rintro e w8 ⟨rfl, hd⟩; obtain ⟨q3, q4, q5⟩ := HKC.out w8 (ext_trans HB7.out hd.below); have HB8 := Lib.hid (ext_trans HB7.out hd.below); clear hd))
          all_goals
            go_wp2_with fail
            go_ret
            exact ⟨ret_bool HF.out.symm, below_ext hW hW.size HB8.out⟩
        · have HF := Lib.hid (show tblB V ns bs = basOk ((V : Int) + m - 1) bs by rw [HR2.out, f1, Bool.true_and])
          go_enter Try.func38, Try.ntmps38
          go_wp2_with fail
          generalize w.alloc (.cells #[.int .i64 V, .slice A n c, .slice B m d] 27) = W at *
          have HKC := Lib.hid (fun (W' : World) (hW : Below W.heap.size W W') => (show W'.cell? ⟨w.heap.size, 0, none⟩ = some (.int .i64 V) ∧ W'.cell? ⟨w.heap.size, 1, none⟩ = some (.slice A n c) ∧ W'.cell? ⟨w.heap.size, 2, none⟩ = some (.slice B m d) from ⟨(KX.out.ext hW).cell 0, (KX.out.ext hW).cell 1, (KX.out.ext hW).cell 2⟩))
          obtain ⟨k0, k1, k2⟩ := HKC.out _ (Below.drew (Below.refl W.heap.size W))
          obtain ⟨p0, p1, p2⟩ := HKC.out _ (Below.refl W.heap.size W)
          go_region_held3 (fun w' => w'.cell? ⟨w.heap.size, 0, none⟩ = some (.int .i64 V) ∧ w'.cell? ⟨w.heap.size, 1, none⟩ = some (.slice A n c) ∧ w'.cell? ⟨w.heap.size, 2, none⟩ = some (.slice B m d))
            (first | exact ⟨by assumption, by assumption, by assumption⟩)
            (first
              | (go_at_call_of 69 (V : Int); refine (within_any (V : Int) 1 8 _).mono ?_; rw [h1]; rintro e w5 ⟨rfl, rfl⟩)
              | (go_at_call_of 69 (m : Int); refine (within_any (m : Int) 1 8 _).mono ?_; rw [h2]; rintro e w5 ⟨rfl, rfl⟩)
              | (go_at_call 70; refine (size_any _ _).mono ?_; rintro e w5 ⟨rfl, rfl⟩)
              | (go_at_call 71; refine (HWC.out _).mono ?_; rintro e w7 ⟨rfl, b⟩; obtain ⟨q0, q1, q2⟩ := HKC.out w7 (ext_trans (Below.drew (Below.refl W.heap.size W)) b); have HB7 := Lib.hid (ext_trans (Below.drew (Below.refl W.heap.size W)) b); clear b)
              | (go_at_call 72; refine (areFinite_any A n c ns _ (HN.out.below HB7.out) hn).mono ?_; rw [f1]; rintro e w8 ⟨rfl, hd⟩; obtain ⟨q3, q4, q5⟩ := HKC.out w8 (ext_trans HB7.out hd.below); have HB8 := Lib.hid (ext_trans HB7.out hd.below); clear hd))
          clear k0 k1 k2 p0 p1 p2 q0 q1 q2 q3 q4 q5
          have p2 := (HKC.out _ HB8.out).2.2
          go_wp2_with fail
          clear p2
          go_loopg [39] m (fun r iv wi => ∃ k : Nat, r = m - k ∧ k ≤ m ∧ iv = .int .i64 k ∧ Hid (basUp ((V : Int) + m - 1) bs k = true) ∧ Below W.heap.size W wi)
          case atStart => exact ⟨0, rfl, Nat.zero_le _, rfl, Lib.hid (by simp [basUp]), HB8.out⟩
          case round =>
            obtain ⟨k, hr, hk, rfl, hall, hbi⟩ := hrel
            have HRK := Lib.hid hr
            clear hr HB8 HB7
            have hB2 := HB.out.below hbi
            by_cases hlt : k < m
            · have hlt' : (k : Int) < (m : Int) := by omega
              have hBk := ints_takeT hB2 (k := k) (by omega)
              obtain ⟨ad, hB0, _, hcell⟩ := hB2.at_ hlt
              have hB0' := hB0
              subst hB0'
              have HIS := Lib.hid (basUp_succ ((V : Int) + m - 1) bs k)
              have HNO := Lib.hid (fun h => basUp_no ((V : Int) + m - 1) bs hlt h)
              generalize bs.getD k 0 = x at *
              have HIC := Lib.hid (fun w => isColumn_any x V A n c (some ad) m d w (by omega) (by omega))
              have HBI := Lib.hid hbi
              have HBK := Lib.hid hBk
              obtain ⟨p0, p1, p2⟩ := HKC.out _ hbi
              clear hbi hBk hB2
              cases hin : inB x 0 ((V : Int) + m - 1)
              · rw [hin] at HIC
                have HFF := Lib.hid (show tblB V ns bs = false by rw [HF.out]; unfold basOk; rw [HLB.out]; exact HNO.out (by rw [hin]; rfl))
                go_wp2_with fail
                refine (HIC.out _).mono ?_
                rintro e w9 ⟨rfl, b9⟩
                go_wp2_with fail
                go_ret
                exact ⟨ret_bool HFF.out.symm, below_ext hW hW.size (below_ext HBI.out HBI.out.size b9)⟩
              · rw [hin] at HIC
                cases hha : hasB (bs.take k) x
                · go_wp2_with fail
                  refine (HIC.out _).mono ?_
                  rintro e w9 ⟨rfl, b9⟩
                  have HB9 := Lib.hid (below_ext HBI.out HBI.out.size b9)
                  obtain ⟨r0, r1, r2⟩ := HKC.out _ HB9.out
                  have hbk9 := HBK.out.below b9
                  have HBK9 := Lib.hid hbk9
                  clear b9 hbk9 p0 p1 p2
                  go_wp2_with fail
                  refine (has_any (some ad) k _ (bs.take k) x _ HBK9.out (by omega)).mono ?_
                  rw [hha]
                  rintro e w10 ⟨rfl, rfl⟩
                  go_wp2_with fail
                  go_roundg (m - (k + 1))
                  case measure => rw [HRK.out]; omega
                  case rel => exact ⟨k + 1, rfl, by omega, by go_num, Lib.hid (by rw [HIS.out, hall.out, hin, hha]; rfl), HB9.out⟩
                · have HFF := Lib.hid (show tblB V ns bs = false by rw [HF.out]; unfold basOk; rw [HLB.out]; exact HNO.out (by rw [hin, hha]; rfl))
                  go_wp2_with fail
                  refine (HIC.out _).mono ?_
                  rintro e w9 ⟨rfl, b9⟩
                  have HB9 := Lib.hid (below_ext HBI.out HBI.out.size b9)
                  obtain ⟨r0, r1, r2⟩ := HKC.out _ HB9.out
                  have hbk9 := HBK.out.below b9
                  have HBK9 := Lib.hid hbk9
                  clear b9 hbk9 p0 p1 p2
                  go_wp2_with fail
                  refine (has_any (some ad) k _ (bs.take k) x _ HBK9.out (by omega)).mono ?_
                  rw [hha]
                  rintro e w10 ⟨rfl, rfl⟩
                  go_wp2_with fail
                  go_ret
                  exact ⟨ret_bool HFF.out.symm, below_ext hW hW.size HB9.out⟩
            · have e : k = m := by omega
              have HAL := Lib.hid (show tblB V ns bs = true by rw [HF.out]; unfold basOk; rw [HLB.out]; have h2 := hall.out; rw [e] at h2; exact h2)
              clear e
              go_wp2_with fail
              go_ret
              exact ⟨ret_bool HAL.out.symm, below_ext hW hW.size hbi⟩
      · have hn2 : ((n : Int) != (P : Int)) = true := by rw [bne_iff_ne]; omega
        have hf : tblB V ns bs = false := by rw [HR.out, HSH.out, decide_eq_false (by omega)]; rfl
        rw [hf]
        exact vt_mis V A n c B m d w h1 h2 Wd P HWC.out hmul hP64 hn2
end Go.Proofs.Ytckfmemjcjhaaaa
