/- Rows of conditions: when they are valid. -/
import Derived.Test.YtbbcddbdinmaaaaFltFn
namespace Go.Proofs.Ytbbcddbdinmaaaa
open Go.RowKit

theorem within_qF (n lo hi : Int) (w : World) (m : Nat) :
    Calls Try.prog 81 #[.int .i64 n, .int .i64 lo, .int .i64 hi] (w.drewN m) fun e w'' => e = .returned (.bool (inB n lo hi)) ∧ ∃ q, w'' = w.drewN q := quiet_here (within_any n lo hi _)
theorem size_qF (n : Int) (w : World) (m : Nat) :
    Calls Try.prog 82 #[.int .i64 n] (w.drewN m) fun e w'' => e = .returned (.int .i64 n) ∧ ∃ q, w'' = w.drewN q := quiet_here (size_any n _)
theorem l00In_qF (n lo hi : Int) (w : World) (m : Nat) :
    Calls Try.prog 37 #[.int .i64 n, .int .i64 lo, .int .i64 hi] (w.drewN m) fun e w'' => e = .returned (.bool (inB n lo hi)) ∧ ∃ q, w'' = w.drewN q := quiet_here (l00In_any n lo hi _)
theorem order_num {k : FloatKind} {a b : Nat} (ha : nanK k a = false) (hb : nanK k b = false) : ∃ o, k.format.order a b = some o := by
  unfold nanK at ha hb
  unfold Ieee.Format.order
  generalize k.format.read a = d at *
  generalize k.format.read b = e at *
  cases d <;> cases e <;> simp [Ieee.Datum.isNaN] at ha hb <;> simp [Ieee.Datum.order]
theorem fin_some {x : Option Nat} (h : finO x = true) : ∃ a, x = some a := by
  cases x with
  | none => cases h
  | some a => exact ⟨a, rfl⟩
def ltZ (x : Option Nat) : Bool := ford .f32 x (some 0) == some .lt
theorem ford_zero {b : Nat} (h : finO (absK .f32 b) = true) : ∃ o, ford .f32 (absK .f32 b) (some 0) = some o := by
  obtain ⟨a, ha⟩ := fin_some h
  obtain ⟨_, hn⟩ := absK_some ha
  have h0 : nanK .f32 0 = false := (absK_some abs0).2
  obtain ⟨o, ho⟩ := order_num hn h0
  exact ⟨o, by rw [← abs0, ← ford_abs]; exact ho⟩
theorem least_iff {b : Nat} (h : finO (absK .f32 b) = true) : leastO (absK .f32 b) = !ltZ (absK .f32 b) := by
  obtain ⟨o, ho⟩ := ford_zero h
  unfold leastO ltZ
  rw [h, ho]
  cases o <;> rfl
theorem least_fin {x : Option Nat} (h : leastO x = true) : finO x = true := by
  unfold leastO at h
  rw [Bool.and_eq_true] at h
  exact h.1
theorem all_least {bs : List Nat} (h : allFin bs = true) (h2 : bs.all (fun b => !ltZ (absK .f32 b)) = true) : bs.all (fun b => leastO (absK .f32 b)) = true := by
  rw [List.all_eq_true] at *
  unfold allFin at h
  rw [List.all_eq_true] at h
  intro b hb
  rw [least_iff (h b hb)]
  exact h2 b hb
theorem least_all {bs : List Nat} (h : allFin bs = false) : bs.all (fun b => leastO (absK .f32 b)) = false := by
  cases h2 : bs.all (fun b => leastO (absK .f32 b))
  · rfl
  · rw [List.all_eq_true] at h2
    have : allFin bs = true := by
      unfold allFin
      rw [List.all_eq_true]
      exact fun b hb => least_fin (h2 b hb)
    rw [this] at h; cases h
theorem least_lt {bs : List Nat} {b : Nat} (hb : b ∈ bs) (h : ltZ (absK .f32 b) = true) : bs.all (fun b => leastO (absK .f32 b)) = false := by
  cases h2 : bs.all (fun b => leastO (absK .f32 b))
  · rfl
  · rw [List.all_eq_true] at h2
    have h3 := h2 b hb
    rw [least_iff (least_fin h3), h] at h3
    cases h3
def shapeB (v : Int) (nn nb ng : Nat) : Bool := inB v 1 8 && (inB nb 1 8 && (decide ((ng : Int) = v) && decide ((nn : Int) = v * nb)))
def rowsB (v : Int) (ns bs gs : List Nat) : Bool := shapeB v ns.length bs.length gs.length && (allFin ns && (allFin gs && bs.all (fun b => leastO (absK .f32 b))))
theorem mem_getD {bs : List Nat} {k : Nat} (h : k < bs.length) : bs.getD k 0 ∈ bs := by
  simp [List.getD, List.getElem?_eq_getElem h]

set_option maxRecDepth 100000 in
set_option maxHeartbeats 1000000 in
theorem validRows_r (v : Int) (A : Option Addr) (n c : Nat) (ns : List Nat) (B : Option Addr) (m d : Nat) (bs : List Nat) (G : Option Addr) (p g : Nat) (gs : List Nat) (w : World) (hN : FltsAt w A n ns) (hB : FltsAt w B m bs) (hG : FltsAt w G p gs) (hn : n ≤ maxLen) (hm : m ≤ maxLen) (hp : p ≤ maxLen) :
    Calls Try.prog 75 #[.agg #[.int .i64 v, .slice A n c, .slice B m d, .slice G p g]] w (RetV (.bool (rowsB v ns bs gs)) w) := by
  have HN := Lib.hid hN.len
  have HBL := Lib.hid hB.len
  have HG := Lib.hid hG.len
  have hW : Below w.heap.size w (w.alloc (.cells #[.int .i64 v, .slice A n c, .slice B m d, .slice G p g] 43)) := (Below.refl _ _).alloc (Nat.le_refl _) _
  have hN2 := hN.alloc (.cells #[.int .i64 v, .slice A n c, .slice B m d, .slice G p g] 43)
  have hB2 := hB.alloc (.cells #[.int .i64 v, .slice A n c, .slice B m d, .slice G p g] 43)
  have hG2 := hG.alloc (.cells #[.int .i64 v, .slice A n c, .slice B m d, .slice G p g] 43)
  have KX := Lib.hid (Blk.new w 43 #[.int .i64 v, .slice A n c, .slice B m d, .slice G p g])
  have p0 := KX.out.cell 0
  have p1 := KX.out.cell 1
  have p2 := KX.out.cell 2
  have p3 := KX.out.cell 3
  have HR := Lib.hid (show rowsB v ns bs gs = (shapeB v n m p && (allFin ns && (allFin gs && bs.all (fun b => leastO (absK .f32 b))))) by unfold rowsB; rw [HN.out, HBL.out, HG.out])
  clear hN hB hG
  cases h1 : inB v 1 8
  · have HF := Lib.hid (show rowsB v ns bs gs = false by rw [HR.out]; unfold shapeB; rw [h1]; rfl)
    go_enter Try.func75, Try.ntmps75
    go_wp2_with fail
    generalize w.alloc (.cells #[.int .i64 v, .slice A n c, .slice B m d, .slice G p g] 43) = W at *
    have QA := Lib.hid (fun q => by have := within_qF v 1 8 W q; rw [h1] at this; exact this)
    go_quiet ((go_at_call 81; exact QA.out _))
    go_wp2_with fail
    go_ret
    exact ⟨ret_bool HF.out.symm, below_drewN hW _⟩
  · obtain ⟨v0, v1⟩ := inB_iff.1 h1
    obtain ⟨V, rfl⟩ := Int.eq_ofNat_of_zero_le (show 0 ≤ v by omega)
    cases h2 : inB (m : Int) 1 8
    · have HF := Lib.hid (show rowsB V ns bs gs = false by rw [HR.out]; unfold shapeB; rw [h1, h2]; rfl)
      go_enter Try.func75, Try.ntmps75
      go_wp2_with fail
      generalize w.alloc (.cells #[.int .i64 V, .slice A n c, .slice B m d, .slice G p g] 43) = W at *
      have QA := Lib.hid (fun q => by have := within_qF V 1 8 W q; rw [h1] at this; exact this)
      have QB := Lib.hid (fun q => by have := within_qF m 1 8 W q; rw [h2] at this; exact this)
      go_quiet ((first | (go_at_call 82; exact size_qF _ _ _) | (go_at_call_of 81 (V : Int); exact QA.out _) | (go_at_call_of 81 (m : Int); exact QB.out _)))
      go_wp2_with fail
      go_ret
      exact ⟨ret_bool HF.out.symm, below_drewN hW _⟩
    · obtain ⟨m0, m1⟩ := inB_iff.1 h2
      by_cases h3 : (p : Int) = (V : Int)
      · have hp2 : ((p : Int) != (V : Int)) = false := by rw [h3]; simp
        obtain ⟨P, hP⟩ : ∃ P : Nat, V * m = P := ⟨_, rfl⟩
        have hmul : (V : Int) * (m : Int) = (P : Int) := by rw [← hP]; push_cast; rfl
        have hP64 : P ≤ 64 := by rw [← hP]; exact Nat.mul_le_mul (show V ≤ 8 by omega) (show m ≤ 8 by omega)
        have hwr : IntKind.i64.wrap (P : Int) = (P : Int) := IntWalk.i64_in _ (by omega)
        by_cases h4 : n = P
        · have hs : shapeB V n m p = true := by unfold shapeB; rw [h1, h2, decide_eq_true h3, decide_eq_true (by rw [hmul, h4])]; rfl
          have HR2 := Lib.hid (show rowsB V ns bs gs = (allFin ns && (allFin gs && bs.all (fun b => leastO (absK .f32 b)))) by rw [HR.out, hs, Bool.true_and])
          have hn2 : ((n : Int) != (P : Int)) = false := by rw [h4]; simp
          clear hs hP h4 h3 HR
          go_enter Try.func75, Try.ntmps75
          go_wp2_with fail
          generalize w.alloc (.cells #[.int .i64 V, .slice A n c, .slice B m d, .slice G p g] 43) = W at *
          have QA := Lib.hid (fun q => by have := within_qF V 1 8 W q; rw [h1] at this; exact this)
          have QB := Lib.hid (fun q => by have := within_qF m 1 8 W q; rw [h2] at this; exact this)
          go_quiet ((first | (go_at_call 82; exact size_qF _ _ _) | (go_at_call_of 81 (V : Int); exact QA.out _) | (go_at_call_of 81 (m : Int); exact QB.out _)))
          have hN3 := hN2.drewN nq
          have hB3 := hB2.drewN nq
          have hG3 := hG2.drewN nq
          have KX3 := Lib.hid (KX.out.drewN nq)
          have hW3 := below_drewN hW nq
          clear p0 p1 p2 p3 hN2 hB2 hG2 hW KX
          generalize W.drewN nq = W3 at *
          have p2 := KX3.out.cell 2
          go_wp2_with fail
          clear p2
          go_loopg [43] m (fun r iv wi => ∃ k : Nat, r = m - k ∧ k ≤ m ∧ iv = .int .i64 k ∧ Hid ((bs.take k).all (fun b => !ltZ (absK .f32 b)) = true) ∧ wi = W3)
          case atStart => exact ⟨0, rfl, Nat.zero_le _, rfl, Lib.hid (by simp), rfl⟩
          case round =>
            obtain ⟨k, hr, hk, rfl, hall, rfl⟩ := hrel
            have HRK := Lib.hid hr
            clear hr
            by_cases hlt : k < m
            · have hlt' : (k : Int) < (m : Int) := by omega
              obtain ⟨ad, rfl, _, hcell⟩ := hB3.at_ hlt
              have HS := Lib.hid (all_take_succ (fun b => !ltZ (absK .f32 b)) bs k 0 (by rw [HBL.out]; exact hlt))
              have HME := Lib.hid (mem_getD (bs := bs) (k := k) (by rw [HBL.out]; exact hlt))
              generalize bs.getD k 0 = b at *
              have HO := Lib.hid (show (FloatKind.f32.format.order b 0 == some .lt) = ltZ (absK .f32 b) by unfold ltZ; rw [ford_abs, abs0])
              cases hlz : ltZ (absK .f32 b)
              · have d1 : (FloatKind.f32.format.order b 0 == some .lt) = false := by rw [HO.out]; exact hlz
                go_wp2_with fail
                go_roundg (m - (k + 1))
                case measure => rw [HRK.out]; omega
                case rel => exact ⟨k + 1, rfl, by omega, by go_num, Lib.hid (by rw [HS.out, hall.out, hlz]; rfl), rfl⟩
              · have d1 : (FloatKind.f32.format.order b 0 == some .lt) = true := by rw [HO.out]; exact hlz
                have HF := Lib.hid (show rowsB V ns bs gs = false by rw [HR2.out, least_lt HME.out hlz, Bool.and_false, Bool.and_false])
                go_wp2_with fail
                go_ret
                exact ⟨ret_bool HF.out.symm, hW3⟩
            · have HAL := Lib.hid (show bs.all (fun b => !ltZ (absK .f32 b)) = true by have := hall.out; rw [List.take_of_length_le (by rw [HBL.out]; omega)] at this; exact this)
              have HK := KX3
              have q2 := HK.out.cell 2
              cases f1 : allFin bs
              · have HF := Lib.hid (show rowsB V ns bs gs = false by rw [HR2.out, least_all f1, Bool.and_false, Bool.and_false])
                go_wp2_with fail
                refine (areFinite_any B m d bs _ hB3 hm).mono ?_
                rw [f1]
                rintro e w1 ⟨rfl, hd1⟩
                go_wp2_with fail
                go_ret
                exact ⟨ret_bool HF.out.symm, below_ext hW3 hW3.size hd1.below⟩
              · have HL := Lib.hid (all_least f1 HAL.out)
                cases f2 : allFin gs
                · have HF := Lib.hid (show rowsB V ns bs gs = false by rw [HR2.out, f2, Bool.false_and, Bool.and_false])
                  go_wp2_with fail
                  refine (areFinite_any B m d bs _ hB3 hm).mono ?_
                  rw [f1]
                  rintro e w1 ⟨rfl, hd1⟩
                  have q3 := (HK.out.ext hd1.below).cell 3
                  go_wp2_with fail
                  refine (areFinite_any G p g gs _ (hG3.below hd1.below) hp).mono ?_
                  rw [f2]
                  rintro e w2 ⟨rfl, hd2⟩
                  go_wp2_with fail
                  go_ret
                  exact ⟨ret_bool HF.out.symm, below_ext hW3 hW3.size (hd1.trans hd2).below⟩
                · have HF := Lib.hid (show rowsB V ns bs gs = allFin ns by rw [HR2.out, f2, HL.out, Bool.true_and, Bool.and_true])
                  go_wp2_with fail
                  refine (areFinite_any B m d bs _ hB3 hm).mono ?_
                  rw [f1]
                  rintro e w1 ⟨rfl, hd1⟩
                  have q3 := (HK.out.ext hd1.below).cell 3
                  go_wp2_with fail
                  refine (areFinite_any G p g gs _ (hG3.below hd1.below) hp).mono ?_
                  rw [f2]
                  rintro e w2 ⟨rfl, hd2⟩
                  have hd12 := hd1.trans hd2
                  have q1 := (HK.out.ext hd12.below).cell 1
                  go_wp2_with fail
                  refine (areFinite_any A n c ns _ (hN3.below hd12.below) hn).mono ?_
                  rintro e w3 ⟨rfl, hd3⟩
                  go_wp2_with fail
                  go_ret
                  exact ⟨ret_bool HF.out.symm, below_ext hW3 hW3.size (hd12.trans hd3).below⟩
        · have HF := Lib.hid (show rowsB V ns bs gs = false by rw [HR.out]; unfold shapeB; rw [h1, h2, decide_eq_true h3, decide_eq_false (show ¬ (n : Int) = (V : Int) * m by rw [hmul]; omega)]; rfl)
          have hn2 : ((n : Int) != (P : Int)) = true := by rw [bne_iff_ne]; omega
          clear hP h4 h3 HR
          go_enter Try.func75, Try.ntmps75
          go_wp2_with fail
          generalize w.alloc (.cells #[.int .i64 V, .slice A n c, .slice B m d, .slice G p g] 43) = W at *
          have QA := Lib.hid (fun q => by have := within_qF V 1 8 W q; rw [h1] at this; exact this)
          have QB := Lib.hid (fun q => by have := within_qF m 1 8 W q; rw [h2] at this; exact this)
          go_quiet ((first | (go_at_call 82; exact size_qF _ _ _) | (go_at_call_of 81 (V : Int); exact QA.out _) | (go_at_call_of 81 (m : Int); exact QB.out _)))
          go_wp2_with fail
          go_ret
          exact ⟨ret_bool HF.out.symm, below_drewN hW _⟩
      · have HF := Lib.hid (show rowsB V ns bs gs = false by rw [HR.out]; unfold shapeB; rw [h1, h2, decide_eq_false h3]; rfl)
        have hp2 : ((p : Int) != (V : Int)) = true := by rw [bne_iff_ne]; exact h3
        clear h3
        go_enter Try.func75, Try.ntmps75
        go_wp2_with fail
        generalize w.alloc (.cells #[.int .i64 V, .slice A n c, .slice B m d, .slice G p g] 43) = W at *
        have QA := Lib.hid (fun q => by have := within_qF V 1 8 W q; rw [h1] at this; exact this)
        have QB := Lib.hid (fun q => by have := within_qF m 1 8 W q; rw [h2] at this; exact this)
        go_quiet ((first | (go_at_call 82; exact size_qF _ _ _) | (go_at_call_of 81 (V : Int); exact QA.out _) | (go_at_call_of 81 (m : Int); exact QB.out _)))
        go_wp2_with fail
        go_ret
        exact ⟨ret_bool HF.out.symm, below_drewN hW _⟩
set_option maxRecDepth 100000 in
set_option maxHeartbeats 1000000 in
theorem l02Is_any (gr : Nat) (v : Int) (A : Option Addr) (n c : Nat) (ns : List Nat) (B : Option Addr) (m d : Nat) (bs : List Nat) (G : Option Addr) (p g : Nat) (gs : List Nat) (w : World) (KX : Blk w gr 43 #[.int .i64 v, .slice A n c, .slice B m d, .slice G p g]) (hN : FltsAt w A n ns) (hB : FltsAt w B m bs) (hG : FltsAt w G p gs) (hn : n ≤ maxLen) (hm : m ≤ maxLen) (hp : p ≤ maxLen) :
    Calls Try.prog 71 #[.pointer (some ⟨gr, 0, none⟩)] w fun e w' => e = .returned (.bool (rowsB v ns bs gs)) ∧ Drew w w' := by
  have HN := Lib.hid hN.len
  have HBL := Lib.hid hB.len
  have HG := Lib.hid hG.len
  have HKX := Lib.hid KX
  have p0 := KX.cell 0
  have p1 := KX.cell 1
  have p2 := KX.cell 2
  have p3 := KX.cell 3
  have HR := Lib.hid (show rowsB v ns bs gs = (shapeB v n m p && (allFin ns && (allFin gs && bs.all (fun b => leastO (absK .f32 b))))) by unfold rowsB; rw [HN.out, HBL.out, HG.out])
  clear KX
  cases h1 : inB v 1 8
  · have HF := Lib.hid (show rowsB v ns bs gs = false by rw [HR.out]; unfold shapeB; rw [h1]; rfl)
    have QA := Lib.hid (fun q => by have := l00In_qF v 1 8 w q; rw [h1] at this; exact this)
    go_enter Try.func71, Try.ntmps71
    go_wp2_with fail
    go_quiet ((go_at_call 37; exact QA.out _))
    go_wp2_with fail
    go_ret
    exact ⟨ret_bool HF.out.symm, (Drew.refl _).step _⟩
  · have QA := Lib.hid (fun q => by have := l00In_qF v 1 8 w q; rw [h1] at this; exact this)
    obtain ⟨v0, v1⟩ := inB_iff.1 h1
    obtain ⟨V, rfl⟩ := Int.eq_ofNat_of_zero_le (show 0 ≤ v by omega)
    by_cases hm1 : (m : Int) < 1
    · have HF := Lib.hid (show rowsB V ns bs gs = false by rw [HR.out]; unfold shapeB; rw [show inB (m : Int) 1 8 = false from inB_not.2 (.inl hm1)]; simp)
      go_enter Try.func71, Try.ntmps71
      go_wp2_with fail
      go_quiet ((go_at_call 37; exact QA.out _))
      go_wp2_with fail
      go_ret
      exact ⟨ret_bool HF.out.symm, (Drew.refl _).step _⟩
    · have d1 : decide ((m : Int) < 1) = false := decide_eq_false hm1
      by_cases hm8 : (m : Int) > 8
      · have d2 : decide ((m : Int) > 8) = true := decide_eq_true hm8
        have d3 : decide (8 < (m : Int)) = true := decide_eq_true hm8
        have HF := Lib.hid (show rowsB V ns bs gs = false by rw [HR.out]; unfold shapeB; rw [show inB (m : Int) 1 8 = false from inB_not.2 (.inr hm8)]; simp)
        go_enter Try.func71, Try.ntmps71
        go_wp2_with fail
        go_quiet ((go_at_call 37; exact QA.out _))
        go_wp2_with fail
        go_ret
        exact ⟨ret_bool HF.out.symm, (Drew.refl _).step _⟩
      · have h2 : inB (m : Int) 1 8 = true := inB_iff.2 ⟨by omega, by omega⟩
        have d2 : decide ((m : Int) > 8) = false := decide_eq_false hm8
        have d3 : decide (8 < (m : Int)) = false := decide_eq_false hm8
        by_cases h3 : (p : Int) = (V : Int)
        · have hp2 : ((p : Int) != (V : Int)) = false := by rw [h3]; simp
          obtain ⟨P, hP⟩ : ∃ P : Nat, V * m = P := ⟨_, rfl⟩
          have hmul : (V : Int) * (m : Int) = (P : Int) := by rw [← hP]; push_cast; rfl
          have hP64 : P ≤ 64 := by rw [← hP]; exact Nat.mul_le_mul (show V ≤ 8 by omega) (show m ≤ 8 by omega)
          have hwr : IntKind.i64.wrap (P : Int) = (P : Int) := IntWalk.i64_in _ (by omega)
          have HH3 := Lib.hid h3
          clear h3
          by_cases h4 : n = P
          · have hs : shapeB V n m p = true := by unfold shapeB; rw [h1, h2, decide_eq_true HH3.out, decide_eq_true (by rw [hmul, h4])]; rfl
            have HR2 := Lib.hid (show rowsB V ns bs gs = (allFin ns && (allFin gs && bs.all (fun b => leastO (absK .f32 b)))) by rw [HR.out, hs, Bool.true_and])
            have hn2 : ((n : Int) != (P : Int)) = false := by rw [h4]; simp
            clear hs hP h4 HR
            go_enter Try.func71, Try.ntmps71
            go_wp2_with fail
            go_quiet ((go_at_call 37; exact QA.out _))
            have hN3 := hN.drewN nq
            have hB3 := hB.drewN nq
            have hG3 := hG.drewN nq
            have KX3 := Lib.hid (HKX.out.drewN nq)
            have hd3 : Drew w (w.drewN nq) := ⟨nq, rfl⟩
            clear p0 p1 p2 p3 hN hB hG HKX QA
            generalize w.drewN nq = W3 at *
            have p0 := KX3.out.cell 0
            have p1 := KX3.out.cell 1
            have p2 := KX3.out.cell 2
            have p3 := KX3.out.cell 3
            have QN := Lib.hid (fun q => quiet_drew (l02Finite_any A n c ns (W3.drewN q) (hN3.drewN q) hn))
            have QG := Lib.hid (fun q => quiet_drew (l02Finite_any G p g gs (W3.drewN q) (hG3.drewN q) hp))
            cases f1 : allFin ns
            · rw [f1] at QN
              have HF := Lib.hid (show rowsB V ns bs gs = false by rw [HR2.out, f1, Bool.false_and])
              go_wp2_with fail
              go_quiet ((first | (go_at_call 37; exact QA.out _) | (go_at_call_of 86 (Value.slice A n c); exact QN.out _) | (go_at_call_of 86 (Value.slice G p g); exact QG.out _)))
              go_wp2_with fail
              go_ret
              exact ⟨ret_bool HF.out.symm, hd3.step _⟩
            · cases f2 : allFin gs
              · rw [f1] at QN
                rw [f2] at QG
                have HF := Lib.hid (show rowsB V ns bs gs = false by rw [HR2.out, f2, Bool.false_and, Bool.and_false])
                go_wp2_with fail
                go_quiet ((first | (go_at_call 37; exact QA.out _) | (go_at_call_of 86 (Value.slice A n c); exact QN.out _) | (go_at_call_of 86 (Value.slice G p g); exact QG.out _)))
                go_wp2_with fail
                go_ret
                exact ⟨ret_bool HF.out.symm, hd3.step _⟩
              · rw [f1] at QN
                rw [f2] at QG
                have HF := Lib.hid (show rowsB V ns bs gs = bs.all (fun b => leastO (absK .f32 b)) by rw [HR2.out, f1, f2, Bool.true_and, Bool.true_and])
                go_wp2_with fail
                go_quiet ((first | (go_at_call 37; exact QA.out _) | (go_at_call_of 86 (Value.slice A n c); exact QN.out _) | (go_at_call_of 86 (Value.slice G p g); exact QG.out _)))
                have hB4 := hB3.drewN nq
                have KX4 := Lib.hid (KX3.out.drewN nq)
                have hd4 := hd3.step nq
                clear p0 p1 p2 p3 hN3 hB3 hG3 KX3 QN QG hd3
                generalize W3.drewN nq = W4 at *
                go_wp2_with fail
                go_loopg [3] m (fun r iv wi => ∃ k : Nat, r = m - k ∧ k ≤ m ∧ iv = .int .i64 k ∧ Hid ((bs.take k).all (fun b => leastO (absK .f32 b)) = true) ∧ Drew W4 wi)
                case atStart => exact ⟨0, rfl, Nat.zero_le _, rfl, Lib.hid (by simp), Drew.refl _⟩
                case round =>
                  obtain ⟨k, hr, hk, rfl, hall, q, rfl⟩ := hrel
                  have HRK := Lib.hid hr
                  clear hr
                  have hB5 := hB4.drewN q
                  have KX5 := Lib.hid (KX4.out.drewN q)
                  have hd5 : Drew W4 (W4.drewN q) := ⟨q, rfl⟩
                  generalize W4.drewN q = W5 at *
                  have p2 := KX5.out.cell 2
                  by_cases hlt : k < m
                  · have hlt' : (k : Int) < (m : Int) := by omega
                    obtain ⟨ad, rfl, _, hcell⟩ := hB5.at_ hlt
                    have HS := Lib.hid (all_take_succ (fun b => leastO (absK .f32 b)) bs k 0 (by rw [HBL.out]; exact hlt))
                    have HFL := Lib.hid (all_false_of (fun b => leastO (absK .f32 b)) bs k 0 (by rw [HBL.out]; exact hlt))
                    generalize bs.getD k 0 = b at *
                    cases hl : leastO (absK .f32 b)
                    · go_wp2_with fail
                      refine (l02Least_any b _).mono ?_
                      rw [hl]
                      rintro e w1 ⟨rfl, hd6⟩
                      go_wp2_with fail
                      go_ret
                      exact ⟨ret_bool (by rw [HF.out]; exact (HFL.out hl).symm), (hd4.trans hd5).trans hd6⟩
                    · go_wp2_with fail
                      refine (l02Least_any b _).mono ?_
                      rw [hl]
                      rintro e w1 ⟨rfl, hd6⟩
                      go_wp2_with fail
                      go_roundg (m - (k + 1))
                      case measure => rw [HRK.out]; omega
                      case rel => exact ⟨k + 1, rfl, by omega, by go_num, Lib.hid (by rw [HS.out, hall.out, hl]; rfl), hd5.trans hd6⟩
                  · have HAL := Lib.hid (show bs.all (fun b => leastO (absK .f32 b)) = true by have := hall.out; rw [List.take_of_length_le (by rw [HBL.out]; omega)] at this; exact this)
                    go_wp2_with fail
                    go_ret
                    exact ⟨ret_bool (by rw [HF.out, HAL.out]), hd4.trans hd5⟩
          · have HF := Lib.hid (show rowsB V ns bs gs = false by rw [HR.out]; unfold shapeB; rw [h1, h2, decide_eq_true HH3.out, decide_eq_false (show ¬ (n : Int) = (V : Int) * m by rw [hmul]; omega)]; rfl)
            have hn2 : ((n : Int) != (P : Int)) = true := by rw [bne_iff_ne]; omega
            clear hP h4 HR
            go_enter Try.func71, Try.ntmps71
            go_wp2_with fail
            go_quiet ((go_at_call 37; exact QA.out _))
            have KX3 := Lib.hid (HKX.out.drewN nq)
            have hd3 : Drew w (w.drewN nq) := ⟨nq, rfl⟩
            clear p0 p1 p2 p3 HKX QA hN hB hG
            generalize w.drewN nq = W3 at *
            have p0 := KX3.out.cell 0
            have p1 := KX3.out.cell 1
            have p2 := KX3.out.cell 2
            go_wp2_with fail
            go_quiet (fail)
            go_wp2_with fail
            go_ret
            exact ⟨ret_bool HF.out.symm, hd3.step _⟩
        · have HF := Lib.hid (show rowsB V ns bs gs = false by rw [HR.out]; unfold shapeB; rw [h1, h2, decide_eq_false h3]; rfl)
          have hp2 : ((p : Int) != (V : Int)) = true := by rw [bne_iff_ne]; exact h3
          clear h3
          go_enter Try.func71, Try.ntmps71
          go_wp2_with fail
          go_quiet ((go_at_call 37; exact QA.out _))
          go_wp2_with fail
          go_ret
          exact ⟨ret_bool HF.out.symm, (Drew.refl _).step _⟩
end Go.Proofs.Ytbbcddbdinmaaaa
