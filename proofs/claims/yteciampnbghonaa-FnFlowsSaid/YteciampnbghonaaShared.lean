/- FlowsShared: the contracts. -/
import Derived.Test.YteciampnbghonaaGreat2
namespace Go.Proofs.Yteciampnbghonaa
open Go.RowKit

def sharedTo (nodes : Int) (xs : List ArcR) (f : Int) (ts : List Int) (k : Nat) : List Int := (ts.take k).map fun t => (greatP nodes xs f t).2
def endsTo (nodes : Int) (xs : List ArcR) (f : Int) (ts : List Int) (k : Nat) : Bool := (ts.take k).all fun t => endsB nodes xs f t
def sharedB (nodes : Int) (xs : List ArcR) (f : Int) (ts : List Int) (wk : Int) : Bool := (validB nodes xs && inB f 0 (nodes - 1)) && (decide (ts.length ≤ 16) && (inB wk 1 8 && endsTo nodes xs f ts ts.length))
def sharedV (nodes : Int) (xs : List ArcR) (f : Int) (ts : List Int) (wk : Int) : List Int := if sharedB nodes xs f ts wk = true then sharedTo nodes xs f ts ts.length else []
theorem sharedV_no {nodes : Int} {xs : List ArcR} {f : Int} {ts : List Int} {wk : Int} (h : sharedB nodes xs f ts wk = false) : sharedV nodes xs f ts wk = [] := by unfold sharedV; rw [if_neg (by rw [h]; decide)]
theorem sharedV_yes {nodes : Int} {xs : List ArcR} {f : Int} {ts : List Int} {wk : Int} (h : sharedB nodes xs f ts wk = true) : sharedV nodes xs f ts wk = sharedTo nodes xs f ts ts.length := by unfold sharedV; rw [if_pos h]
theorem sharedV_len (nodes : Int) (xs : List ArcR) (f : Int) (ts : List Int) (wk : Int) : (sharedV nodes xs f ts wk).length ≤ 1048576 := by
  cases h : sharedB nodes xs f ts wk
  · rw [sharedV_no h]; simp
  · rw [sharedV_yes h, sharedTo, List.take_length, List.length_map]
    simp only [sharedB, Bool.and_eq_true, decide_eq_true_eq] at h
    omega
theorem sharedTo_succ {nodes : Int} {xs : List ArcR} {f : Int} {ts : List Int} {k n : Nat} (hl : ts.length = n) (hk : k < n) : sharedTo nodes xs f ts (k + 1) = sharedTo nodes xs f ts k ++ [(greatP nodes xs f (ts.getD k 0)).2] := by
  unfold sharedTo
  rw [List.take_succ_eq_append_getElem (by omega), List.map_append]
  simp [List.getD, List.getElem?_eq_getElem (show k < ts.length by omega)]
theorem endsTo_succ {nodes : Int} {xs : List ArcR} {f : Int} {ts : List Int} {k n : Nat} (hl : ts.length = n) (hk : k < n) : endsTo nodes xs f ts (k + 1) = (endsTo nodes xs f ts k && endsB nodes xs f (ts.getD k 0)) := by
  unfold endsTo
  rw [all_take_succ _ ts k 0 (by omega)]
theorem endsTo_stop {nodes : Int} {xs : List ArcR} {f : Int} {ts : List Int} {k n : Nat} (hl : ts.length = n) (hk : k < n) (h : endsB nodes xs f (ts.getD k 0) = false) : endsTo nodes xs f ts ts.length = false := by
  unfold endsTo
  rw [List.take_length]
  exact all_false_of _ ts k 0 (by omega) h

theorem areWorkers_any (wk : Int) (w : World) :
    Calls Try.prog 52 #[.int .i64 wk] w fun e w' => e = .returned (.bool (inB wk 1 8)) ∧ w = w' := by
  go_enter Try.func52, Try.ntmps52
  go_wp2_with (go_at_call 53; refine (within_any _ _ _ _).mono ?_; rintro e w' ⟨rfl, rfl⟩)
  go_ret
  exact ⟨rfl, rfl⟩
set_option maxRecDepth 100000 in
set_option maxHeartbeats 3200000 in
theorem implFlowsShared_r (nodes : Int) (A : Option Addr) (n c : Nat) (xs : List ArcR) (f : Int) (B : Option Addr) (m d : Nat) (ts : List Int) (wk : Int) (w : World) (h : ArcsAt w A n xs) (hn0 : n ≤ maxLen) (hy : IntsAt w B m ts) (hm0 : m ≤ 1048576) :
    Calls Try.prog 19 #[.agg #[.int .i64 nodes, .slice A n c], .int .i64 f, .slice B m d, .int .i64 wk] w (RetLB 2 (sharedV nodes xs f ts wk) (sharedB nodes xs f ts wk) w) := by
  have HX := Lib.hid h.len
  have HY := Lib.hid hy.len
  have hW : Below w.heap.size w (w.alloc (.cells #[.int .i64 nodes, .slice A n c] 26)) := (Below.refl _ _).alloc (Nat.le_refl _) _
  have h3 := h.alloc (.cells #[.int .i64 nodes, .slice A n c] 26)
  have hy3 := hy.alloc (.cells #[.int .i64 nodes, .slice A n c] 26)
  have HB := Lib.hid (Blk.new w 26 #[.int .i64 nodes, .slice A n c])
  have hlt0 : w.heap.size < (w.alloc (.cells #[.int .i64 nodes, .slice A n c] 26)).heap.size := by simp
  clear h hy
  cases hv : validB nodes xs
  · have HS := Lib.hid (show sharedB nodes xs f ts wk = false by simp [sharedB, hv])
    have HV := Lib.hid (sharedV_no HS.out)
    go_enter Try.func19, Try.ntmps19
    go_wp2_with fail
    generalize w.alloc (.cells #[.int .i64 nodes, .slice A n c] 26) = W at *
    refine (implValidNet_r nodes A n c xs _ h3 hn0).mono ?_
    rw [hv]
    rintro e w1 ⟨rfl, e1⟩
    go_wp2_with fail
    go_ret2
    exact ⟨none, 0, 0, ret_LBc HS.out.symm, by rw [HV.out]; exact OwnI.nil_ _ _ _, below_ext hW hW.size e1⟩
  · obtain ⟨n0, n1, _⟩ := valid_bd hv
    cases hin : inB f 0 (nodes - 1)
    · have HS := Lib.hid (show sharedB nodes xs f ts wk = false by simp [sharedB, hin])
      have HV := Lib.hid (sharedV_no HS.out)
      go_enter Try.func19, Try.ntmps19
      go_wp2_with fail
      generalize w.alloc (.cells #[.int .i64 nodes, .slice A n c] 26) = W at *
      refine (implValidNet_r nodes A n c xs _ h3 hn0).mono ?_
      rw [hv]
      rintro e w1 ⟨rfl, e1⟩
      have q0 := (HB.out.ext e1).cell 0
      have q1 := (HB.out.ext e1).cell 1
      go_wp2_with fail
      refine (isNode_any nodes f _ _ (by omega) (by omega)).mono ?_
      rw [hin]
      rintro e w2 ⟨rfl, e2⟩
      go_wp2_with fail
      go_ret2
      exact ⟨none, 0, 0, ret_LBc HS.out.symm, by rw [HV.out]; exact OwnI.nil_ _ _ _, below_ext hW hW.size (ext_trans e1 e2)⟩
    · by_cases hm16 : m ≤ 16
      · cases hwk : inB wk 1 8
        · have HS := Lib.hid (show sharedB nodes xs f ts wk = false by simp [sharedB, hwk])
          have HV := Lib.hid (sharedV_no HS.out)
          go_enter Try.func19, Try.ntmps19
          go_wp2_with fail
          generalize w.alloc (.cells #[.int .i64 nodes, .slice A n c] 26) = W at *
          refine (implValidNet_r nodes A n c xs _ h3 hn0).mono ?_
          rw [hv]
          rintro e w1 ⟨rfl, e1⟩
          have q0 := (HB.out.ext e1).cell 0
          have q1 := (HB.out.ext e1).cell 1
          go_wp2_with fail
          refine (isNode_any nodes f _ _ (by omega) (by omega)).mono ?_
          rw [hin]
          rintro e w2 ⟨rfl, e2⟩
          go_wp2_with fail
          refine (areWorkers_any wk _).mono ?_
          rw [hwk]
          rintro e w' ⟨rfl, rfl⟩
          go_wp2_with fail
          go_ret2
          exact ⟨none, 0, 0, ret_LBc HS.out.symm, by rw [HV.out]; exact OwnI.nil_ _ _ _, below_ext hW hW.size (ext_trans e1 e2)⟩
        · have HS := Lib.hid (show sharedB nodes xs f ts wk = endsTo nodes xs f ts ts.length by simp [sharedB, hv, hin, HY.out, hm16, hwk])
          go_enter Try.func19, Try.ntmps19
          go_wp2_with fail
          generalize w.alloc (.cells #[.int .i64 nodes, .slice A n c] 26) = W at *
          refine (implValidNet_r nodes A n c xs _ h3 hn0).mono ?_
          rw [hv]
          rintro e w1 ⟨rfl, e1⟩
          have q0 := (HB.out.ext e1).cell 0
          have q1 := (HB.out.ext e1).cell 1
          go_wp2_with fail
          refine (isNode_any nodes f _ _ (by omega) (by omega)).mono ?_
          rw [hin]
          rintro e w2 ⟨rfl, e2⟩
          replace e2 := ext_trans e1 e2
          clear q0 q1 e1
          go_wp2_with fail
          refine (areWorkers_any wk _).mono ?_
          rw [hwk]
          rintro e w' ⟨rfl, rfl⟩
          go_wp2_with fail
          go_loopg [10, 36] m (fun r qv iv wr => ∃ (k : Nat) (Q : Option Addr) (qc : Nat), r = m - k ∧ k ≤ m ∧ iv = .int .i64 k ∧ qv = .slice Q k qc ∧ OwnI 2 W.heap.size wr Q k qc (sharedTo nodes xs f ts k) ∧ Below W.heap.size W wr ∧ Hid (endsTo nodes xs f ts k = true))
          case atStart => exact ⟨0, none, 0, rfl, by omega, rfl, rfl, OwnI.nil_ _ _ _, e2, Lib.hid rfl⟩
          case round =>
            clear e2
            obtain ⟨k, Q, qc, hr, hk, rfl, rfl, o, hbw, hall⟩ := hrel
            have HR := Lib.hid hr
            clear hr
            by_cases hlt : k < m
            · have q0 := (HB.out.below hbw hlt0).cell 0
              have q1 := (HB.out.below hbw hlt0).cell 1
              obtain ⟨td, rfl, _, hct⟩ := (hy3.below hbw).at_ hlt
              have HSU := Lib.hid (sharedTo_succ (nodes := nodes) (xs := xs) (f := f) HY.out hlt)
              have HEU := Lib.hid (endsTo_succ (nodes := nodes) (xs := xs) (f := f) HY.out hlt)
              have HES := Lib.hid (fun hh => endsTo_stop (nodes := nodes) (xs := xs) (f := f) HY.out hlt hh)
              generalize ts.getD k 0 = t at *
              go_wp2_with fail
              refine (implPushFlow_r nodes A n c xs f t _ (h3.below hbw) hn0).mono ?_
              generalize (greatP nodes xs f t).2 = am at *
              cases hee : endsB nodes xs f t
              · have HE := Lib.hid (HES.out hee)
                clear hee
                rintro e w9 ⟨rfl, b9⟩
                go_wp2_with fail
                go_ret2
                have hS2 : sharedB nodes xs f ts wk = false := by rw [HS.out, HE.out]
                exact ⟨none, 0, 0, ret_LBc hS2.symm, by rw [sharedV_no hS2]; exact OwnI.nil_ _ _ _, below_ext hW hW.size (ext_trans hbw b9)⟩
              · have HE := Lib.hid (show endsTo nodes xs f ts (k + 1) = true by rw [HEU.out, hall.out, hee]; rfl)
                clear hee
                rintro e w9 ⟨rfl, b9⟩
                have o9 := OwnI.below o b9
                have hb9 := ext_trans hbw b9
                have hsz9 := hb9.size
                go_wp2_with (at_builtin; refine wp_append_int _ _ rfl _ _ _ rfl 2 W.heap.size Try.underlying29 info64 Q k qc _ rfl o9 rfl (by omega) hsz9 ?_; intro g5 c5 w6 o6 u6 b6 hg6)
                go_roundg (m - (k + 1))
                case measure => rw [HR.out]; omega
                case rel => exact ⟨k + 1, _, c5, rfl, by omega, by go_num, rfl, by rw [HSU.out]; exact o6, hb9.trans b6, HE⟩
            · have e : k = m := by omega
              subst e
              have hS2 : sharedB nodes xs f ts wk = true := by rw [HS.out, HY.out, hall.out]
              have HS2 := Lib.hid hS2
              clear hS2
              go_wp2_with fail
              go_ret2
              exact ⟨Q, k, qc, ret_LBc HS2.out.symm, by rw [sharedV_yes HS2.out, HY.out]; exact OwnI.low o hW.size, below_ext hW hW.size hbw⟩
      · have HS := Lib.hid (show sharedB nodes xs f ts wk = false by
          have : decide (ts.length ≤ 16) = false := by rw [HY.out, decide_eq_false_iff_not]; exact hm16
          simp only [sharedB, this, Bool.false_and, Bool.and_false])
        have HV := Lib.hid (sharedV_no HS.out)
        go_enter Try.func19, Try.ntmps19
        go_wp2_with fail
        generalize w.alloc (.cells #[.int .i64 nodes, .slice A n c] 26) = W at *
        refine (implValidNet_r nodes A n c xs _ h3 hn0).mono ?_
        rw [hv]
        rintro e w1 ⟨rfl, e1⟩
        have q0 := (HB.out.ext e1).cell 0
        have q1 := (HB.out.ext e1).cell 1
        go_wp2_with fail
        refine (isNode_any nodes f _ _ (by omega) (by omega)).mono ?_
        rw [hin]
        rintro e w2 ⟨rfl, e2⟩
        go_wp2_with fail
        go_ret2
        exact ⟨none, 0, 0, ret_LBc HS.out.symm, by rw [HV.out]; exact OwnI.nil_ _ _ _, below_ext hW hW.size (ext_trans e1 e2)⟩
set_option maxRecDepth 100000 in
set_option maxHeartbeats 3200000 in
theorem specFlowsShared_r (nodes : Int) (A : Option Addr) (n c : Nat) (xs : List ArcR) (f : Int) (B : Option Addr) (m d : Nat) (ts : List Int) (wk : Int) (w : World) (h : ArcsAt w A n xs) (hn0 : n ≤ maxLen) (hy : IntsAt w B m ts) (hm0 : m ≤ 1048576) :
    Calls Try.prog 37 #[.agg #[.int .i64 nodes, .slice A n c], .int .i64 f, .slice B m d, .int .i64 wk] w (RetLB 2 (sharedV nodes xs f ts wk) (sharedB nodes xs f ts wk) w) := by
  have HX := Lib.hid h.len
  have HY := Lib.hid hy.len
  have hW : Below w.heap.size w (w.alloc (.cells #[.int .i64 nodes, .slice A n c] 26)) := (Below.refl _ _).alloc (Nat.le_refl _) _
  have h3 := h.alloc (.cells #[.int .i64 nodes, .slice A n c] 26)
  have hy3 := hy.alloc (.cells #[.int .i64 nodes, .slice A n c] 26)
  have HB := Lib.hid (Blk.new w 26 #[.int .i64 nodes, .slice A n c])
  have hlt0 : w.heap.size < (w.alloc (.cells #[.int .i64 nodes, .slice A n c] 26)).heap.size := by simp
  clear h hy
  cases hv : validB nodes xs
  · have HS := Lib.hid (show sharedB nodes xs f ts wk = false by simp [sharedB, hv])
    have HV := Lib.hid (sharedV_no HS.out)
    go_enter Try.func37, Try.ntmps37
    go_wp2_with fail
    generalize w.alloc (.cells #[.int .i64 nodes, .slice A n c] 26) = W at *
    refine (l03Node_any _ nodes A n c xs f _ HB.out h3 hn0).mono ?_
    rw [hv, Bool.false_and]
    rintro e w1 ⟨rfl, e1⟩
    go_wp2_with fail
    go_ret2
    exact ⟨none, 0, 0, ret_LBc HS.out.symm, by rw [HV.out]; exact OwnI.nil_ _ _ _, below_ext hW hW.size e1.below⟩
  · obtain ⟨n0, n1, _⟩ := valid_bd hv
    cases hin : inB f 0 (nodes - 1)
    · have HS := Lib.hid (show sharedB nodes xs f ts wk = false by simp [sharedB, hin])
      have HV := Lib.hid (sharedV_no HS.out)
      go_enter Try.func37, Try.ntmps37
      go_wp2_with fail
      generalize w.alloc (.cells #[.int .i64 nodes, .slice A n c] 26) = W at *
      refine (l03Node_any _ nodes A n c xs f _ HB.out h3 hn0).mono ?_
      rw [hv, hin, Bool.true_and]
      rintro e w2 ⟨rfl, d2⟩
      have e2 := d2.below
      go_wp2_with fail
      go_ret2
      exact ⟨none, 0, 0, ret_LBc HS.out.symm, by rw [HV.out]; exact OwnI.nil_ _ _ _, below_ext hW hW.size e2⟩
    · by_cases hm16 : m ≤ 16
      · cases hwk : inB wk 1 8
        · have HS := Lib.hid (show sharedB nodes xs f ts wk = false by simp [sharedB, hwk])
          have HV := Lib.hid (sharedV_no HS.out)
          go_enter Try.func37, Try.ntmps37
          go_wp2_with fail
          generalize w.alloc (.cells #[.int .i64 nodes, .slice A n c] 26) = W at *
          refine (l03Node_any _ nodes A n c xs f _ HB.out h3 hn0).mono ?_
          rw [hv, hin, Bool.true_and]
          rintro e w2 ⟨rfl, d2⟩
          have e2 := d2.below
          go_wp2_with fail
          refine (l00In_any _ _ _ _).mono ?_
          rw [hwk]
          rintro e w' ⟨rfl, rfl⟩
          go_wp2_with fail
          go_ret2
          exact ⟨none, 0, 0, ret_LBc HS.out.symm, by rw [HV.out]; exact OwnI.nil_ _ _ _, below_ext hW hW.size e2⟩
        · have HS := Lib.hid (show sharedB nodes xs f ts wk = endsTo nodes xs f ts ts.length by simp [sharedB, hv, hin, HY.out, hm16, hwk])
          go_enter Try.func37, Try.ntmps37
          go_wp2_with fail
          generalize w.alloc (.cells #[.int .i64 nodes, .slice A n c] 26) = W at *
          refine (l03Node_any _ nodes A n c xs f _ HB.out h3 hn0).mono ?_
          rw [hv, hin, Bool.true_and]
          rintro e w2 ⟨rfl, d2⟩
          have e2 := d2.below
          go_wp2_with fail
          refine (l00In_any _ _ _ _).mono ?_
          rw [hwk]
          rintro e w' ⟨rfl, rfl⟩
          go_wp2_with fail
          have he := World.ownsRow_lit (e := 2) (base := W.heap.size) (size := 1) w2 #[] 0 e2.size (Nat.zero_le _) rfl
          have he2 : OwnI 2 W.heap.size (w2.alloc (.cells #[] 2)) (some ⟨w2.heap.size, 0, none⟩) 0 0 (sharedTo nodes xs f ts 0) := he
          have hb3 := e2.alloc e2.size (.cells #[] 2)
          clear he
          generalize w2.alloc (.cells #[] 2) = w3 at *
          go_loopg [10, 30] m (fun r qv iv wr => ∃ (k : Nat) (Q : Option Addr) (qc : Nat), r = m - k ∧ k ≤ m ∧ iv = .int .i64 k ∧ qv = .slice Q k qc ∧ OwnI 2 W.heap.size wr Q k qc (sharedTo nodes xs f ts k) ∧ Below W.heap.size W wr ∧ Hid (endsTo nodes xs f ts k = true))
          case atStart => exact ⟨0, _, 0, rfl, by omega, rfl, rfl, he2, hb3, Lib.hid rfl⟩
          case round =>
            clear he2 hb3
            obtain ⟨k, Q, qc, hr, hk, rfl, rfl, o, hbw, hall⟩ := hrel
            have HR := Lib.hid hr
            clear hr
            by_cases hlt : k < m
            · have q0 := (HB.out.below hbw hlt0).cell 0
              have q1 := (HB.out.below hbw hlt0).cell 1
              obtain ⟨td, rfl, _, hct⟩ := (hy3.below hbw).at_ hlt
              have HSU := Lib.hid (sharedTo_succ (nodes := nodes) (xs := xs) (f := f) HY.out hlt)
              have HEU := Lib.hid (endsTo_succ (nodes := nodes) (xs := xs) (f := f) HY.out hlt)
              have HES := Lib.hid (fun hh => endsTo_stop (nodes := nodes) (xs := xs) (f := f) HY.out hlt hh)
              have hct2 := fun (w4 : World) (hh : Below W.heap.size W w4) => ints_cell (hy3.below hh) hlt
              generalize ts.getD k 0 = t at *
              have HCT := Lib.hid hct2
              have HX3 := Lib.hid (h3.below hbw)
              have HBW := Lib.hid hbw
              have hkm : (k : Int) < (m : Int) := by omega
              have hk0 : (0 : Int) ≤ k := by omega
              have HBX := Lib.hid (HB.out.below hbw hlt0)
              clear hct2
              go_wp2_with fail
              go_region_held3 (fun w' => w'.cell? ⟨w.heap.size, 0, none⟩ = some (.int .i64 nodes) ∧ w'.cell? ⟨w.heap.size, 1, none⟩ = some (.slice A n c) ∧ w'.cell? (td.add k) = some (.int .i64 t))
                (first
                  | exact ⟨q0, q1, hct⟩
                  | exact ⟨q2, q3, hct3⟩)
                (first
                  | (go_at_call 33; refine (specPushFlow_r nodes A n c xs f t _ HX3.out.drew hn0).mono ?_; rintro e w9 ⟨rfl, b9⟩; have q2 := (HBX.out.drew.ext b9).cell 0; have q3 := (HBX.out.drew.ext b9).cell 1; have hct3 := HCT.out w9 (ext_trans (HBW.out.drew) b9); have HB9 := Lib.hid b9; clear b9))
              all_goals
                clear q0 q1 q2 q3 hct hct3
                have b9 : Below wr.heap.size wr w9 := ext_trans (Below.drew (Below.refl _ _)) HB9.out
                have o9 := OwnI.below o b9
                have hb9 := ext_trans hbw b9
                have hsz9 := hb9.size
                generalize (greatP nodes xs f t).2 = am at *
                cases hee : endsB nodes xs f t
                · have HE := Lib.hid (HES.out hee)
                  clear hee
                  go_wp2_with fail
                  go_ret2
                  have hS2 : sharedB nodes xs f ts wk = false := by rw [HS.out, HE.out]
                  exact ⟨none, 0, 0, ret_LBc hS2.symm, by rw [sharedV_no hS2]; exact OwnI.nil_ _ _ _, below_ext hW hW.size hb9⟩
                · have HE := Lib.hid (show endsTo nodes xs f ts (k + 1) = true by rw [HEU.out, hall.out, hee]; rfl)
                  clear hee
                  go_wp2_with (at_builtin; refine wp_append_int _ _ rfl _ _ _ rfl 2 W.heap.size Try.underlying29 info64 Q k qc _ rfl o9 rfl (by omega) hsz9 ?_; intro g5 c5 w6 o6 u6 b6 hg6)
                  go_roundg (m - (k + 1))
                  case measure => rw [HR.out]; omega
                  case rel => exact ⟨k + 1, _, c5, rfl, by omega, by go_num, rfl, by rw [HSU.out]; exact o6, hb9.trans b6, HE⟩
            · have e : k = m := by omega
              subst e
              have hS2 : sharedB nodes xs f ts wk = true := by rw [HS.out, HY.out, hall.out]
              have HS2 := Lib.hid hS2
              clear hS2
              go_wp2_with fail
              go_ret2
              exact ⟨Q, k, qc, ret_LBc HS2.out.symm, by rw [sharedV_yes HS2.out, HY.out]; exact OwnI.low o hW.size, below_ext hW hW.size hbw⟩
      · have HS := Lib.hid (show sharedB nodes xs f ts wk = false by
          have : decide (ts.length ≤ 16) = false := by rw [HY.out, decide_eq_false_iff_not]; exact hm16
          simp only [sharedB, this, Bool.false_and, Bool.and_false])
        have HV := Lib.hid (sharedV_no HS.out)
        go_enter Try.func37, Try.ntmps37
        go_wp2_with fail
        generalize w.alloc (.cells #[.int .i64 nodes, .slice A n c] 26) = W at *
        refine (l03Node_any _ nodes A n c xs f _ HB.out h3 hn0).mono ?_
        rw [hv, hin, Bool.true_and]
        rintro e w2 ⟨rfl, d2⟩
        have e2 := d2.below
        go_wp2_with fail
        go_ret2
        exact ⟨none, 0, 0, ret_LBc HS.out.symm, by rw [HV.out]; exact OwnI.nil_ _ _ _, below_ext hW hW.size e2⟩
end Go.Proofs.Yteciampnbghonaa
