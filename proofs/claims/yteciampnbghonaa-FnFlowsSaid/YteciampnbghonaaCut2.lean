/- CutRoom: the contracts. -/
import Derived.Test.YteciampnbghonaaCut
namespace Go.Proofs.Yteciampnbghonaa
open Go.RowKit

theorem cutTo_bd {xs : List ArcR} {zs : List Int} {n : Nat} (hf : ∀ k, k < n → 0 ≤ (xs.getD k default).room ∧ (xs.getD k default).room ≤ 1000000) : ∀ k, k ≤ n → 0 ≤ cutTo xs zs k ∧ cutTo xs zs k ≤ 1000000 * (k : Int)
  | 0, _ => by simp [cutTo]
  | k + 1, h => by
    have := cutTo_bd (zs := zs) hf k (by omega)
    have := hf k (by omega)
    rw [cutTo_succ]
    split <;> omega
theorem valid_room {nodes : Int} {xs : List ArcR} {n : Nat} (hl : xs.length = n) (h : validB nodes xs = true) : 2 ≤ nodes ∧ nodes ≤ 16 ∧ n ≤ 48 ∧ ∀ k, k < n → 0 ≤ (xs.getD k default).room ∧ (xs.getD k default).room ≤ 1000000 := by
  subst hl
  obtain ⟨a, b, c, d⟩ := valid_bd h
  exact ⟨a, b, c, fun k hk => (d k hk).2.2.2.1⟩

set_option maxRecDepth 100000 in
set_option maxHeartbeats 1600000 in
theorem specCutRoom_r (nodes : Int) (A : Option Addr) (n c : Nat) (xs : List ArcR) (B : Option Addr) (m d : Nat) (fl : List Int) (w : World) (h : ArcsAt w A n xs) (hn0 : n ≤ maxLen) (hy : IntsAt w B m fl) (hm0 : m ≤ 1048576) :
    Calls Try.prog 36 #[.agg #[.int .i64 nodes, .slice A n c], .slice B m d] w (RetV (.tuple #[.int .i64 (cutRV nodes xs fl), .bool (cutRB nodes xs fl)]) w) := by
  have HX := Lib.hid h.len
  have hW : Below w.heap.size w (w.alloc (.cells #[.int .i64 nodes, .slice A n c] 26)) := (Below.refl _ _).alloc (Nat.le_refl _) _
  have h3 := h.alloc (.cells #[.int .i64 nodes, .slice A n c] 26)
  have hy3 := hy.alloc (.cells #[.int .i64 nodes, .slice A n c] 26)
  have HB := Lib.hid (Blk.new w 26 #[.int .i64 nodes, .slice A n c])
  clear h hy
  cases hv : validB nodes xs
  · have HC := Lib.hid (show cutRB nodes xs fl = false by unfold cutRB; rw [hv]; rfl)
    have HV := Lib.hid (cutRV_no HC.out)
    go_enter Try.func36, Try.ntmps36
    go_wp2_with fail
    generalize w.alloc (.cells #[.int .i64 nodes, .slice A n c] 26) = W at *
    refine (l03Is_any _ nodes A n c xs _ HB.out h3 hn0).mono ?_
    rw [hv]
    rintro e w1 ⟨rfl, hd⟩
    go_wp2_with fail
    go_ret2
    exact ⟨ret_IB HV.out.symm HC.out.symm, below_ext hW hW.size hd.below⟩
  · obtain ⟨n0, n1, n2, hr⟩ := valid_room HX.out hv
    have HBD := Lib.hid hr
    have HCB := Lib.hid (cutTo_bd (zs := fl) hr)
    clear hr
    cases hs : nodesB nodes fl
    · have HC := Lib.hid (show cutRB nodes xs fl = false by unfold cutRB; rw [hs, Bool.and_false])
      have HV := Lib.hid (cutRV_no HC.out)
      go_enter Try.func36, Try.ntmps36
      go_wp2_with fail
      generalize w.alloc (.cells #[.int .i64 nodes, .slice A n c] 26) = W at *
      refine (l03Is_any _ nodes A n c xs _ HB.out h3 hn0).mono ?_
      rw [hv]
      rintro e w1 ⟨rfl, hd⟩
      have q0 := (HB.out.ext hd.below).cell 0
      go_wp2_with fail
      refine (l03Set_any _ _ _ fl nodes _ (hy3.drewTo hd) hm0 (by omega) (by omega)).mono ?_
      rw [hs]
      rintro e w2 ⟨rfl, hd2⟩
      go_wp2_with fail
      go_ret2
      exact ⟨ret_IB HV.out.symm HC.out.symm, below_ext hW hW.size (hd.trans hd2).below⟩
    · have HC := Lib.hid (show cutRB nodes xs fl = true by unfold cutRB; rw [hv, hs]; rfl)
      have HV := Lib.hid (cutRV_yes HC.out)
      go_enter Try.func36, Try.ntmps36
      go_wp2_with fail
      generalize w.alloc (.cells #[.int .i64 nodes, .slice A n c] 26) = W at *
      refine (l03Is_any _ nodes A n c xs _ HB.out h3 hn0).mono ?_
      rw [hv]
      rintro e w1 ⟨rfl, hd⟩
      have q0 := (HB.out.ext hd.below).cell 0
      go_wp2_with fail
      refine (l03Set_any _ _ _ fl nodes _ (hy3.drewTo hd) hm0 (by omega) (by omega)).mono ?_
      rw [hs]
      rintro e w2 ⟨rfl, hd2⟩
      replace hd := hd.trans hd2
      clear hd2 q0
      have q1 := (HB.out.ext hd.below).cell 1
      have h4 := h3.drewTo hd
      have hy4 := hy3.drewTo hd
      go_wp2_with fail
      go_loop [6, 20] (fun sv i => ∃ (k : Nat), k ≤ n ∧ i = .int .i64 k ∧ sv = .int .i64 (cutTo xs fl k)) (fun _ i => n - (intOf i).toNat)
      case atStart => exact ⟨0, by omega, rfl, rfl⟩
      case round =>
        obtain ⟨k, hk, rfl, rfl⟩ := hrel
        obtain ⟨s0, s1⟩ := HCB.out k hk
        by_cases hlt : k < n
        · obtain ⟨ad, rfl, had, c0, c1, c2, c3⟩ := h4.at_ hlt
          obtain ⟨r0, r1⟩ := HBD.out k hlt
          have HS := Lib.hid (cutTo_succ xs fl k)
          generalize xs.getD k default = x at *
          generalize cutTo xs fl k = s at *
          obtain ⟨f, t, r, q⟩ := x
          have r0' : 0 ≤ r := r0
          have r1' : r ≤ 1000000 := r1
          clear r0 r1
          cases e1 : hasB fl f
          · have HE := Lib.hid (show cutTo xs fl (k + 1) = s by rw [HS.out]; simp [e1])
            go_wp2_with fail
            refine (l00Has_any _ _ _ fl _ _ hy4 hm0).mono ?_
            rw [e1]
            rintro e w' ⟨rfl, rfl⟩
            go_wp2_with fail
            go_round
            case rel => exact ⟨k + 1, by omega, by go_num, by rw [HE.out]⟩
            case measure => simp [intOf]; omega
          · cases e2 : hasB fl t
            · have HE := Lib.hid (show cutTo xs fl (k + 1) = s + r by rw [HS.out]; simp [e1, e2])
              go_wp2_with fail
              refine (l00Has_any _ _ _ fl _ _ hy4 hm0).mono ?_
              rw [e1]
              rintro e w' ⟨rfl, rfl⟩
              go_wp2_with fail
              refine (l00Has_any _ _ _ fl _ _ hy4 hm0).mono ?_
              rw [e2]
              rintro e w' ⟨rfl, rfl⟩
              go_wp2_with fail
              go_round
              case rel => exact ⟨k + 1, by omega, by go_num, by rw [HE.out]⟩
              case measure => simp [intOf]; omega
            · have HE := Lib.hid (show cutTo xs fl (k + 1) = s by rw [HS.out]; simp [e1, e2])
              go_wp2_with fail
              refine (l00Has_any _ _ _ fl _ _ hy4 hm0).mono ?_
              rw [e1]
              rintro e w' ⟨rfl, rfl⟩
              go_wp2_with fail
              refine (l00Has_any _ _ _ fl _ _ hy4 hm0).mono ?_
              rw [e2]
              rintro e w' ⟨rfl, rfl⟩
              go_wp2_with fail
              go_round
              case rel => exact ⟨k + 1, by omega, by go_num, by rw [HE.out]⟩
              case measure => simp [intOf]; omega
        · have e : k = n := by omega
          subst e
          go_wp2_with fail
          go_ret2
          exact ⟨ret_IB (by rw [HV.out, HX.out]) HC.out.symm, below_ext hW hW.size hd.below⟩
set_option maxRecDepth 100000 in
set_option maxHeartbeats 1600000 in
theorem implCutRoom_r (nodes : Int) (A : Option Addr) (n c : Nat) (xs : List ArcR) (B : Option Addr) (m d : Nat) (fl : List Int) (w : World) (h : ArcsAt w A n xs) (hn0 : n ≤ maxLen) (hy : IntsAt w B m fl) (hm0 : m ≤ 1048576) :
    Calls Try.prog 18 #[.agg #[.int .i64 nodes, .slice A n c], .slice B m d] w (RetV (.tuple #[.int .i64 (cutRV nodes xs fl), .bool (cutRB nodes xs fl)]) w) := by
  have HX := Lib.hid h.len
  have HY := Lib.hid hy.len
  have hW : Below w.heap.size w (w.alloc (.cells #[.int .i64 nodes, .slice A n c] 26)) := (Below.refl _ _).alloc (Nat.le_refl _) _
  have h3 := h.alloc (.cells #[.int .i64 nodes, .slice A n c] 26)
  have hy3 := hy.alloc (.cells #[.int .i64 nodes, .slice A n c] 26)
  have HB := Lib.hid (Blk.new w 26 #[.int .i64 nodes, .slice A n c])
  clear h hy
  cases hv : validB nodes xs
  · have HC := Lib.hid (show cutRB nodes xs fl = false by unfold cutRB; rw [hv]; rfl)
    have HV := Lib.hid (cutRV_no HC.out)
    go_enter Try.func18, Try.ntmps18
    go_wp2_with fail
    generalize w.alloc (.cells #[.int .i64 nodes, .slice A n c] 26) = W at *
    refine (implValidNet_r nodes A n c xs _ h3 hn0).mono ?_
    rw [hv]
    rintro e w1 ⟨rfl, hd⟩
    go_wp2_with fail
    go_ret2
    exact ⟨ret_IB HV.out.symm HC.out.symm, below_ext hW hW.size hd⟩
  · obtain ⟨n0, n1, n2, hr⟩ := valid_room HX.out hv
    have HBD := Lib.hid hr
    have HCB := Lib.hid (cutTo_bd (zs := fl) hr)
    clear hr
    cases hs1 : risesTo fl m
    · have HC := Lib.hid (show cutRB nodes xs fl = false by unfold cutRB nodesB; rw [HY.out, hs1, Bool.and_false, Bool.and_false])
      have HV := Lib.hid (cutRV_no HC.out)
      go_enter Try.func18, Try.ntmps18
      go_wp2_with fail
      generalize w.alloc (.cells #[.int .i64 nodes, .slice A n c] 26) = W at *
      refine (implValidNet_r nodes A n c xs _ h3 hn0).mono ?_
      rw [hv]
      rintro e w1 ⟨rfl, hd⟩
      go_wp2_with fail
      refine (isRising_any _ _ _ fl _ (hy3.below hd) hm0).mono ?_
      rw [hs1]
      rintro e w2 ⟨rfl, hd2⟩
      go_wp2_with fail
      go_ret2
      exact ⟨ret_IB HV.out.symm HC.out.symm, below_ext hW hW.size (ext_trans hd hd2.below)⟩
    · cases hs2 : fl.all (fun n => inB n 0 (nodes - 1))
      · have HC := Lib.hid (show cutRB nodes xs fl = false by unfold cutRB nodesB; rw [hs2, Bool.false_and, Bool.and_false])
        have HV := Lib.hid (cutRV_no HC.out)
        go_enter Try.func18, Try.ntmps18
        go_wp2_with fail
        generalize w.alloc (.cells #[.int .i64 nodes, .slice A n c] 26) = W at *
        refine (implValidNet_r nodes A n c xs _ h3 hn0).mono ?_
        rw [hv]
        rintro e w1 ⟨rfl, hd⟩
        go_wp2_with fail
        refine (isRising_any _ _ _ fl _ (hy3.below hd) hm0).mono ?_
        rw [hs1]
        rintro e w2 ⟨rfl, hd2⟩
        replace hd := ext_trans hd hd2.below
        have q0 := (HB.out.ext hd).cell 0
        clear hd2
        go_wp2_with fail
        refine (allWithin_any _ _ _ fl _ _ _ (hy3.below hd) hm0).mono ?_
        rw [hs2]
        rintro e w' ⟨rfl, rfl⟩
        go_wp2_with fail
        go_ret2
        exact ⟨ret_IB HV.out.symm HC.out.symm, below_ext hW hW.size hd⟩
      · have HC := Lib.hid (show cutRB nodes xs fl = true by unfold cutRB nodesB; rw [hv, hs2, HY.out, hs1]; rfl)
        have HV := Lib.hid (cutRV_yes HC.out)
        go_enter Try.func18, Try.ntmps18
        go_wp2_with fail
        generalize w.alloc (.cells #[.int .i64 nodes, .slice A n c] 26) = W at *
        refine (implValidNet_r nodes A n c xs _ h3 hn0).mono ?_
        rw [hv]
        rintro e w1 ⟨rfl, hd⟩
        go_wp2_with fail
        refine (isRising_any _ _ _ fl _ (hy3.below hd) hm0).mono ?_
        rw [hs1]
        rintro e w2 ⟨rfl, hd2⟩
        replace hd := ext_trans hd hd2.below
        have q0 := (HB.out.ext hd).cell 0
        clear hd2
        go_wp2_with fail
        refine (allWithin_any _ _ _ fl _ _ _ (hy3.below hd) hm0).mono ?_
        rw [hs2]
        rintro e w' ⟨rfl, rfl⟩
        have q1 := (HB.out.ext hd).cell 1
        go_wp2_with fail
        clear q0 q1
        go_loopg [6, 28] n (fun r sv i wr => ∃ (k : Nat), r = n - k ∧ k ≤ n ∧ i = .int .i64 k ∧ sv = .int .i64 (cutTo xs fl k) ∧ Below W.heap.size W wr)
        case atStart => exact ⟨0, rfl, by omega, rfl, rfl, hd⟩
        case round =>
          clear hd
          obtain ⟨k, hr, hk, rfl, rfl, hd⟩ := hrel
          have HR := Lib.hid hr
          clear hr
          obtain ⟨s0, s1⟩ := HCB.out k hk
          by_cases hlt : k < n
          · obtain ⟨ad, rfl, had, c0, c1, c2, c3⟩ := (h3.below hd).at_ hlt
            obtain ⟨r0, r1⟩ := HBD.out k hlt
            have HS := Lib.hid (cutTo_succ xs fl k)
            generalize xs.getD k default = x at *
            generalize cutTo xs fl k = s at *
            obtain ⟨f, t, r, q⟩ := x
            have r0' : 0 ≤ r := r0
            have r1' : r ≤ 1000000 := r1
            have ka := Blk.new wr 45 #[.int .i64 f, .int .i64 t, .int .i64 r, .int .i64 q]
            have hd2 := hd.alloc hd.size (.cells #[.int .i64 f, .int .i64 t, .int .i64 r, .int .i64 q] 45)
            have hy4 := hy3.below hd2
            have e0 := ka.cell 0
            have e1' := ka.cell 1
            have e2' := ka.cell 2
            have hsz := ka.lt
            clear r0 r1 ka hd
            cases e1 : hasB fl f
            · have HE := Lib.hid (show cutTo xs fl (k + 1) = s by rw [HS.out]; simp [e1])
              go_wp2_with fail
              refine (has_any _ _ _ fl _ _ hy4 hm0).mono ?_
              rw [e1]
              rintro e w' ⟨rfl, rfl⟩
              go_wp2_with fail
              go_roundg (n - (k + 1))
              case measure => rw [HR.out]; omega
              case rel => exact ⟨k + 1, rfl, by omega, by go_num, by rw [HE.out], hd2⟩
            · cases e2 : hasB fl t
              · have HE := Lib.hid (show cutTo xs fl (k + 1) = s + r by rw [HS.out]; simp [e1, e2])
                go_wp2_with fail
                refine (has_any _ _ _ fl _ _ hy4 hm0).mono ?_
                rw [e1]
                rintro e w' ⟨rfl, rfl⟩
                go_wp2_with fail
                refine (has_any _ _ _ fl _ _ hy4 hm0).mono ?_
                rw [e2]
                rintro e w' ⟨rfl, rfl⟩
                go_wp2_with fail
                go_roundg (n - (k + 1))
                case measure => rw [HR.out]; omega
                case rel => exact ⟨k + 1, rfl, by omega, by go_num, by rw [HE.out], hd2⟩
              · have HE := Lib.hid (show cutTo xs fl (k + 1) = s by rw [HS.out]; simp [e1, e2])
                go_wp2_with fail
                refine (has_any _ _ _ fl _ _ hy4 hm0).mono ?_
                rw [e1]
                rintro e w' ⟨rfl, rfl⟩
                go_wp2_with fail
                refine (has_any _ _ _ fl _ _ hy4 hm0).mono ?_
                rw [e2]
                rintro e w' ⟨rfl, rfl⟩
                go_wp2_with fail
                go_roundg (n - (k + 1))
                case measure => rw [HR.out]; omega
                case rel => exact ⟨k + 1, rfl, by omega, by go_num, by rw [HE.out], hd2⟩
          · have e : k = n := by omega
            subst e
            go_wp2_with fail
            go_ret2
            exact ⟨ret_IB (by rw [HV.out, HX.out]) HC.out.symm, below_ext hW hW.size hd⟩
end Go.Proofs.Yteciampnbghonaa
