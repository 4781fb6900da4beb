/- PackBound: the contracts. -/
import Derived.Test.YthhkgeeomhhegaaSortQ
import Derived.Test.YthhkgeeomhhegaaOrder
import Derived.Test.YthhkgeeomhhegaaGains
namespace Go.Proofs.Ythhkgeeomhhegaa
open Go.RowKit

theorem canB_bd' {zs ys : List Int} {room : Int} (h : canB zs ys room = true) : sizesB zs = true ∧ ys.length = zs.length ∧ 0 ≤ room ∧ room ≤ 1000 ∧ ∀ k, k < ys.length → 0 ≤ ys.getD k 0 ∧ ys.getD k 0 ≤ 1000 := by
  simp only [canB, Bool.and_eq_true, decide_eq_true_eq, List.all_eq_true] at h
  obtain ⟨h1, h2, h3, h4⟩ := h
  obtain ⟨h5, h6⟩ := inB_iff.1 h3
  refine ⟨h1, h2, h5, h6, fun k hk => inB_iff.1 (h4 (ys.getD k 0) (by simp [List.getD, List.getElem?_eq_getElem hk]))⟩
/-- what is left of the room, and the gains, after the first k things of an order -/
def pbL (zs os : List Int) (room : Int) : Nat → Int
  | 0 => room
  | k + 1 => pbL zs os room k - zs.getD (os.getD k 0).toNat 0
def pbS (ys os : List Int) : Nat → Int
  | 0 => 0
  | k + 1 => pbS ys os k + ys.getD (os.getD k 0).toNat 0
/-- the bound from the number k on -/
def pbF (zs ys os : List Int) (room : Int) : Nat → Nat → Int
  | 0, k => pbS ys os k
  | f + 1, k => if pbL zs os room k < zs.getD (os.getD k 0).toNat 0 then pbS ys os k + ys.getD (os.getD k 0).toNat 0 * pbL zs os room k / zs.getD (os.getD k 0).toNat 0 else pbF zs ys os room f (k + 1)
theorem pbF_end {zs ys os : List Int} {room : Int} {n k : Nat} (hk : k < n) (h : pbL zs os room k < zs.getD (os.getD k 0).toNat 0) : pbF zs ys os room (n - k) k = pbS ys os k + ys.getD (os.getD k 0).toNat 0 * pbL zs os room k / zs.getD (os.getD k 0).toNat 0 := by
  rw [show n - k = (n - (k + 1)) + 1 by omega, pbF, if_pos h]
theorem pbF_on {zs ys os : List Int} {room : Int} {n k : Nat} (hk : k < n) (h : ¬ pbL zs os room k < zs.getD (os.getD k 0).toNat 0) : pbF zs ys os room (n - k) k = pbF zs ys os room (n - (k + 1)) (k + 1) := by
  rw [show n - k = (n - (k + 1)) + 1 by omega, pbF, if_neg h]
def boundV (zs ys : List Int) (room : Int) : Int := if canB zs ys room = true then pbF zs ys (ordTo (ltQ zs ys) zs.length) room zs.length 0 else 0
theorem boundV_no {zs ys : List Int} {room : Int} (h : canB zs ys room = false) : boundV zs ys room = 0 := by unfold boundV; rw [if_neg (by rw [h]; decide)]
theorem boundV_yes {zs ys : List Int} {room : Int} (h : canB zs ys room = true) : boundV zs ys room = pbF zs ys (ordTo (ltQ zs ys) zs.length) room zs.length 0 := by unfold boundV; rw [if_pos h]

set_option maxRecDepth 100000 in
set_option maxHeartbeats 1600000 in
theorem byQuotient_any (A : Option Addr) (n c : Nat) (zs : List Int) (B : Option Addr) (d : Nat) (ys : List Int) (w : World) (h : IntsAt w A n zs) (hy : IntsAt w B n ys) (hn1 : 1 ≤ n) (hn : n ≤ 16)
    (hz : ∀ k, k < n → 0 ≤ zs.getD k 0 ∧ zs.getD k 0 ≤ 1000) (hg : ∀ k, k < n → 0 ≤ ys.getD k 0 ∧ ys.getD k 0 ≤ 1000) :
    Calls Try.prog 44 #[.slice A n c, .slice B n d] w fun e w' => ∃ (Q : Option Addr) (cq : Nat), e = .returned (.slice Q n cq) ∧ OwnI 2 w.heap.size w' Q n cq (ordTo (ltQ zs ys) n) ∧ Below w.heap.size w w' := by
  have k2 := (Blk.new w 22 #[.slice A n c]).alloc (.cells #[.slice B n d] 22)
  have k1 : Blk ((w.alloc (.cells #[.slice A n c] 22)).alloc (.cells #[.slice B n d] 22)) (w.heap.size + 1) 22 #[.slice B n d] := by
    rw [show w.heap.size + 1 = (w.alloc (.cells #[.slice A n c] 22)).heap.size by simp]
    exact Blk.new _ _ _
  have hb : Below w.heap.size w ((w.alloc (.cells #[.slice A n c] 22)).alloc (.cells #[.slice B n d] 22)) := ((Below.refl _ _).alloc (Nat.le_refl _) _).alloc (by simp) _
  have h2 := h.below hb
  have hy2 := hy.below hb
  have p2 := (k2.cell 0).trans (show _ = some (Value.slice A n c) from rfl)
  generalize hW : (w.alloc (.cells #[.slice A n c] 22)).alloc (.cells #[.slice B n d] 22) = W at *
  have HC := Lib.hid (orderBy_Q A n c zs B d ys (w.heap.size + 1) w.heap.size W h2 hy2 hz hg k1 k2 hn1 hn)
  clear h hy hz hg k1 k2 h2 hy2
  have HWW := Lib.hid hW
  rw [← hW] at p2
  clear hW
  go_enter Try.func44, Try.ntmps44
  go_wp2_with fail
  rw [HWW.out]
  refine HC.out.mono ?_
  rintro e w2 ⟨Q, cq, rfl, o, b2⟩
  go_wp2_with fail
  go_ret
  exact ⟨Q, cq, rfl, OwnI.low o hb.size, below_ext hb hb.size b2⟩

set_option maxRecDepth 100000 in
set_option maxHeartbeats 3200000 in
theorem implPackBound_r (A : Option Addr) (n c : Nat) (zs : List Int) (B : Option Addr) (m d : Nat) (ys : List Int) (room : Int) (w : World) (h : IntsAt w A n zs) (hl : n ≤ 1048576) (hy : IntsAt w B m ys) (hl2 : m ≤ 1048576) :
    Calls Try.prog 17 #[.slice A n c, .slice B m d, .int .i64 room] w (RetV (.tuple #[.int .i64 (boundV zs ys room), .bool (canB zs ys room)]) w) := by
  have HL := Lib.hid h.len
  have HL2 := Lib.hid hy.len
  cases hcan : canB zs ys room
  · have HV := Lib.hid (boundV_no hcan)
    go_enter Try.func17, Try.ntmps17
    go_wp2_with (go_at_call 43; refine (arePacks_any _ _ _ zs _ _ _ ys _ _ h hy hl hl2).mono ?_; rw [hcan]; rintro e w1 ⟨rfl, rfl⟩)
    go_ret2
    exact ⟨ret_IB HV.out.symm rfl, Below.refl _ _⟩
  · obtain ⟨hs, hln, hr0, hr1, hgb⟩ := canB_bd' hcan
    obtain ⟨hn1, hn2, hzb⟩ := sizesB_bd hs
    have HV := Lib.hid (boundV_yes hcan)
    obtain rfl : m = n := by rw [← HL2.out, hln, HL.out]
    rw [HL.out] at hn1 hn2 hzb HV
    rw [HL2.out] at hgb
    have HZ := Lib.hid hzb
    have HG := Lib.hid hgb
    have HRG := Lib.hid (ordTo_rng (lt := ltQ zs ys) m (Nat.le_refl m))
    have HLE := Lib.hid (ordTo_len (ltQ zs ys) m)
    clear hzb hgb hs hln
    have HBQ := Lib.hid (byQuotient_any A m c zs B d ys w h hy hn1 hn2 (fun k hk => by have := HZ.out k hk; omega) HG.out)
    generalize hos : ordTo (ltQ zs ys) m = os at *
    clear hos
    go_enter Try.func17, Try.ntmps17
    go_wp2_with (go_at_call 43; refine (arePacks_any _ _ _ zs _ _ _ ys _ _ h hy hl hl2).mono ?_; rw [hcan]; rintro e w1 ⟨rfl, rfl⟩)
    refine HBQ.out.mono ?_
    rintro e w2 ⟨Q, cq, rfl, oQ, hb⟩
    obtain ⟨gQ, rfl, _, _, _, _⟩ := oQ.pos (by omega)
    go_wp2_with fail
    go_loopg [2, 8, 20] m (fun r lv sv kv wi => ∃ (k : Nat), r = m - k ∧ k ≤ m ∧ lv = .int .i64 (pbL zs os room k) ∧ sv = .int .i64 (pbS ys os k) ∧ kv = .int .i64 k ∧ 0 ≤ pbL zs os room k ∧ pbL zs os room k ≤ 1000 ∧ 0 ≤ pbS ys os k ∧ pbS ys os k ≤ 1000 * k ∧ Hid (pbF zs ys os room (m - k) k = pbF zs ys os room m 0) ∧ Drew w2 wi)
    case atStart => exact ⟨0, rfl, Nat.zero_le _, rfl, rfl, rfl, hr0, hr1, Int.le_refl _, Int.le_refl _, Lib.hid rfl, Drew.refl _⟩
    case round =>
      obtain ⟨k, hr, hk, rfl, rfl, rfl, l0, l1, s0, s1, HF, q, rfl⟩ := hrel
      have HR := Lib.hid hr
      clear hr
      by_cases hlk : k < m
      · have hlk' : (k : Int) < (m : Int) := by omega
        obtain ⟨a, ha, ha2⟩ := HRG.out k (by rw [HLE.out]; exact hlk)
        have c1 := OwnI.cell oQ hlk
        have HE := Lib.hid (@pbF_end zs ys os room m k hlk)
        have HO := Lib.hid (@pbF_on zs ys os room m k hlk)
        have HLS := Lib.hid (show pbL zs os room (k + 1) = pbL zs os room k - zs.getD (os.getD k 0).toNat 0 from rfl)
        have HSS := Lib.hid (show pbS ys os (k + 1) = pbS ys os k + ys.getD (os.getD k 0).toNat 0 from rfl)
        rw [ha, Int.toNat_natCast] at HE HO HLS HSS
        rw [ha] at c1
        clear ha
        obtain ⟨ad, rfl, _, c3⟩ := (h.below hb).at_ ha2
        obtain ⟨bd, rfl, _, c4⟩ := (hy.below hb).at_ ha2
        have q1 := HZ.out a ha2
        have q2 := HG.out a ha2
        generalize zs.getD a 0 = x at *
        generalize ys.getD a 0 = y at *
        generalize pbL zs os room k = L at *
        generalize pbS ys os k = s at *
        have ha' : (a : Int) < (m : Int) := by omega
        by_cases hlt : L < x
        · have HV2 := Lib.hid (HE.out hlt)
          have m1 : 0 ≤ y * L ∧ y * L ≤ 1000000 := ⟨Int.mul_nonneg q2.1 l0, Int.le_trans (Int.mul_le_mul q2.2 l1 l0 (by omega)) (by decide)⟩
          have m2 : 0 ≤ y * L / x := Int.ediv_nonneg m1.1 (by omega)
          have m3 : y * L / x ≤ y * L := Int.ediv_le_self _ m1.1
          have v1 : IntKind.i64.wrap (y * L) = y * L := IntWalk.i64_in _ (by omega)
          have v2 : IntKind.i64.wrap ((y * L).tdiv x) = y * L / x := IntWalk.i64_quo _ _ ⟨m1.1, by omega, by omega⟩
          have v3 : IntKind.i64.wrap (s + y * L / x) = s + y * L / x := IntWalk.i64_in _ (by omega)
          have v4 : ¬ x = 0 := by omega
          have v5 : IntKind.i64.wrap (y * L / x) = y * L / x := IntWalk.i64_in _ (by omega)
          have v6 : Int.tdiv (y * L) x = y * L / x := Int.tdiv_eq_ediv_of_nonneg m1.1
          clear m1 m2 m3 q1 q2
          go_wp2_with fail
          go_quiet (fail)
          go_wp2
          go_ret2
          exact ⟨ret_IB (by rw [HV.out, ← HF.out, HV2.out]) rfl, below_drewN (below_drewN hb _) _⟩
        · have HV2 := Lib.hid (HO.out hlt)
          go_wp2_with fail
          go_roundg (m - (k + 1))
          case measure => rw [HR.out]; omega
          case rel => exact ⟨k + 1, rfl, by omega, by rw [HLS.out], by rw [HSS.out], by go_num, by rw [HLS.out]; omega, by rw [HLS.out]; omega, by rw [HSS.out]; omega, by rw [HSS.out]; omega, Lib.hid (by rw [← HV2.out]; exact HF.out), ⟨_, rfl⟩⟩
      · have e : m = k := by omega
        subst e
        have HD := Lib.hid (show pbS ys os m = pbF zs ys os room m 0 by rw [← HF.out, Nat.sub_self]; rfl)
        go_wp2_with fail
        go_ret2
        exact ⟨ret_IB (HD.out.trans HV.out.symm) rfl, below_drewN hb _⟩
set_option maxRecDepth 100000 in
set_option maxHeartbeats 3200000 in
theorem specPackBound_r (A : Option Addr) (n c : Nat) (zs : List Int) (B : Option Addr) (m d : Nat) (ys : List Int) (room : Int) (w : World) (h : IntsAt w A n zs) (hl : n ≤ 1048576) (hy : IntsAt w B m ys) (hl2 : m ≤ 1048576) :
    Calls Try.prog 16 #[.slice A n c, .slice B m d, .int .i64 room] w (RetV (.tuple #[.int .i64 (boundV zs ys room), .bool (canB zs ys room)]) w) := by
  have HL := Lib.hid h.len
  have HL2 := Lib.hid hy.len
  cases hcan : canB zs ys room
  · have HV := Lib.hid (boundV_no hcan)
    go_enter Try.func16, Try.ntmps16
    go_wp2_with (go_at_call 41; refine (l04Can_any _ _ _ zs _ _ _ ys _ _ h hy hl hl2).mono ?_; rw [hcan]; rintro e w1 ⟨rfl, rfl⟩)
    go_ret2
    exact ⟨ret_IB HV.out.symm rfl, Below.refl _ _⟩
  · obtain ⟨hs, hln, hr0, hr1, hgb⟩ := canB_bd' hcan
    obtain ⟨hn1, hn2, hzb⟩ := sizesB_bd hs
    have HV := Lib.hid (boundV_yes hcan)
    obtain rfl : m = n := by rw [← HL2.out, hln, HL.out]
    rw [HL.out] at hn1 hn2 hzb HV
    rw [HL2.out] at hgb
    have HZ := Lib.hid hzb
    have HG := Lib.hid hgb
    have HRG := Lib.hid (ordTo_rng (lt := ltQ zs ys) m (Nat.le_refl m))
    have HLE := Lib.hid (ordTo_len (ltQ zs ys) m)
    clear hzb hgb hs hln
    have HBQ := Lib.hid (l04Order_any A m c zs B d ys w h hy hn2 (fun k hk => by have := HZ.out k hk; omega) HG.out)
    generalize hos : ordTo (ltQ zs ys) m = os at *
    clear hos
    go_enter Try.func16, Try.ntmps16
    go_wp2_with (go_at_call 41; refine (l04Can_any _ _ _ zs _ _ _ ys _ _ h hy hl hl2).mono ?_; rw [hcan]; rintro e w1 ⟨rfl, rfl⟩)
    refine HBQ.out.mono ?_
    rintro e w2 ⟨Q, cq, rfl, oQ, hb⟩
    obtain ⟨gQ, rfl, _, _, _, _⟩ := oQ.pos (by omega)
    go_wp2_with fail
    go_loopg [8, 9, 11] m (fun r lv sv kv wi => ∃ (k : Nat), r = m - k ∧ k ≤ m ∧ lv = .int .i64 (pbL zs os room k) ∧ sv = .int .i64 (pbS ys os k) ∧ kv = .int .i64 k ∧ 0 ≤ pbL zs os room k ∧ pbL zs os room k ≤ 1000 ∧ 0 ≤ pbS ys os k ∧ pbS ys os k ≤ 1000 * k ∧ Hid (pbF zs ys os room (m - k) k = pbF zs ys os room m 0) ∧ Drew w2 wi)
    case atStart => exact ⟨0, rfl, Nat.zero_le _, rfl, rfl, rfl, hr0, hr1, Int.le_refl _, Int.le_refl _, Lib.hid rfl, Drew.refl _⟩
    case round =>
      obtain ⟨k, hr, hk, rfl, rfl, rfl, l0, l1, s0, s1, HF, q, rfl⟩ := hrel
      have HR := Lib.hid hr
      clear hr
      by_cases hlk : k < m
      · have hlk' : (k : Int) < (m : Int) := by omega
        obtain ⟨a, ha, ha2⟩ := HRG.out k (by rw [HLE.out]; exact hlk)
        have c1 := OwnI.cell oQ hlk
        have HE := Lib.hid (@pbF_end zs ys os room m k hlk)
        have HO := Lib.hid (@pbF_on zs ys os room m k hlk)
        have HLS := Lib.hid (show pbL zs os room (k + 1) = pbL zs os room k - zs.getD (os.getD k 0).toNat 0 from rfl)
        have HSS := Lib.hid (show pbS ys os (k + 1) = pbS ys os k + ys.getD (os.getD k 0).toNat 0 from rfl)
        rw [ha, Int.toNat_natCast] at HE HO HLS HSS
        rw [ha] at c1
        clear ha
        obtain ⟨ad, rfl, _, c3⟩ := (h.below hb).at_ ha2
        obtain ⟨bd, rfl, _, c4⟩ := (hy.below hb).at_ ha2
        have q1 := HZ.out a ha2
        have q2 := HG.out a ha2
        generalize zs.getD a 0 = x at *
        generalize ys.getD a 0 = y at *
        generalize pbL zs os room k = L at *
        generalize pbS ys os k = s at *
        have ha' : (a : Int) < (m : Int) := by omega
        by_cases hlt : L < x
        · have HV2 := Lib.hid (HE.out hlt)
          have m1 : 0 ≤ y * L ∧ y * L ≤ 1000000 := ⟨Int.mul_nonneg q2.1 l0, Int.le_trans (Int.mul_le_mul q2.2 l1 l0 (by omega)) (by decide)⟩
          have m2 : 0 ≤ y * L / x := Int.ediv_nonneg m1.1 (by omega)
          have m3 : y * L / x ≤ y * L := Int.ediv_le_self _ m1.1
          have v1 : IntKind.i64.wrap (y * L) = y * L := IntWalk.i64_in _ (by omega)
          have v2 : IntKind.i64.wrap ((y * L).tdiv x) = y * L / x := IntWalk.i64_quo _ _ ⟨m1.1, by omega, by omega⟩
          have v3 : IntKind.i64.wrap (s + y * L / x) = s + y * L / x := IntWalk.i64_in _ (by omega)
          have v4 : ¬ x = 0 := by omega
          have v5 : IntKind.i64.wrap (y * L / x) = y * L / x := IntWalk.i64_in _ (by omega)
          have v6 : Int.tdiv (y * L) x = y * L / x := Int.tdiv_eq_ediv_of_nonneg m1.1
          clear m1 m2 m3 q1 q2
          go_wp2_with fail
          go_quiet (fail)
          go_wp2
          go_ret2
          exact ⟨ret_IB (by rw [HV.out, ← HF.out, HV2.out]) rfl, below_drewN (below_drewN hb _) _⟩
        · have HV2 := Lib.hid (HO.out hlt)
          go_wp2_with fail
          go_roundg (m - (k + 1))
          case measure => rw [HR.out]; omega
          case rel => exact ⟨k + 1, rfl, by omega, by rw [HLS.out], by rw [HSS.out], by go_num, by rw [HLS.out]; omega, by rw [HLS.out]; omega, by rw [HSS.out]; omega, by rw [HSS.out]; omega, Lib.hid (by rw [← HV2.out]; exact HF.out), ⟨_, rfl⟩⟩
      · have e : m = k := by omega
        subst e
        have HD := Lib.hid (show pbS ys os m = pbF zs ys os room m 0 by rw [← HF.out, Nat.sub_self]; rfl)
        go_wp2_with fail
        go_ret2
        exact ⟨ret_IB (HD.out.trans HV.out.symm) rfl, below_drewN hb _⟩
end Go.Proofs.Ythhkgeeomhhegaa
