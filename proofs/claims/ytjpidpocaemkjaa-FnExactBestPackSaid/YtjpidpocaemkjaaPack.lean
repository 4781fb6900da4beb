/- BestPack: the walks. -/
import Derived.Test.YtjpidpocaemkjaaPackPlain
import Derived.Test.YtjpidpocaemkjaaHalves
namespace Go.Proofs.Ytjpidpocaemkjaa
open Go.RowKit

set_option maxRecDepth 100000 in
set_option maxHeartbeats 3200000 in
theorem implBestPack_r (A : Option Addr) (n c : Nat) (zs : List Int) (B : Option Addr) (m d : Nat) (ys : List Int) (room : Int) (w : World) (h : IntsAt w A n zs) (hl : n ≤ 1048576) (hy : IntsAt w B m ys) (hl2 : m ≤ 1048576) :
    Calls Try.prog 24 #[.slice A n c, .slice B m d, .int .i64 room] w (RetLIB 2 (packV zs ys room) (packL zs ys room) (canB zs ys room) w) := by
  have HX := Lib.hid h.len
  have HY := Lib.hid hy.len
  cases hc : canB zs ys room
  · have HV := Lib.hid (packV_no hc)
    have HK := Lib.hid (packL_no hc)
    go_enter Try.func24, Try.ntmps24
    go_wp2_with (go_at_call 27; refine (arePacks_any _ _ _ zs _ _ _ ys _ _ h hy hl hl2).mono ?_; rintro e w' ⟨rfl, rfl⟩)
    go_ret3
    exact ⟨none, 0, 0, ret_LIB HK.out.symm rfl, by rw [HV.out]; exact OwnI.nil_ _ _ _, Below.refl _ _⟩
  · have HV := Lib.hid (packV_yes hc)
    have HK := Lib.hid (packL_yes hc)
    obtain ⟨b1, b2, b3, b4, _⟩ := canB_bd hc
    have hbd := sizesB_bd b1
    have hmn : m = n := by rw [← HX.out, ← HY.out]; exact b2
    have hn1 := hbd.1
    have hn16 := hbd.2.1
    rw [HX.out] at hn1 hn16
    have HBD := Lib.hid hbd.2.2
    have HZP := Lib.hid (zs_pos hbd.2.2)
    obtain ⟨R, rfl⟩ := Int.eq_ofNat_of_zero_le b3
    rw [Int.toNat_natCast, HX.out] at HV HK
    subst hmn
    clear hbd b2
    go_enter Try.func24, Try.ntmps24
    go_wp2_with (first | (go_at_call 27; refine (arePacks_any _ _ _ zs _ _ _ ys _ _ h hy hl hl2).mono ?_; rintro e w' ⟨rfl, rfl⟩) | fail)
    refine (gainTables_any A m c zs B m d ys R _ h hy (Nat.le_refl _) hl hl2 (by omega) HBD.out).mono ?_
    rintro e w1 ⟨O, on, oc, vs, rfl, hO, hrows, bb⟩
    have hon : on = m + 1 := by have h1 := hO.len; have h2 := hrows.1; rw [gainRows_len] at h2; omega
    subst hon
    have HO := Lib.hid hO
    have HRW := Lib.hid hrows
    have HCUT := Lib.hid (fun k r (hr : r ≤ R) => gC_cut (ys := ys) HZP.out k R r hr)
    have HROW := Lib.hid (show ∀ k, k ≤ m → ∃ (og pg pc : Nat), O = some ⟨og, 0, none⟩ ∧ og < w1.heap.size ∧ pg < w1.heap.size ∧ w1.cell? ⟨og, k, none⟩ = some (.slice (some ⟨pg, 0, none⟩) (R + 1) pc) ∧ ∀ r, r ≤ R → w1.cell? ⟨pg, r, none⟩ = some (.int .i64 (gC zs ys k r)) from by
      intro k hk
      obtain ⟨P1, pc, hv, hrow⟩ := HRW.out.at_ (k := k) (by rw [gainRows_len]; omega)
      rw [gainRows_get _ _ _ _ _ (by omega)] at hv hrow
      rw [gainT_len] at hv hrow
      obtain ⟨og, rfl, _, _, _, _⟩ := HO.out.pos (by omega)
      obtain ⟨pg, rfl, _, _, _, _⟩ := hrow.pos (by omega)
      have hoc := HO.out.cell (j := k) (by omega)
      refine ⟨og, pg, pc, rfl, (OwnC.lt HO.out rfl).2, (hrow.lt rfl).2, ?_, fun r hr => ?_⟩
      · rw [hoc, hv]
      · rw [hrow.cell (by omega), HCUT.out k r hr])
    obtain ⟨og, pg, pc, rfl, hog, _, oc1, oc2⟩ := HROW.out m (Nat.le_refl _)
    have oc3 := oc2 R (Nat.le_refl _)
    have q8 : (m : Int) < (m : Int) + 1 := by omega
    have q9 : (R : Int) < (R : Int) + 1 := by omega
    clear hO hrows oc2
    go_wp2_with fail
    clear oc1 oc3
    go_loopg [2, 11, 12] m (fun r rv sv i wr => ∃ (k q : Nat) (S : Option Addr) (sc : Nat), r = m - k ∧ k ≤ m ∧ i = .int .i64 ((m : Int) - 1 - k) ∧ rv = .int .i64 ((packTo zs ys R m k).2 : Nat) ∧ sv = .slice S q sc ∧ OwnI 2 w1.heap.size wr S q sc (packTo zs ys R m k).1 ∧ Below w1.heap.size w1 wr)
    case atStart => exact ⟨0, 0, none, 0, rfl, Nat.zero_le _, by simp, rfl, rfl, OwnI.nil_ _ _ _, Below.refl _ _⟩
    case round =>
      obtain ⟨k, q, S, sc, hr, hk, rfl, rfl, rfl, hown, hb⟩ := hrel
      have HR := Lib.hid hr
      clear hr
      have hq := packTo_bd zs ys R m k
      rw [hown.len] at hq
      obtain ⟨hq1, hq2⟩ := hq
      by_cases hlt : k < m
      · have e1 : ((m : Int) - 1 - k) = ((m - 1 - k : Nat) : Int) := by omega
        rw [e1]
        obtain ⟨ad, rfl, had, hcell⟩ := (h.below bb).at_ (show m - 1 - k < m by omega)
        replace hcell := hb.cell (p := ad.add (m - 1 - k)) (by rw [block_add]; exact had) ▸ hcell
        have hxx := HBD.out (m - 1 - k) (by rw [HX.out]; omega)
        have HY1 := Lib.hid (@packTo_yes zs ys R m k)
        have HN1 := Lib.hid (@packTo_no zs ys R m k)
        have HG := Lib.hid (@gC_gain zs ys (m - 1 - k) (packTo zs ys R m k).2)
        have HE := Lib.hid (show ((m - 1 - k : Nat) : Int) - 1 = (m : Int) - 1 - ((k + 1 : Nat) : Int) by omega)
        have hin : m - 1 - k < m := by omega
        obtain ⟨og', pg1, pc1, e2, _, p1, c1, c2⟩ := HROW.out (m - 1 - k) (by omega)
        injection e2 with e2
        injection e2 with e2
        subst e2
        obtain ⟨og', pg2, pc2, e3, _, p2, c3, c4⟩ := HROW.out (m - 1 - k + 1) (by omega)
        injection e3 with e3
        injection e3 with e3
        subst e3
        replace c1 := hb.cell (p := ⟨og, _, none⟩) hog ▸ c1
        replace c3 := hb.cell (p := ⟨og, _, none⟩) hog ▸ c3
        replace c2 := hb.cell (p := ⟨pg1, _, none⟩) p1 ▸ c2 _ hq1
        replace c4 := hb.cell (p := ⟨pg2, _, none⟩) p2 ▸ c4 _ hq1
        have hsz := hb.size
        have hcast : ((m - 1 - k + 1 : Nat) : Int) = ((m - 1 - k : Nat) : Int) + 1 := by omega
        clear e1
        generalize packTo zs ys R m k = PT at *
        obtain ⟨SL, L⟩ := PT
        simp only at hq1 hq2 HY1 HN1 HG c2 c4 hown ⊢
        generalize zs.getD (m - 1 - k) 0 = x at *
        generalize m - 1 - k = i at *
        generalize gC zs ys i L = gL at *
        generalize gC zs ys (i + 1) L = gR at *
        have k1 : (L : Int) < (R : Int) + 1 := by omega
        have k2 : (i : Int) < (m : Int) + 1 := by omega
        have k3 : (i : Int) + 1 < (m : Int) + 1 := by omega
        have HMAX := Lib.hid (show m - (k + 1) + 1 = m - k by omega)
        by_cases hlg : gL < gR
        · have HP := Lib.hid (HY1.out hlg)
          have hxl := HG.out hlg
          have HS2 := Lib.hid (show ((L - x.toNat : Nat) : Int) = (L : Int) - x by omega)
          clear HY1 HN1 hcast hin
          go_wp2_with (first | go_quiet (fail) | (at_builtin; refine wp_append_int _ _ rfl _ _ _ rfl 2 w1.heap.size Try.underlying22 info64 S q sc _ rfl (hown.drewN _) rfl (by omega) hsz ?_; intro g c1 w2 o1 u1 b1 _; have hcl2 := (b1.cell (p := ad.add i) (by rw [block_add]; exact had)).trans hcell))
          go_roundg (m - (k + 1))
          case measure => rw [HR.out]; omega
          case rel => exact ⟨k + 1, _, _, _, rfl, by omega, by rw [← HE.out], by rw [HP.out]; show Value.int _ (_ - x) = _; rw [← HS2.out], rfl, by rw [HP.out]; exact o1, (below_drewN hb _).trans b1⟩
        · have HP := Lib.hid (HN1.out hlg)
          clear HY1 HN1 hcast hin HG
          go_wp2_with go_quiet (fail)
          go_roundg (m - (k + 1))
          case measure => rw [HR.out]; omega
          case rel => exact ⟨k + 1, _, _, _, rfl, by omega, by rw [← HE.out], by rw [HP.out], rfl, by rw [HP.out]; exact hown.drewN _, below_drewN hb _⟩
      · have e : k = m := by omega
        subst e
        have hge : ¬ (0 : Int) ≤ (k : Int) - 1 - k := by omega
        have hsz := hb.size
        have hbw := below_ext bb bb.size hb
        go_wp2_with fail
        refine (reverse_any _ _ _ _ _ _ hown (by omega)).mono ?_
        rintro e w2 ⟨rfl, o2, u2⟩
        have hb2 := below_blk hbw (by have := bb.size; omega) u2 hown bb.size
        go_wp2_with fail
        go_ret3
        exact ⟨_, _, _, ret_LIB HK.out.symm rfl, by rw [HV.out]; exact o2.low bb.size, hb2⟩

theorem sep_append {T b : Nat} {w : World} {A S : Option Addr} {n c g : Nat} {zs : List Int} (h : Sep S A) (o : OwnI T b w A n c zs) (hg : blk S g ∨ w.heap.size ≤ g) : Sep (some ⟨g, 0, none⟩) A := by
  intro x y hx hy
  injection hx with hx
  subst hx
  rcases hg with ⟨ad, e1, e2⟩ | hg
  · have := h ad y e1 hy
    show g ≠ y.block
    omega
  · have := (o.lt hy).2
    show g ≠ y.block
    omega

set_option maxRecDepth 100000 in
set_option maxHeartbeats 3200000 in
theorem specBestPack_r (A : Option Addr) (n c : Nat) (zs : List Int) (B : Option Addr) (m d : Nat) (ys : List Int) (room : Int) (w : World) (h : IntsAt w A n zs) (hl : n ≤ 1048576) (hy : IntsAt w B m ys) (hl2 : m ≤ 1048576) :
    Calls Try.prog 23 #[.slice A n c, .slice B m d, .int .i64 room] w (RetLIB 2 (packV zs ys room) (packL zs ys room) (canB zs ys room) w) := by
  have HX := Lib.hid h.len
  have HY := Lib.hid hy.len
  cases hc : canB zs ys room
  · have HV := Lib.hid (packV_no hc)
    have HK := Lib.hid (packL_no hc)
    go_enter Try.func23, Try.ntmps23
    go_wp2_with (go_at_call 25; refine (l04Can_any _ _ _ zs _ _ _ ys _ _ h hy hl hl2).mono ?_; rintro e w' ⟨rfl, rfl⟩)
    go_ret3
    exact ⟨none, 0, 0, ret_LIB HK.out.symm rfl, by rw [HV.out]; exact OwnI.nil_ _ _ _, Below.refl _ _⟩
  · have HV := Lib.hid (packV_yes hc)
    have HK := Lib.hid (packL_yes hc)
    obtain ⟨b1, b2, b3, b4, _⟩ := canB_bd hc
    have hbd := sizesB_bd b1
    have hmn : m = n := by rw [← HX.out, ← HY.out]; exact b2
    have hn1 := hbd.1
    have hn16 := hbd.2.1
    rw [HX.out] at hn1 hn16
    have HBD := Lib.hid hbd.2.2
    have HZP := Lib.hid (zs_pos hbd.2.2)
    obtain ⟨R, rfl⟩ := Int.eq_ofNat_of_zero_le b3
    rw [Int.toNat_natCast, HX.out] at HV HK
    subst hmn
    clear hbd b2
    have he : OwnI 2 w.heap.size (w.alloc (.cells #[] 2)) (some ⟨w.heap.size, 0, none⟩) 0 0 [] := World.ownsRow_lit (e := 2) (base := w.heap.size) (size := 1) w #[] 0 (Nat.le_refl _) (Nat.zero_le _) rfl
    have hW : Below w.heap.size w (w.alloc (.cells #[] 2)) := (Below.refl _ _).alloc (Nat.le_refl _) _
    go_enter Try.func23, Try.ntmps23
    go_wp2_with (first | (go_at_call 25; refine (l04Can_any _ _ _ zs _ _ _ ys _ _ h hy hl hl2).mono ?_; rintro e w' ⟨rfl, rfl⟩) | fail)
    generalize w.alloc (.cells #[] 2) = w0 at *
    have h0 := h.below hW
    have hy0 := hy.below hW
    refine (l04Gains_any A m c zs B m d ys m R _ h0 hy0 (Nat.le_refl _) (Nat.le_refl _) hl (by omega) HBD.out).mono ?_
    rintro e w1 ⟨A1, n1, c1, rfl, o1, bb1⟩
    have hs1 := sep_new he o1
    have he1 := he.below bb1
    have hb1 := below_ext hW hW.size bb1
    have hle := o1.len
    rw [gainT_len] at hle
    subst hle
    replace o1 := o1.low hW.size
    clear he hW h0 hy0 bb1
    go_wp2_with fail
    go_loopg [9, 10, 12] m (fun r sv rv i wr => ∃ (k q : Nat) (S : Option Addr) (sc : Nat), r = m - k ∧ k ≤ m ∧ i = .int .i64 ((m : Int) - 1 - k) ∧ rv = .int .i64 ((packTo zs ys R m k).2 : Nat) ∧ sv = .slice S q sc ∧ OwnI 2 w.heap.size wr S q sc (packTo zs ys R m k).1 ∧ Below w.heap.size w wr ∧ OwnI 2 w.heap.size wr A1 (R + 1) c1 (gainT zs ys R m) ∧ Sep S A1)
    case atStart => exact ⟨0, 0, _, 0, rfl, Nat.zero_le _, by simp, rfl, rfl, he1, hb1, o1, hs1⟩
    case round =>
      clear he1 hb1 o1 hs1
      obtain ⟨k, q, S, sc, hr, hk, rfl, rfl, rfl, hown, hb, o1, hs⟩ := hrel
      have HR := Lib.hid hr
      clear hr
      have hq := packTo_bd zs ys R m k
      rw [hown.len] at hq
      obtain ⟨hq1, hq2⟩ := hq
      by_cases hlt : k < m
      · have e1 : ((m : Int) - 1 - k) = ((m - 1 - k : Nat) : Int) := by omega
        rw [e1]
        obtain ⟨ad, hA, had, hcell0⟩ := h.at_ (show m - 1 - k < m by omega)
        subst hA
        have hxx := HBD.out (m - 1 - k) (by rw [HX.out]; omega)
        have HY1 := Lib.hid (@packTo_yes zs ys R m k)
        have HN1 := Lib.hid (@packTo_no zs ys R m k)
        have HG := Lib.hid (@gC_gain zs ys (m - 1 - k) (packTo zs ys R m k).2)
        have HE := Lib.hid (show ((m - 1 - k : Nat) : Int) - 1 = (m : Int) - 1 - ((k + 1 : Nat) : Int) by omega)
        have hin : m - 1 - k < m := by omega
        have HC1 := Lib.hid (show gC zs ys (m - 1 - k) (packTo zs ys R m k).2 = (gainT zs ys (packTo zs ys R m k).2 (m - 1 - k)).getD (packTo zs ys R m k).2 0 from rfl)
        have HC2 := Lib.hid (show gC zs ys (m - 1 - k + 1) (packTo zs ys R m k).2 = (gainT zs ys (packTo zs ys R m k).2 (m - 1 - k + 1)).getD (packTo zs ys R m k).2 0 from rfl)
        clear e1
        generalize packTo zs ys R m k = PT at *
        obtain ⟨SL, L⟩ := PT
        simp only at hq1 hq2 HY1 HN1 HG hown HC1 HC2 ⊢
        generalize zs.getD (m - 1 - k) 0 = x at *
        generalize m - 1 - k = i at *
        generalize gC zs ys i L = gL at *
        generalize gC zs ys (i + 1) L = gR at *
        have h1 := h.below hb
        have hy1 := hy.below hb
        go_wp2_with fail
        rw [show (i : Int) + 1 = ((i + 1 : Nat) : Int) from by omega]
        refine (l04Gains_any _ m c zs B m d ys (i + 1) L _ h1 hy1 (by omega) (by omega) hl (by omega) HBD.out).mono ?_
        rintro e w2 ⟨A2, n2, c2, rfl, o2, bb2⟩
        have hl2 := o2.len
        rw [gainT_len] at hl2
        subst hl2
        have hcell1 := hb.cell (p := ad.add i) (by rw [block_add]; exact had) ▸ hcell0
        replace hb := below_ext hb hb.size bb2
        replace hown := hown.below bb2
        replace o1 := o1.below bb2
        have h2 := h1.below bb2
        have hy2 := hy1.below bb2
        clear h1 hy1 bb2
        go_wp2_with fail
        refine (l04Gains_any _ m c zs B m d ys i L _ h2 hy2 (by omega) (by omega) hl (by omega) HBD.out).mono ?_
        rintro e w3 ⟨A3, n3, c3, rfl, o3, bb3⟩
        have hl3 := o3.len
        rw [gainT_len] at hl3
        subst hl3
        replace hb := below_ext hb hb.size bb3
        replace hown := hown.below bb3
        replace o1 := o1.below bb3
        replace o2 := o2.below bb3
        clear h2 hy2 bb3 hcell1
        obtain ⟨g2, rfl, _, _, _, _⟩ := o2.pos (by omega)
        obtain ⟨g3, rfl, _, _, _, _⟩ := o3.pos (by omega)
        have d2 := o2.cell (j := L) (by omega)
        have d3 := o3.cell (j := L) (by omega)
        rw [← HC2.out] at d2
        rw [← HC1.out] at d3
        have hcell := hb.cell (p := ad.add i) (by rw [block_add]; exact had) ▸ hcell0
        have k1 : (L : Int) < (L : Int) + 1 := by omega
        have hsz := hb.size
        clear o2 o3 hcell0
        by_cases hlg : gL < gR
        · have HP := Lib.hid (HY1.out hlg)
          have hxl := HG.out hlg
          have HS2 := Lib.hid (show ((L - x.toNat : Nat) : Int) = (L : Int) - x by omega)
          clear HY1 HN1
          go_wp2_with (first | go_quiet (fail) | (at_builtin; refine wp_append_int _ _ rfl _ _ _ rfl 2 w.heap.size Try.underlying22 info64 S q sc _ rfl (hown.drewN _) rfl (by omega) hsz ?_; intro g c1 w4 o4 u4 b4 hg4; have hcl2 := (b4.cell (p := ad.add i) (by rw [block_add]; exact had)).trans hcell))
          go_roundg (m - (k + 1))
          case measure => rw [HR.out]; omega
          case rel => exact ⟨k + 1, _, _, _, rfl, by omega, by rw [← HE.out], by rw [HP.out]; show Value.int _ (_ - x) = _; rw [← HS2.out], rfl, by rw [HP.out]; exact o4, (below_drewN hb _).trans b4, (o1.drewN _).sep u4 hs.symm, sep_append hs (o1.drewN _) hg4⟩
        · have HP := Lib.hid (HN1.out (by omega))
          clear HY1 HN1 HG
          go_wp2_with go_quiet (fail)
          go_roundg (m - (k + 1))
          case measure => rw [HR.out]; omega
          case rel => exact ⟨k + 1, _, _, _, rfl, by omega, by rw [← HE.out], by rw [HP.out], rfl, by rw [HP.out]; exact hown.drewN _, below_drewN hb _, o1.drewN _, hs⟩
      · have e : k = m := by omega
        subst e
        have hge : ¬ (0 : Int) ≤ (k : Int) - 1 - k := by omega
        have hsz := hb.size
        obtain ⟨g1, rfl, _, _, _, _⟩ := o1.pos (by omega)
        have d1 := o1.cell (j := R) (by omega)
        have hg1 := (o1.lt rfl).2
        have hd := gC_cut (ys := ys) HZP.out k R R (Nat.le_refl _)
        rw [hd, ← HK.out] at d1
        have k1 : (R : Int) < (R : Int) + 1 := by omega
        have HQQ := Lib.hid hd
        clear hd o1
        go_wp2
        go_region_with (go_at_call 44; refine (l04Back_any _ _ _ _ _ (hown.ints.drewN _) (by omega)).mono ?_; rintro e w4 ⟨A4, n4, c4, rfl, o4, bb4⟩; have d4 := (bb4.cell (p := ⟨g1, R, none⟩) hg1).trans d1)
        all_goals
          go_wp2
          go_ret3
          exact ⟨_, _, _, ret_LIB rfl rfl, by rw [HV.out]; exact o4.low hsz, below_ext (below_drewN hb _) hsz bb4⟩
end Go.Proofs.Ytjpidpocaemkjaa
