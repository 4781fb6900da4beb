/- FirstBins: the contracts (written by gen_first.py). -/
import Derived.Test.YthhkgeeomhhegaaSortF
import Derived.Test.YthhkgeeomhhegaaOrder
import Derived.Test.YthhkgeeomhhegaaOpen
import Derived.StillTailTactics
namespace Go.Proofs.Ythhkgeeomhhegaa
open Go.RowKit

theorem ret_LIBf {A : Option Addr} {n c : Nat} {i j : Int} {a b : Bool} (h0 : i = j) (h : a = b) : Ending.returned (.tuple #[.slice A n c, .int .i64 i, .bool a]) = .returned (.tuple #[.slice A n c, .int .i64 j, .bool b]) := by rw [h0, h]
theorem fitB_iff {zs : List Int} {room : Int} : fitB zs room = true ↔ sizesB zs = true ∧ (0 ≤ room ∧ room ≤ 1000) ∧ ∀ j, j < zs.length → zs.getD j 0 ≤ room := by
  unfold fitB
  rw [Bool.and_eq_true, Bool.and_eq_true, inB_iff, all_le_iff]
theorem firstV_no {zs : List Int} {room : Int} (h : fitB zs room = false) : firstLV zs room = [] ∧ firstIV zs room = 0 := by
  unfold firstLV firstIV
  rw [h]; exact ⟨rfl, rfl⟩
theorem firstV_yes {zs : List Int} {room : Int} (h : fitB zs room = true) : firstLV zs room = (binsV zs room).2 ∧ firstIV zs room = ((binsV zs room).1.length : Nat) := by
  unfold firstLV firstIV
  rw [h]; exact ⟨rfl, rfl⟩
theorem firstLV_len (zs : List Int) (room : Int) : (firstLV zs room).length ≤ 1048576 := by
  cases h : fitB zs room
  · rw [(firstV_no h).1]; exact Nat.zero_le _
  · obtain ⟨h1, h2, h3⟩ := fitB_iff.1 h
    obtain ⟨n1, n2, hz⟩ := sizesB_bd h1
    rw [(firstV_yes h).1]
    unfold binsV
    rw [(fbTo_ok rfl h2 (fun k hk => ⟨by have := hz k hk; omega, h3 k hk⟩) (ordTo_len _ _) (ordTo_rng _ (Nat.le_refl _)) zs.length (Nat.le_refl _)).2]
    omega

theorem sep_appf {T b : Nat} {w : World} {A S : Option Addr} {n c g : Nat} {zs : List Int} (h : Sep S A) (o : OwnI T b w A n c zs) (hg : blk S g ∨ w.heap.size ≤ g) : Sep (some ⟨g, 0, none⟩) A := by
  intro x y hx hy
  injection hx with hx
  subst hx
  have h1 := (o.lt hy).2
  rcases hg with ⟨z, hz1, hz2⟩ | h2
  · have := h z y hz1 hy; show g ≠ y.block; omega
  · show g ≠ y.block; omega
set_option maxRecDepth 100000 in
set_option maxHeartbeats 1600000 in
theorem l04Fits_any (A : Option Addr) (n c : Nat) (zs : List Int) (room : Int) (w : World) (h : IntsAt w A n zs) (hl : n ≤ 1048576) :
    Calls Try.prog 34 #[.slice A n c, .int .i64 room] w fun e w' => e = .returned (.bool (fitB zs room)) ∧ w = w' := by
  have HL := Lib.hid h.len
  go_enter Try.func34, Try.ntmps34
  go_wp2_with fail
  go_loopg [5] n (fun r iv wi => ∃ (k : Nat), r = n - k ∧ k ≤ n ∧ iv = .int .i64 k ∧ Hid (∀ j, j < k → zs.getD j 0 ≤ room) ∧ w = wi)
  case atStart => exact ⟨0, rfl, Nat.zero_le _, rfl, Lib.hid (fun j hj => absurd hj (Nat.not_lt_zero j)), rfl⟩
  case round =>
    obtain ⟨k, hr, hk, rfl, HI, hw⟩ := hrel
    have HR := Lib.hid hr
    clear hr
    subst hw
    by_cases hlk : k < n
    · have hlk' : (k : Int) < (n : Int) := by omega
      obtain ⟨ad, rfl, _, ck⟩ := h.at_ hlk
      by_cases hgt : room < zs.getD k 0
      · have HF := Lib.hid (show fitB zs room = false by
          cases hf : fitB zs room
          · rfl
          · have := (fitB_iff.1 hf).2.2 k (by rw [HL.out]; exact hlk); omega)
        generalize zs.getD k 0 = x at *
        go_wp2_with fail
        go_ret
        exact ⟨ret_bool HF.out.symm, rfl⟩
      · have HI2 := Lib.hid (show ∀ j, j < k + 1 → zs.getD j 0 ≤ room from fun j hj => by
          by_cases e : j = k
          · subst e; omega
          · exact HI.out j (by omega))
        generalize zs.getD k 0 = x at *
        go_wp2_with fail
        go_roundg (n - (k + 1))
        case measure => rw [HR.out]; omega
        case rel => exact ⟨k + 1, rfl, by omega, by go_num, HI2, rfl⟩
    · have HB := Lib.hid (show fitB zs room = (sizesB zs && inB room 0 1000) by
        unfold fitB
        rw [show (zs.all fun x => decide (x ≤ room)) = true from all_le_iff.2 fun j hj => HI.out j (by rw [HL.out] at hj; omega), Bool.and_true])
      cases hs : sizesB zs
      · have HB2 := Lib.hid (show fitB zs room = false by rw [HB.out, hs]; rfl)
        go_wp2_with (first | (go_at_call 57; refine (l04Sizes_any _ _ _ zs _ h hl).mono ?_; rw [hs]; rintro e w' ⟨rfl, rfl⟩) | (go_at_call 56; refine (l00In_any _ _ _ _).mono ?_; rintro e w' ⟨rfl, rfl⟩))
        go_ret
        exact ⟨ret_bool HB2.out.symm, rfl⟩
      · cases hi : inB room 0 1000
        · have HB2 := Lib.hid (show fitB zs room = false by rw [HB.out, hs, hi]; rfl)
          go_wp2_with (first | (go_at_call 57; refine (l04Sizes_any _ _ _ zs _ h hl).mono ?_; rw [hs]; rintro e w' ⟨rfl, rfl⟩) | (go_at_call 56; refine (l00In_any _ _ _ _).mono ?_; rw [hi]; rintro e w' ⟨rfl, rfl⟩))
          go_ret
          exact ⟨ret_bool HB2.out.symm, rfl⟩
        · have HB2 := Lib.hid (show fitB zs room = true by rw [HB.out, hs, hi]; rfl)
          go_wp2_with (first | (go_at_call 57; refine (l04Sizes_any _ _ _ zs _ h hl).mono ?_; rw [hs]; rintro e w' ⟨rfl, rfl⟩) | (go_at_call 56; refine (l00In_any _ _ _ _).mono ?_; rw [hi]; rintro e w' ⟨rfl, rfl⟩))
          go_ret
          exact ⟨ret_bool HB2.out.symm, rfl⟩

set_option maxRecDepth 100000 in
set_option maxHeartbeats 3200000 in
theorem implFirstBins_r (A : Option Addr) (n c : Nat) (zs : List Int) (room : Int) (w : World) (h0 : IntsAt w A n zs) (hl : n ≤ 1048576) :
    Calls Try.prog 19 #[.slice A n c, .int .i64 room] w (RetLIB 2 (firstLV zs room) (firstIV zs room) (fitB zs room) w) := by
  have HL := Lib.hid h0.len
  have KS0 := Lib.hid (Blk.new w 22 #[.slice A n c])
  have hbw : Below w.heap.size w (w.alloc (.cells #[.slice A n c] 22)) := (Below.refl _ _).alloc (Nat.le_refl _) _
  have h := h0.alloc (.cells #[.slice A n c] 22)
  have hsw : w.heap.size < (w.alloc (.cells #[.slice A n c] 22)).heap.size := by simp
  have p1 := (KS0.out.cell 0).trans (show _ = some (Value.slice A n c) from rfl)
  clear h0
  cases hs : sizesB zs
  · have HF := Lib.hid (show fitB zs room = false by unfold fitB; rw [hs]; rfl)
    go_enter Try.func19, Try.ntmps19
    go_wp2_with (go_at_call 37; refine (implAreSizes_any _ _ _ zs _ h hl).mono ?_; rw [hs]; rintro e w1 ⟨rfl, rfl⟩)
    go_ret3
    exact ⟨none, 0, 0, ret_LIBf (firstV_no HF.out).2.symm HF.out.symm, by rw [(firstV_no HF.out).1]; exact OwnI.nil_ _ _ _, hbw⟩
  · obtain ⟨n1, n2, hz⟩ := sizesB_bd hs
    rw [HL.out] at n1 n2 hz
    have HZ := Lib.hid hz
    clear hz
    cases hi : inB room 0 1000
    · have HF := Lib.hid (show fitB zs room = false by unfold fitB; rw [hs, hi]; rfl)
      go_enter Try.func19, Try.ntmps19
      go_wp2_with (first | (go_at_call 37; refine (implAreSizes_any _ _ _ zs _ h hl).mono ?_; rw [hs]; rintro e w1 ⟨rfl, rfl⟩) | (go_at_call 38; refine (isRoom_any _ _).mono ?_; rw [hi]; rintro e w1 ⟨rfl, rfl⟩))
      go_ret3
      exact ⟨none, 0, 0, ret_LIBf (firstV_no HF.out).2.symm HF.out.symm, by rw [(firstV_no HF.out).1]; exact OwnI.nil_ _ _ _, hbw⟩
    · by_cases hmx : room < maxTo zs n
      · have HF := Lib.hid (show fitB zs room = false by
          cases hf : fitB zs room
          · rfl
          · have h3 := (maxTo_le (zs := zs) (r := room) n n1).2 (fun j hj => (fitB_iff.1 hf).2.2 j (by rw [HL.out]; exact hj))
            omega)
        go_enter Try.func19, Try.ntmps19
        go_wp2_with (first | (go_at_call 37; refine (implAreSizes_any _ _ _ zs _ h hl).mono ?_; rw [hs]; rintro e w1 ⟨rfl, rfl⟩) | (go_at_call 38; refine (isRoom_any _ _).mono ?_; rw [hi]; rintro e w1 ⟨rfl, rfl⟩) | (go_at_call 39; refine (max_any _ _ _ zs _ h n1 hl).mono ?_; rintro e w1 ⟨rfl, rfl⟩))
        go_ret3
        exact ⟨none, 0, 0, ret_LIBf (firstV_no HF.out).2.symm HF.out.symm, by rw [(firstV_no HF.out).1]; exact OwnI.nil_ _ _ _, hbw⟩
      · have hroom := inB_iff.1 hi
        have hle := (maxTo_le (zs := zs) (r := room) n n1).1 (by omega)
        have HF := Lib.hid (show fitB zs room = true from fitB_iff.2 ⟨hs, hroom, fun j hj => hle j (by rw [← HL.out]; exact hj)⟩)
        have HZR := Lib.hid (show ∀ k, k < n → 0 ≤ zs.getD k 0 ∧ zs.getD k 0 ≤ room from fun k hk => ⟨by have := HZ.out k hk; omega, hle k hk⟩)
        have HRO := Lib.hid (ordTo_rng (lt := ltF zs) n (Nat.le_refl n))
        have HLO := Lib.hid (ordTo_len (ltF zs) n)
        have HOK := Lib.hid (fbTo_ok HL.out hroom HZR.out HLO.out HRO.out)
        have HBV := Lib.hid (show binsV zs room = fbTo zs (ordTo (ltF zs) n) room n by unfold binsV; rw [HL.out])
        have HOB := Lib.hid (fun (W : World) (h1 : IntsAt W A n zs) (k1 : Blk W w.heap.size 22 #[.slice A n c]) => orderBy_F A n c zs w.heap.size W h1 k1 n1 n2)
        generalize hos : ordTo (ltF zs) n = os at *
        clear hos hle
        go_enter Try.func19, Try.ntmps19
        go_wp2_with (first | (go_at_call 37; refine (implAreSizes_any _ _ _ zs _ h hl).mono ?_; rw [hs]; rintro e w1 ⟨rfl, rfl⟩) | (go_at_call 38; refine (isRoom_any _ _).mono ?_; rw [hi]; rintro e w1 ⟨rfl, rfl⟩) | (go_at_call 39; refine (max_any _ _ _ zs _ h n1 hl).mono ?_; rintro e w1 ⟨rfl, rfl⟩) | (at_make; refine wp_make_ints _ rfl _ _ 22 rfl 2 Try.underlying22 info64 .i64 .i64 _ _ n rfl rfl rfl rfl (by omega) ?_; intro w1 gO oO bO; have p2 := ((KS0.out.ext bO).cell 0).trans (show _ = some (Value.slice A n c) from rfl)))
        generalize w.alloc (.cells #[.slice A n c] 22) = W0 at *
        refine (HOB.out w1 (h.below bO) (KS0.out.ext bO)).mono ?_
        rintro e w2 ⟨Q, cq, rfl, oQ, bQ⟩
        obtain ⟨gQ, rfl, _, _, _, _⟩ := oQ.pos (by omega)
        have hsOQ : Sep (some ⟨gO, 0, none⟩) (some ⟨gQ, 0, none⟩) := sep_new oO oQ
        have oQ0 := OwnI.low oQ bO.size
        have oO0 : OwnI 2 W0.heap.size w2 (some ⟨gO, 0, none⟩) n n (fbTo zs os room 0).2 := by
          show OwnI _ _ _ _ _ _ (List.replicate zs.length 0)
          rw [HL.out]; exact OwnI.below oO bQ
        have hbW : Below W0.heap.size W0 w2 := below_ext bO bO.size bQ
        have oB0 : OwnI 2 W0.heap.size w2 none 0 0 (fbTo zs os room 0).1 := OwnI.nil_ _ _ _
        have sBO0 : Sep (none : Option Addr) (some ⟨gO, 0, none⟩) := fun x y hx => by cases hx
        have sBQ0 : Sep (none : Option Addr) (some ⟨gQ, 0, none⟩) := fun x y hx => by cases hx
        have KS := KS0
        clear oO oQ bO bQ p2 p1 HOB
        go_wp2_with fail
        go_loopg [8, 34] n (fun r bv jv wi => ∃ (j : Nat) (Bb : Option Addr) (p cb : Nat), r = n - j ∧ j ≤ n ∧ bv = .slice Bb p cb ∧ jv = .int .i64 j ∧ OwnI 2 W0.heap.size wi Bb p cb (fbTo zs os room j).1 ∧ OwnI 2 W0.heap.size wi (some ⟨gO, 0, none⟩) n n (fbTo zs os room j).2 ∧ OwnI 2 W0.heap.size wi (some ⟨gQ, 0, none⟩) n cq os ∧ Sep Bb (some ⟨gO, 0, none⟩) ∧ Sep Bb (some ⟨gQ, 0, none⟩) ∧ Below W0.heap.size W0 wi)
        case atStart => exact ⟨0, _, 0, _, rfl, Nat.zero_le _, rfl, rfl, oB0, oO0, oQ0, sBO0, sBQ0, hbW⟩
        case round =>
          clear oB0 oO0 oQ0 sBO0 sBQ0 hbW
          obtain ⟨j, Bb, p, cb, hr, hj, rfl, rfl, oB, oO, oQ, sBO, sBQ, hb⟩ := hrel
          have HRJ := Lib.hid hr
          clear hr
          by_cases hlj : j < n
          · have hlj' : (j : Int) < (n : Int) := by omega
            obtain ⟨a, ha, ha2⟩ := HRO.out j (by rw [HLO.out]; exact hlj)
            have cQ := OwnI.cell oQ hlj
            have HT1 := Lib.hid (show (fbTo zs os room (j + 1)).1 = fbB (fbTo zs os room j).1 (zs.getD (os.getD j 0).toNat 0) room from rfl)
            have HT2 := Lib.hid (show (fbTo zs os room (j + 1)).2 = (fbTo zs os room j).2.set (os.getD j 0).toNat ((fbK (fbTo zs os room j).1 (zs.getD (os.getD j 0).toNat 0) : Nat) : Int) from rfl)
            have HBO := Lib.hid (HOK.out j hj).1
            rw [ha, Int.toNat_natCast] at HT1 HT2
            rw [ha] at cQ
            clear ha
            have HXB := HZR.out a ha2
            obtain ⟨ad, rfl, _, cx⟩ := (h.below hb).at_ ha2
            generalize hxv : zs.getD a 0 = x at *
            have HXV := Lib.hid hxv
            clear hxv
            have HBB := Lib.hid (fun (h1 : BinsOk (fbTo zs os room j).1 j) => fbX_ok (k := fbK (fbTo zs os room j).1 x) (room := room) h1 hroom)
            generalize fbTo zs os room j = F at *
            obtain ⟨bs, ot⟩ := F
            simp only at HT1 HT2 HBO HBB oB oO ⊢
            have HBL := Lib.hid (show bs.length = p from oB.len)
            have hp16 : p ≤ 16 := by have := HBO.out.1; have := HBL.out; omega
            have ha' : (a : Int) < (n : Int) := by omega
            obtain ⟨wo, rfl⟩ : ∃ wo : World, wo = wr := ⟨_, rfl⟩
            go_wp2_with fail
            go_loopg [11] p (fun r kv wi => ∃ (k : Nat), r = p - k ∧ k ≤ p ∧ kv = .int .i64 k ∧ Hid (fbGo bs x (p - k) k = fbK bs x) ∧ Drew wo wi)
            case atStart => exact ⟨0, rfl, Nat.zero_le _, rfl, Lib.hid (by rw [← HBL.out]; rfl), Drew.refl _⟩
            case round =>
              obtain ⟨k, hr, hk, rfl, HG, q, rfl⟩ := hrel
              have HRK := Lib.hid hr
              clear hr
              have oB1 := OwnI.drewN oB q
              have oO1 := OwnI.drewN oO q
              have oQ1 := OwnI.drewN oQ q
              have hb1 := below_drewN hb q
              have cx1 : (wo.drewN q).cell? (ad.add a) = some (.int .i64 x) := cx
              have hd1 : Drew wo (wo.drewN q) := ⟨q, rfl⟩
              clear cx oB oO oQ hb
              generalize wo.drewN q = W1 at *
              have pS : (W1).cell? ⟨w.heap.size, 0, none⟩ = some (Value.slice (some ad) n c) := ((KS.out.ext (hb1)).cell 0).trans (show _ = some (Value.slice (some ad) n c) from rfl)
              by_cases hlk : k < p
              · have hlk' : (k : Int) < (p : Int) := by omega
                obtain ⟨gB, rfl, _, _, _, _⟩ := oB1.pos (by omega)
                have ck := OwnI.cell oB1 hlk
                by_cases hless : bs.getD k 0 < x
                · have HV := Lib.hid (fbGo_yes HBL.out hlk hless)
                  have hk1 : k + 1 ≤ p := hlk
                  generalize bs.getD k 0 = y at *
                  go_wp2_with fail
                  go_quiet (fail)
                  go_wp2
                  go_roundg (p - (k + 1))
                  case measure => rw [HRK.out]; omega
                  case rel => exact ⟨k + 1, rfl, hk1, by go_num, Lib.hid (by rw [← HV.out]; exact HG.out), hd1.step _⟩
                · have HKK := Lib.hid (show fbK bs x = k by rw [← HG.out, fbGo_no HBL.out hlk hless])
                  have HBS := Lib.hid (show fbB bs x room = bs.set k (bs.getD k 0 - x) by unfold fbB; rw [HKK.out, show fbX bs k room = bs by unfold fbX; rw [if_neg (by rw [HBL.out]; omega)]])
                  rw [HKK.out] at HT2
                  have yb := HBO.out.2 k (by rw [HBL.out]; exact hlk)
                  have d0 : ((k : Int) == (p : Int)) = false := by rw [beq_eq_false_iff_ne]; omega
                  have d1 : ¬ (k : Int) = (p : Int) := by omega
                  obtain ⟨y0, hy0⟩ : ∃ y0 : Int, bs.getD k 0 = y0 := ⟨_, rfl⟩
                  rw [hy0] at ck hless
                  have HY0 := Lib.hid hy0
                  clear hy0
                  go_wp2_with fail
                  go_quiet (fail)
                  have oB := OwnI.drewN oB1 nq
                  have oO := OwnI.drewN oO1 nq
                  have oQ := OwnI.drewN oQ1 nq
                  have hb := below_drewN hb1 nq
                  clear ck cx1 pS oB1 oO1 oQ1 hb1 hd1
                  generalize W1.drewN nq = W3 at *
                  obtain ⟨kk, hkk⟩ : ∃ kk : Nat, kk = k := ⟨_, rfl⟩
                  obtain ⟨P, hPP⟩ : ∃ P : Nat, P = p := ⟨_, rfl⟩
                  obtain ⟨LL, hLL⟩ : ∃ LL : List Int, LL = bs := ⟨_, rfl⟩
                  have hkP : kk < P := by omega
                  rw [← hkk] at HBS yb d0 d1 HT2 ⊢
                  rw [← hLL] at yb oB
                  rw [← hPP] at oB d0 d1 ⊢
                  replace HBS := Lib.hid (show fbB bs x room = LL.set kk (LL.getD kk 0 - x) by rw [HBS.out, hLL])
                  clear hkk hPP hLL
                  have cx := ints_cell (h.below hb) ha2
                  rw [HXV.out] at cx
                  have pS : (W3).cell? ⟨w.heap.size, 0, none⟩ = some (Value.slice (some ad) n c) := ((KS.out.ext (hb)).cell 0).trans (show _ = some (Value.slice (some ad) n c) from rfl)
                  have cK := OwnI.cell oB hkP
                  have fK := OwnI.free oB kk
                  have hyb := yb
                  have oS := OwnI.set oB kk (LL.getD kk 0 - x)
                  rw [← HBS.out] at oS
                  have hgB := (OwnI.lt oB rfl).1
                  have hgO := (OwnI.lt oO rfl).1
                  have bS := hb.setCell (p := ⟨gB, kk, none⟩) hgB (.int .i64 (LL.getD kk 0 - x))
                  have oO2 := oO.far (p := ⟨gB, kk, none⟩) (fun ad2 had e => sBO _ ad2 rfl had e.symm) (.int .i64 (LL.getD kk 0 - x))
                  have oQ2 := oQ.far (p := ⟨gB, kk, none⟩) (fun ad2 had e => sBQ _ ad2 rfl had e.symm) (.int .i64 (LL.getD kk 0 - x))
                  generalize LL.getD kk 0 = y at *
                  have v1 : IntKind.i64.wrap (y - x) = y - x := IntWalk.i64_in _ (by omega)
                  have hkP' : (kk : Int) < (P : Int) := by omega
                  clear oB oO oQ hb
                  go_wp2_with fail
                  refine wp_region_still_tail 10 (by kernel_rfl) (by kernel_rfl) ?_
                  change wpStill _ _ W3.drew (fun a' => wpList _ _ _ _ a' W3.drew) _ _
                  simp only [List.take_succ_cons, List.take_zero, List.drop_succ_cons, List.drop_zero]
                  repeat still_step
                  refine wpStill_nil ?_
                  go_upto_region 14 with (fail)
                  replace oS := oS.drew
                  replace oO2 := oO2.drew
                  replace oQ2 := oQ2.drew
                  replace bS := bS.drew
                  have fO := OwnI.free oO2 a
                  have cO := OwnI.cell oO2 (j := a) ha2
                  have oOS := OwnI.set oO2 a (kk : Int)
                  rw [← HT2.out] at oOS
                  have oS2 := oS.far (p := ⟨gO, a, none⟩) (fun ad2 had e => by injection had with had; subst had; exact sBO _ _ rfl rfl e) (.int .i64 (kk : Int))
                  have oQ3 := oQ2.far (p := ⟨gO, a, none⟩) (fun ad2 had e => hsOQ _ ad2 rfl had e.symm) (.int .i64 (kk : Int))
                  have bS2 := bS.setCell (p := ⟨gO, a, none⟩) hgO (.int .i64 (kk : Int))
                  generalize ot.getD a 0 = z at *
                  go_wp2_with fail
                  go_roundg (n - (j + 1))
                  case measure => rw [HRJ.out]; omega
                  case rel => exact ⟨j + 1, _, P, _, rfl, by omega, rfl, by go_num, by rw [HT1.out]; exact oS2, oOS, oQ3, sBO, sBQ, bS2⟩
              · have e : p = k := by omega
                subst e
                have HKK := Lib.hid (show fbK bs x = p by rw [← HG.out, Nat.sub_self]; rfl)
                rw [HKK.out] at HT2
                go_wp2_with fail
                go_quiet (fail)
                have oB2 := OwnI.drewN oB1 nq
                have oO2 := OwnI.drewN oO1 nq
                have oQ2 := OwnI.drewN oQ1 nq
                have hb2 := below_drewN hb1 nq
                clear cx1 pS oB1 oO1 oQ1 hb1 hd1
                generalize W1.drewN nq = W2 at *
                have hsz := hb2.size
                go_wp2_with (at_builtin; refine wp_append_int _ _ rfl _ _ _ rfl 2 W0.heap.size Try.underlying22 info64 Bb p cb _ rfl oB2 rfl (by omega) hsz ?_; intro gB c4 W3 oB u4 b4 hg4)
                have oO := OwnI.sep oO2 u4 sBO.symm
                have oQ := OwnI.sep oQ2 u4 sBQ.symm
                have hb := hb2.trans b4
                have sBO' := sep_appf sBO oO2 hg4
                have sBQ' := sep_appf sBQ oQ2 hg4
                clear sBO sBQ
                have sBO := sBO'
                have sBQ := sBQ'
                have HGP := Lib.hid (show (bs ++ [room]).getD p 0 = room by
                  simp only [List.getD]
                  rw [List.getElem?_append_right (by rw [HBL.out]; exact Nat.le_refl _), HBL.out, Nat.sub_self]; rfl)
                have HBS := Lib.hid (show fbB bs x room = (bs ++ [room]).set p ((bs ++ [room]).getD p 0 - x) by unfold fbB; rw [HKK.out, show fbX bs p room = bs ++ [room] by unfold fbX; rw [if_pos HBL.out.symm]])
                have yb : 0 ≤ (bs ++ [room]).getD p 0 ∧ (bs ++ [room]).getD p 0 ≤ 1000 := by rw [HGP.out]; exact hroom
                obtain ⟨P, hPP⟩ : ∃ P : Nat, P = p + 1 := ⟨_, rfl⟩
                obtain ⟨kk, hkk⟩ : ∃ kk : Nat, kk = p := ⟨_, rfl⟩
                have hkP : kk < P := by omega
                rw [← hPP] at oB ⊢
                rw [← hkk] at HBS yb HT2 ⊢
                have d0 : ((kk : Int) == (kk : Int)) = true := beq_self_eq_true _
                clear hPP hkk HGP u4 b4 hg4 oB2 oO2 oQ2 hb2
                generalize bs ++ [room] = LL at *
                have cx := ints_cell (h.below hb) ha2
                rw [HXV.out] at cx
                have pS : (W3).cell? ⟨w.heap.size, 0, none⟩ = some (Value.slice (some ad) n c) := ((KS.out.ext (hb)).cell 0).trans (show _ = some (Value.slice (some ad) n c) from rfl)
                have cK := OwnI.cell oB hkP
                have fK := OwnI.free oB kk
                have hyb := yb
                have oS := OwnI.set oB kk (LL.getD kk 0 - x)
                rw [← HBS.out] at oS
                have hgB := (OwnI.lt oB rfl).1
                have hgO := (OwnI.lt oO rfl).1
                have bS := hb.setCell (p := ⟨gB, kk, none⟩) hgB (.int .i64 (LL.getD kk 0 - x))
                have oO2 := oO.far (p := ⟨gB, kk, none⟩) (fun ad2 had e => sBO _ ad2 rfl had e.symm) (.int .i64 (LL.getD kk 0 - x))
                have oQ2 := oQ.far (p := ⟨gB, kk, none⟩) (fun ad2 had e => sBQ _ ad2 rfl had e.symm) (.int .i64 (LL.getD kk 0 - x))
                generalize LL.getD kk 0 = y at *
                have v1 : IntKind.i64.wrap (y - x) = y - x := IntWalk.i64_in _ (by omega)
                have hkP' : (kk : Int) < (P : Int) := by omega
                clear oB oO oQ hb
                go_wp2_with fail
                refine wp_region_still_tail 10 (by kernel_rfl) (by kernel_rfl) ?_
                change wpStill _ _ W3.drew (fun a' => wpList _ _ _ _ a' W3.drew) _ _
                simp only [List.take_succ_cons, List.take_zero, List.drop_succ_cons, List.drop_zero]
                repeat still_step
                refine wpStill_nil ?_
                go_upto_region 14 with (fail)
                replace oS := oS.drew
                replace oO2 := oO2.drew
                replace oQ2 := oQ2.drew
                replace bS := bS.drew
                have fO := OwnI.free oO2 a
                have cO := OwnI.cell oO2 (j := a) ha2
                have oOS := OwnI.set oO2 a (kk : Int)
                rw [← HT2.out] at oOS
                have oS2 := oS.far (p := ⟨gO, a, none⟩) (fun ad2 had e => by injection had with had; subst had; exact sBO _ _ rfl rfl e) (.int .i64 (kk : Int))
                have oQ3 := oQ2.far (p := ⟨gO, a, none⟩) (fun ad2 had e => hsOQ _ ad2 rfl had e.symm) (.int .i64 (kk : Int))
                have bS2 := bS.setCell (p := ⟨gO, a, none⟩) hgO (.int .i64 (kk : Int))
                generalize ot.getD a 0 = z at *
                go_wp2_with fail
                go_roundg (n - (j + 1))
                case measure => rw [HRJ.out]; omega
                case rel => exact ⟨j + 1, _, P, _, rfl, by omega, rfl, by go_num, by rw [HT1.out]; exact oS2, oOS, oQ3, sBO, sBQ, bS2⟩
          · have e : n = j := by omega
            subst e
            have HCN := Lib.hid oB.len
            go_wp2_with (go_at_call 48; refine (size_any _ _).mono ?_; rintro e w' ⟨rfl, rfl⟩)
            go_ret3
            exact ⟨some ⟨gO, 0, none⟩, n, n, ret_LIBf (by rw [(firstV_yes HF.out).2, HBV.out, HCN.out]) (by first | exact HF.out.symm | rfl), by rw [(firstV_yes HF.out).1, HBV.out]; exact OwnI.low oO hbw.size, below_ext hbw hbw.size hb⟩

theorem rep_snoc (i : Nat) : List.replicate (i + 1) (1 : Int) = List.replicate i 1 ++ [1] := List.replicate_succ'
theorem ltQ_ones {zs : List Int} {n : Nat} (a b : Nat) (ha : a < n) (hb : b < n) : ltQ (List.replicate n 1) zs a b = ltF zs a b := by
  unfold ltQ ltF
  rw [show (List.replicate n (1 : Int)).getD (a : Int).toNat 0 = 1 by simp [List.getD, ha], show (List.replicate n (1 : Int)).getD (b : Int).toNat 0 = 1 by simp [List.getD, hb], Int.mul_one, Int.mul_one]
set_option maxRecDepth 100000 in
set_option maxHeartbeats 3200000 in
theorem specFirstBins_r (A : Option Addr) (n c : Nat) (zs : List Int) (room : Int) (w : World) (h : IntsAt w A n zs) (hl : n ≤ 1048576) :
    Calls Try.prog 18 #[.slice A n c, .int .i64 room] w (RetLIB 2 (firstLV zs room) (firstIV zs room) (fitB zs room) w) := by
  have HL := Lib.hid h.len
  have hbw := Below.refl w.heap.size w
  cases hf : fitB zs room
  · have HF := Lib.hid hf
    go_enter Try.func18, Try.ntmps18
    go_wp2_with (go_at_call 34; refine (l04Fits_any _ _ _ zs _ _ h hl).mono ?_; rw [hf]; rintro e w1 ⟨rfl, rfl⟩)
    go_ret3
    exact ⟨none, 0, 0, ret_LIBf (firstV_no HF.out).2.symm rfl, by rw [(firstV_no HF.out).1]; exact OwnI.nil_ _ _ _, hbw⟩
  · have HF := Lib.hid hf
    obtain ⟨hs, hroom, hle⟩ := fitB_iff.1 hf
    obtain ⟨n1, n2, hz⟩ := sizesB_bd hs
    rw [HL.out] at n1 n2 hz hle
    have HZ := Lib.hid hz
    have HZR := Lib.hid (show ∀ k, k < n → 0 ≤ zs.getD k 0 ∧ zs.getD k 0 ≤ room from fun k hk => ⟨by have := HZ.out k hk; omega, hle k hk⟩)
    have HRO := Lib.hid (ordTo_rng (lt := ltF zs) n (Nat.le_refl n))
    have HLO := Lib.hid (ordTo_len (ltF zs) n)
    have HOK := Lib.hid (fbTo_ok HL.out hroom HZR.out HLO.out HRO.out)
    have HBV := Lib.hid (show binsV zs room = fbTo zs (ordTo (ltF zs) n) room n by unfold binsV; rw [HL.out])
    have HOC := Lib.hid (show ordTo (ltQ (List.replicate n 1) zs) n = ordTo (ltF zs) n from ordTo_congr (N := n) (fun a b ha hb => ltQ_ones a b ha hb) n (Nat.le_refl n))
    have HOB := Lib.hid (fun (W : World) (O : Option Addr) (co : Nat) (h1 : IntsAt W O n (List.replicate n 1)) (h2 : IntsAt W A n zs) => l04Order_any O n co (List.replicate n 1) A c zs W h1 h2 n2 (fun k hk => by simp [List.getD, hk]) (fun k hk => by have := HZ.out k hk; omega))
    rw [HOC.out] at HOB
    generalize hos : ordTo (ltF zs) n = os at *
    clear hos hz hle hs HOC
    have hb0 : Below w.heap.size w (w.alloc (.cells #[] 2)) := (Below.refl _ _).alloc (Nat.le_refl _) _
    have o0 : OwnI 2 w.heap.size (w.alloc (.cells #[] 2)) (some ⟨w.heap.size, 0, none⟩) 0 0 (List.replicate 0 1) := World.ownsRow_lit (e := 2) (base := w.heap.size) (size := 1) w #[] 0 (Nat.le_refl _) (Nat.zero_le _) rfl
    go_enter Try.func18, Try.ntmps18
    go_wp2_with (go_at_call 34; refine (l04Fits_any _ _ _ zs _ _ h hl).mono ?_; rw [hf]; rintro e w1 ⟨rfl, rfl⟩)
    generalize w.alloc (.cells #[] 2) = w0 at *
    go_loopg [7, 8] n (fun r ov iv wi => ∃ (i : Nat) (O : Option Addr) (co : Nat), r = n - i ∧ i ≤ n ∧ ov = .slice O i co ∧ iv = .int .i64 i ∧ OwnI 2 w.heap.size wi O i co (List.replicate i 1) ∧ Below w.heap.size w wi)
    case atStart => exact ⟨0, _, _, rfl, Nat.zero_le _, rfl, rfl, o0, hb0⟩
    case round =>
      clear o0 hb0
      obtain ⟨i, O, co, hr, hi, rfl, rfl, oN, hb⟩ := hrel
      have HR := Lib.hid hr
      clear hr
      by_cases hli : i < n
      · have hli' : (i : Int) < (n : Int) := by omega
        have hsz := hb.size
        have HRS := Lib.hid (rep_snoc i)
        generalize List.replicate i (1 : Int) = on at *
        go_wp2_with (at_builtin; refine wp_append_int _ _ rfl _ _ _ rfl 2 w.heap.size Try.underlying22 info64 O i co _ rfl oN rfl (by omega) hsz ?_; intro g4 c4 w4 o4 u4 b4 hg4)
        go_roundg (n - (i + 1))
        case measure => rw [HR.out]; omega
        case rel => exact ⟨i + 1, _, c4, rfl, by omega, rfl, by go_num, by rw [HRS.out]; exact o4, hb.trans b4⟩
      · have e : n = i := by omega
        subst e
        clear HR
        go_wp2_with fail
        refine (HOB.out _ O co oN.ints (h.below hb)).mono ?_
        rintro e w2 ⟨Q, cq, rfl, oQ, bQ⟩
        obtain ⟨gQ, rfl, _, _, _, _⟩ := oQ.pos (by omega)
        have oQ1 := OwnI.low oQ hb.size
        have hb2 := below_ext hb hb.size bQ
        clear oQ bQ oN hb HOB
        go_wp2_with (at_make; refine wp_make_ints _ rfl _ _ 22 rfl 2 Try.underlying22 info64 .i64 .i64 _ _ n rfl rfl rfl rfl (by omega) ?_; intro w3 gO oO bO)
        have hsOQ : Sep (some ⟨gO, 0, none⟩) (some ⟨gQ, 0, none⟩) := (sep_new oQ1 oO).symm
        have oQ2 := oQ1.below bO
        have oO2 := OwnI.low oO hb2.size
        have hb3 := below_ext hb2 hb2.size bO
        have hsz := hb3.size
        clear oO bO oQ1 hb2
        have oQ0 := oQ2.alloc (.cells #[] 2)
        have oO0 : OwnI 2 w.heap.size (w3.alloc (.cells #[] 2)) (some ⟨gO, 0, none⟩) n n (fbTo zs os room 0).2 := by
          show OwnI _ _ _ _ _ _ (List.replicate zs.length 0)
          rw [HL.out]; exact oO2.alloc _
        have hbW := hb3.alloc hsz (.cells #[] 2)
        have oB0 : OwnI 2 w.heap.size (w3.alloc (.cells #[] 2)) (some ⟨w3.heap.size, 0, none⟩) 0 0 (fbTo zs os room 0).1 := World.ownsRow_lit (e := 2) (base := w.heap.size) (size := 1) w3 #[] 0 hsz (Nat.zero_le _) rfl
        have sBO0 : Sep (some ⟨w3.heap.size, 0, none⟩) (some ⟨gO, 0, none⟩) := fun x y hx hy => by
          injection hx with hx; subst hx; have := (oO2.lt hy).2; show w3.heap.size ≠ y.block; omega
        have sBQ0 : Sep (some ⟨w3.heap.size, 0, none⟩) (some ⟨gQ, 0, none⟩) := fun x y hx hy => by
          injection hx with hx; subst hx; have := (oQ2.lt hy).2; show w3.heap.size ≠ y.block; omega
        clear oQ2 oO2 hb3
        go_wp2_with fail
        generalize w3.alloc (.cells #[] 2) = w4 at *
        go_loopg [11, 12] n (fun r bv jv wi => ∃ (j : Nat) (Bb : Option Addr) (p cb : Nat), r = n - j ∧ j ≤ n ∧ bv = .slice Bb p cb ∧ jv = .int .i64 j ∧ OwnI 2 w.heap.size wi Bb p cb (fbTo zs os room j).1 ∧ OwnI 2 w.heap.size wi (some ⟨gO, 0, none⟩) n n (fbTo zs os room j).2 ∧ OwnI 3 w.heap.size wi (some ⟨gQ, 0, none⟩) n cq os ∧ Sep Bb (some ⟨gO, 0, none⟩) ∧ Sep Bb (some ⟨gQ, 0, none⟩) ∧ Below w.heap.size w wi)
        case atStart => exact ⟨0, _, 0, _, rfl, Nat.zero_le _, rfl, rfl, oB0, oO0, oQ0, sBO0, sBQ0, hbW⟩
        case round =>
          clear oB0 oO0 oQ0 sBO0 sBQ0 hbW
          obtain ⟨j, Bb, p, cb, hr, hj, rfl, rfl, oB, oO, oQ, sBO, sBQ, hb⟩ := hrel
          have HRJ := Lib.hid hr
          clear hr
          by_cases hlj : j < n
          · have hlj' : (j : Int) < (n : Int) := by omega
            obtain ⟨a, ha, ha2⟩ := HRO.out j (by rw [HLO.out]; exact hlj)
            have cQ := OwnI.cell oQ hlj
            have HT1 := Lib.hid (show (fbTo zs os room (j + 1)).1 = fbB (fbTo zs os room j).1 (zs.getD (os.getD j 0).toNat 0) room from rfl)
            have HT2 := Lib.hid (show (fbTo zs os room (j + 1)).2 = (fbTo zs os room j).2.set (os.getD j 0).toNat ((fbK (fbTo zs os room j).1 (zs.getD (os.getD j 0).toNat 0) : Nat) : Int) from rfl)
            have HBO := Lib.hid (HOK.out j hj).1
            rw [ha, Int.toNat_natCast] at HT1 HT2
            rw [ha] at cQ
            clear ha
            have HXB := HZR.out a ha2
            obtain ⟨ad, rfl, _, cx⟩ := (h.below hb).at_ ha2
            generalize hxv : zs.getD a 0 = x at *
            have HXV := Lib.hid hxv
            clear hxv
            have HBB := Lib.hid (fun (h1 : BinsOk (fbTo zs os room j).1 j) => fbX_ok (k := fbK (fbTo zs os room j).1 x) (room := room) h1 hroom)
            generalize fbTo zs os room j = F at *
            obtain ⟨bs, ot⟩ := F
            simp only at HT1 HT2 HBO HBB oB oO ⊢
            have HBL := Lib.hid (show bs.length = p from oB.len)
            have hp16 : p ≤ 16 := by have := HBO.out.1; have := HBL.out; omega
            have ha' : (a : Int) < (n : Int) := by omega
            obtain ⟨wo, rfl⟩ : ∃ wo : World, wo = wr := ⟨_, rfl⟩
            go_wp2_with fail
            go_loopg [14] p (fun r kv wi => ∃ (k : Nat), r = p - k ∧ k ≤ p ∧ kv = .int .i64 k ∧ Hid (fbGo bs x (p - k) k = fbK bs x) ∧ Drew wo wi)
            case atStart => exact ⟨0, rfl, Nat.zero_le _, rfl, Lib.hid (by rw [← HBL.out]; rfl), Drew.refl _⟩
            case round =>
              obtain ⟨k, hr, hk, rfl, HG, q, rfl⟩ := hrel
              have HRK := Lib.hid hr
              clear hr
              have oB1 := OwnI.drewN oB q
              have oO1 := OwnI.drewN oO q
              have oQ1 := OwnI.drewN oQ q
              have hb1 := below_drewN hb q
              have cx1 : (wo.drewN q).cell? (ad.add a) = some (.int .i64 x) := cx
              have hd1 : Drew wo (wo.drewN q) := ⟨q, rfl⟩
              clear cx oB oO oQ hb
              generalize wo.drewN q = W1 at *
              by_cases hlk : k < p
              · have hlk' : (k : Int) < (p : Int) := by omega
                obtain ⟨gB, rfl, _, _, _, _⟩ := oB1.pos (by omega)
                have ck := OwnI.cell oB1 hlk
                by_cases hless : bs.getD k 0 < x
                · have HV := Lib.hid (fbGo_yes HBL.out hlk hless)
                  have hk1 : k + 1 ≤ p := hlk
                  generalize bs.getD k 0 = y at *
                  go_wp2_with fail
                  go_quiet (fail)
                  go_wp2
                  go_roundg (p - (k + 1))
                  case measure => rw [HRK.out]; omega
                  case rel => exact ⟨k + 1, rfl, hk1, by go_num, Lib.hid (by rw [← HV.out]; exact HG.out), hd1.step _⟩
                · have HKK := Lib.hid (show fbK bs x = k by rw [← HG.out, fbGo_no HBL.out hlk hless])
                  have HBS := Lib.hid (show fbB bs x room = bs.set k (bs.getD k 0 - x) by unfold fbB; rw [HKK.out, show fbX bs k room = bs by unfold fbX; rw [if_neg (by rw [HBL.out]; omega)]])
                  rw [HKK.out] at HT2
                  have yb := HBO.out.2 k (by rw [HBL.out]; exact hlk)
                  have d0 : ((k : Int) == (p : Int)) = false := by rw [beq_eq_false_iff_ne]; omega
                  have d1 : ¬ (k : Int) = (p : Int) := by omega
                  obtain ⟨y0, hy0⟩ : ∃ y0 : Int, bs.getD k 0 = y0 := ⟨_, rfl⟩
                  rw [hy0] at ck hless
                  have HY0 := Lib.hid hy0
                  clear hy0
                  go_wp2_with fail
                  go_quiet (fail)
                  have oB := OwnI.drewN oB1 nq
                  have oO := OwnI.drewN oO1 nq
                  have oQ := OwnI.drewN oQ1 nq
                  have hb := below_drewN hb1 nq
                  clear ck cx1  oB1 oO1 oQ1 hb1 hd1
                  generalize W1.drewN nq = W3 at *
                  obtain ⟨kk, hkk⟩ : ∃ kk : Nat, kk = k := ⟨_, rfl⟩
                  obtain ⟨P, hPP⟩ : ∃ P : Nat, P = p := ⟨_, rfl⟩
                  obtain ⟨LL, hLL⟩ : ∃ LL : List Int, LL = bs := ⟨_, rfl⟩
                  have hkP : kk < P := by omega
                  rw [← hkk] at HBS yb d0 d1 HT2 ⊢
                  rw [← hLL] at yb oB
                  rw [← hPP] at oB d0 d1 ⊢
                  replace HBS := Lib.hid (show fbB bs x room = LL.set kk (LL.getD kk 0 - x) by rw [HBS.out, hLL])
                  clear hkk hPP hLL
                  have cx := ints_cell (h.below hb) ha2
                  rw [HXV.out] at cx
                  have cK := OwnI.cell oB hkP
                  have fK := OwnI.free oB kk
                  have hyb := yb
                  have oS := OwnI.set oB kk (LL.getD kk 0 - x)
                  rw [← HBS.out] at oS
                  have hgB := (OwnI.lt oB rfl).1
                  have hgO := (OwnI.lt oO rfl).1
                  have bS := hb.setCell (p := ⟨gB, kk, none⟩) hgB (.int .i64 (LL.getD kk 0 - x))
                  have oO2 := oO.far (p := ⟨gB, kk, none⟩) (fun ad2 had e => sBO _ ad2 rfl had e.symm) (.int .i64 (LL.getD kk 0 - x))
                  have oQ2 := oQ.far (p := ⟨gB, kk, none⟩) (fun ad2 had e => sBQ _ ad2 rfl had e.symm) (.int .i64 (LL.getD kk 0 - x))
                  generalize LL.getD kk 0 = y at *
                  have v1 : IntKind.i64.wrap (y - x) = y - x := IntWalk.i64_in _ (by omega)
                  have hkP' : (kk : Int) < (P : Int) := by omega
                  clear oB oO oQ hb
                  go_wp2_with fail
                  refine wp_region_still_tail 10 (by kernel_rfl) (by kernel_rfl) ?_
                  change wpStill _ _ W3.drew (fun a' => wpList _ _ _ _ a' W3.drew) _ _
                  simp only [List.take_succ_cons, List.take_zero, List.drop_succ_cons, List.drop_zero]
                  repeat still_step
                  refine wpStill_nil ?_
                  go_upto_region 21 with (fail)
                  replace oS := oS.drew
                  replace oO2 := oO2.drew
                  replace oQ2 := oQ2.drew
                  replace bS := bS.drew
                  have fO := OwnI.free oO2 a
                  have cO := OwnI.cell oO2 (j := a) ha2
                  have oOS := OwnI.set oO2 a (kk : Int)
                  rw [← HT2.out] at oOS
                  have oS2 := oS.far (p := ⟨gO, a, none⟩) (fun ad2 had e => by injection had with had; subst had; exact sBO _ _ rfl rfl e) (.int .i64 (kk : Int))
                  have oQ3 := oQ2.far (p := ⟨gO, a, none⟩) (fun ad2 had e => hsOQ _ ad2 rfl had e.symm) (.int .i64 (kk : Int))
                  have bS2 := bS.setCell (p := ⟨gO, a, none⟩) hgO (.int .i64 (kk : Int))
                  generalize ot.getD a 0 = z at *
                  go_wp2_with fail
                  go_roundg (n - (j + 1))
                  case measure => rw [HRJ.out]; omega
                  case rel => exact ⟨j + 1, _, P, _, rfl, by omega, rfl, by go_num, by rw [HT1.out]; exact oS2, oOS, oQ3, sBO, sBQ, bS2⟩
              · have e : p = k := by omega
                subst e
                have HKK := Lib.hid (show fbK bs x = p by rw [← HG.out, Nat.sub_self]; rfl)
                rw [HKK.out] at HT2
                go_wp2_with fail
                go_quiet (fail)
                have oB2 := OwnI.drewN oB1 nq
                have oO2 := OwnI.drewN oO1 nq
                have oQ2 := OwnI.drewN oQ1 nq
                have hb2 := below_drewN hb1 nq
                clear cx1  oB1 oO1 oQ1 hb1 hd1
                generalize W1.drewN nq = W2 at *
                have hsz := hb2.size
                go_wp2_with (at_builtin; refine wp_append_int _ _ rfl _ _ _ rfl 2 w.heap.size Try.underlying22 info64 Bb p cb _ rfl oB2 rfl (by omega) hsz ?_; intro gB c4 W3 oB u4 b4 hg4)
                have oO := OwnI.sep oO2 u4 sBO.symm
                have oQ := OwnI.sep oQ2 u4 sBQ.symm
                have hb := hb2.trans b4
                have sBO' := sep_appf sBO oO2 hg4
                have sBQ' := sep_appf sBQ oQ2 hg4
                clear sBO sBQ
                have sBO := sBO'
                have sBQ := sBQ'
                have HGP := Lib.hid (show (bs ++ [room]).getD p 0 = room by
                  simp only [List.getD]
                  rw [List.getElem?_append_right (by rw [HBL.out]; exact Nat.le_refl _), HBL.out, Nat.sub_self]; rfl)
                have HBS := Lib.hid (show fbB bs x room = (bs ++ [room]).set p ((bs ++ [room]).getD p 0 - x) by unfold fbB; rw [HKK.out, show fbX bs p room = bs ++ [room] by unfold fbX; rw [if_pos HBL.out.symm]])
                have yb : 0 ≤ (bs ++ [room]).getD p 0 ∧ (bs ++ [room]).getD p 0 ≤ 1000 := by rw [HGP.out]; exact hroom
                obtain ⟨P, hPP⟩ : ∃ P : Nat, P = p + 1 := ⟨_, rfl⟩
                obtain ⟨kk, hkk⟩ : ∃ kk : Nat, kk = p := ⟨_, rfl⟩
                have hkP : kk < P := by omega
                rw [← hPP] at oB ⊢
                rw [← hkk] at HBS yb HT2 ⊢
                have d0 : ((kk : Int) == (kk : Int)) = true := beq_self_eq_true _
                clear hPP hkk HGP u4 b4 hg4 oB2 oO2 oQ2 hb2
                generalize bs ++ [room] = LL at *
                have cx := ints_cell (h.below hb) ha2
                rw [HXV.out] at cx
                have cK := OwnI.cell oB hkP
                have fK := OwnI.free oB kk
                have hyb := yb
                have oS := OwnI.set oB kk (LL.getD kk 0 - x)
                rw [← HBS.out] at oS
                have hgB := (OwnI.lt oB rfl).1
                have hgO := (OwnI.lt oO rfl).1
                have bS := hb.setCell (p := ⟨gB, kk, none⟩) hgB (.int .i64 (LL.getD kk 0 - x))
                have oO2 := oO.far (p := ⟨gB, kk, none⟩) (fun ad2 had e => sBO _ ad2 rfl had e.symm) (.int .i64 (LL.getD kk 0 - x))
                have oQ2 := oQ.far (p := ⟨gB, kk, none⟩) (fun ad2 had e => sBQ _ ad2 rfl had e.symm) (.int .i64 (LL.getD kk 0 - x))
                generalize LL.getD kk 0 = y at *
                have v1 : IntKind.i64.wrap (y - x) = y - x := IntWalk.i64_in _ (by omega)
                have hkP' : (kk : Int) < (P : Int) := by omega
                clear oB oO oQ hb
                go_wp2_with fail
                refine wp_region_still_tail 10 (by kernel_rfl) (by kernel_rfl) ?_
                change wpStill _ _ W3.drew (fun a' => wpList _ _ _ _ a' W3.drew) _ _
                simp only [List.take_succ_cons, List.take_zero, List.drop_succ_cons, List.drop_zero]
                repeat still_step
                refine wpStill_nil ?_
                go_upto_region 21 with (fail)
                replace oS := oS.drew
                replace oO2 := oO2.drew
                replace oQ2 := oQ2.drew
                replace bS := bS.drew
                have fO := OwnI.free oO2 a
                have cO := OwnI.cell oO2 (j := a) ha2
                have oOS := OwnI.set oO2 a (kk : Int)
                rw [← HT2.out] at oOS
                have oS2 := oS.far (p := ⟨gO, a, none⟩) (fun ad2 had e => by injection had with had; subst had; exact sBO _ _ rfl rfl e) (.int .i64 (kk : Int))
                have oQ3 := oQ2.far (p := ⟨gO, a, none⟩) (fun ad2 had e => hsOQ _ ad2 rfl had e.symm) (.int .i64 (kk : Int))
                have bS2 := bS.setCell (p := ⟨gO, a, none⟩) hgO (.int .i64 (kk : Int))
                generalize ot.getD a 0 = z at *
                go_wp2_with fail
                go_roundg (n - (j + 1))
                case measure => rw [HRJ.out]; omega
                case rel => exact ⟨j + 1, _, P, _, rfl, by omega, rfl, by go_num, by rw [HT1.out]; exact oS2, oOS, oQ3, sBO, sBQ, bS2⟩
          · have e : n = j := by omega
            subst e
            have HCN := Lib.hid oB.len
            go_wp2_with fail
            go_ret3
            exact ⟨some ⟨gO, 0, none⟩, n, n, ret_LIBf (by rw [(firstV_yes HF.out).2, HBV.out, HCN.out]) (by first | exact HF.out.symm | rfl), by rw [(firstV_yes HF.out).1, HBV.out]; exact OwnI.low oO hbw.size, below_ext hbw hbw.size hb⟩
end Go.Proofs.Ythhkgeeomhhegaa
