/- LeastLongs of the reference: the walk. -/
import Derived.Test.YtpaahjeohigngaaJ5
import Derived.StillTailTactics
namespace Go.Proofs.Ytpaahjeohigngaa
open Go.RowKit

theorem relax_bd {xs : List ArcR} {N : Nat} {D : List Int} {m : Int} (hx : ∀ i, i < xs.length → (0 ≤ (xs.getD i default).fr ∧ (xs.getD i default).fr < N) ∧ (0 ≤ (xs.getD i default).to_ ∧ (xs.getD i default).to_ < N)) (hc : ∀ i, i < xs.length → 0 ≤ (xs.getD i default).cost ∧ (xs.getD i default).cost ≤ 1000) (hl : D.length = N) (h : ∀ v, v < N → -1 ≤ D.getD v 0 ∧ D.getD v 0 ≤ m) (hm : 0 ≤ m) : ∀ k : Nat, k ≤ xs.length → ∀ v, v < N → -1 ≤ (relaxTo xs D k).getD v 0 ∧ (relaxTo xs D k).getD v 0 ≤ m + 1000 * k
  | 0, _, v, hv => by have := h v hv; show -1 ≤ D.getD v 0 ∧ D.getD v 0 ≤ m + 1000 * (0 : Nat); omega
  | k + 1, hk, v, hv => by
    have ih := relax_bd hx hc hl h hm k (by omega)
    obtain ⟨⟨a0, a1⟩, ⟨b0, b1⟩⟩ := hx k (by omega)
    have hck := hc k (by omega)
    have h1 := ih v hv
    have h2 := ih (xs.getD k default).fr.toNat (by omega)
    rw [relaxTo]
    split
    · rename_i hcond
      rw [getD_setL _ _ v _ (by rw [relaxTo_len, hl]; omega)]
      have := hcond.1
      split <;> omega
    · omega
theorem rounds_bd {xs : List ArcR} {N f : Nat} (hx : ∀ i, i < xs.length → (0 ≤ (xs.getD i default).fr ∧ (xs.getD i default).fr < N) ∧ (0 ≤ (xs.getD i default).to_ ∧ (xs.getD i default).to_ < N)) (hc : ∀ i, i < xs.length → 0 ≤ (xs.getD i default).cost ∧ (xs.getD i default).cost ≤ 1000) (hn : xs.length ≤ 48) (hf : f < N) : ∀ r : Nat, ∀ v, v < N → -1 ≤ (roundsL xs N f r).getD v 0 ∧ (roundsL xs N f r).getD v 0 ≤ 48000 * r
  | 0, v, hv => by
    rw [roundsL, getD_setL _ f v _ (by simpa using hf)]
    split
    · omega
    · have : (List.replicate N (-1 : Int)).getD v 0 = -1 := by simp [List.getD, hv]
      rw [this]; omega
  | r + 1, v, hv => by
    have ih := rounds_bd hx hc hn hf r
    have := relax_bd hx hc (roundsL_len xs N f r) ih (by omega) xs.length (Nat.le_refl _) v hv
    rw [roundsL]
    omega
theorem relax_no1 {xs : List ArcR} {D : List Int} {k : Nat} (h : ¬ 0 ≤ (relaxTo xs D k).getD (xs.getD k default).fr.toNat 0) : relaxTo xs D (k + 1) = relaxTo xs D k := by rw [relaxTo, if_neg (fun hh => h hh.1)]
theorem relax_no2 {xs : List ArcR} {D : List Int} {k : Nat} (h1 : ¬ (relaxTo xs D k).getD (xs.getD k default).to_.toNat 0 < 0) (h2 : ¬ (relaxTo xs D k).getD (xs.getD k default).fr.toNat 0 + (xs.getD k default).cost < (relaxTo xs D k).getD (xs.getD k default).to_.toNat 0) : relaxTo xs D (k + 1) = relaxTo xs D k := by
  rw [relaxTo, if_neg]
  rintro ⟨_, h | h⟩
  · exact h1 h
  · exact h2 h
theorem relax_yes {xs : List ArcR} {D : List Int} {k : Nat} (h : 0 ≤ (relaxTo xs D k).getD (xs.getD k default).fr.toNat 0) (h2 : (relaxTo xs D k).getD (xs.getD k default).to_.toNat 0 < 0 ∨ (relaxTo xs D k).getD (xs.getD k default).fr.toNat 0 + (xs.getD k default).cost < (relaxTo xs D k).getD (xs.getD k default).to_.toNat 0) :
    relaxTo xs D (k + 1) = (relaxTo xs D k).set (xs.getD k default).to_.toNat ((relaxTo xs D k).getD (xs.getD k default).fr.toNat 0 + (xs.getD k default).cost) := by rw [relaxTo, if_pos ⟨h, h2⟩]

set_option maxRecDepth 100000 in
theorem l03NodeL_any (g : Nat) (nodes : Int) (A : Option Addr) (n c : Nat) (xs : List ArcR) (a : Int) (w : World) (hb : Blk w g 26 #[.int .i64 nodes, .slice A n c]) (h : ArcsAt w A n xs) (hn0 : n ≤ maxLen) :
    Calls Try.prog 35 #[.pointer (some ⟨g, 0, none⟩), .int .i64 a] w fun e w' => e = .returned (.bool (validB nodes xs && inB a 0 (nodes - 1))) ∧ Drew w w' := by
  cases hv : validB nodes xs
  · go_enter Try.func35, Try.ntmps35
    go_wp2_with fail
    refine (l03Is_any g nodes A n c xs _ hb h hn0).mono ?_
    rw [hv]
    rintro e w1 ⟨rfl, hd⟩
    go_wp2_with fail
    go_ret
    exact ⟨rfl, hd⟩
  · obtain ⟨n0, n1, _⟩ := valid_bd hv
    go_enter Try.func35, Try.ntmps35
    go_wp2_with fail
    refine (l03Is_any g nodes A n c xs _ hb h hn0).mono ?_
    rw [hv]
    rintro e w1 ⟨rfl, hd⟩
    have q0 := (hb.ext hd.below).cell 0
    go_wp2_with fail
    refine (l00In_any _ _ _ _).mono ?_
    rintro e w' ⟨rfl, rfl⟩
    go_wp2_with fail
    go_ret
    exact ⟨rfl, hd⟩
set_option maxRecDepth 100000 in
set_option maxHeartbeats 6400000 in
theorem specLeastLongs_r (nodes : Int) (A : Option Addr) (n c : Nat) (xs : List ArcR) (f : Int) (w : World) (h : ArcsAt w A n xs) (hn0 : n ≤ maxLen) :
    Calls Try.prog 13 #[.agg #[.int .i64 nodes, .slice A n c], .int .i64 f] w (RetLB 2 (longsV nodes xs f) (longsB nodes xs f) w) := by
  have HX := Lib.hid h.len
  have hW : Below w.heap.size w (w.alloc (.cells #[.int .i64 nodes, .slice A n c] 26)) := (Below.refl _ _).alloc (Nat.le_refl _) _
  have h3 := h.alloc (.cells #[.int .i64 nodes, .slice A n c] 26)
  have HB := Lib.hid (Blk.new w 26 #[.int .i64 nodes, .slice A n c])
  have hlt0 : w.heap.size < (w.alloc (.cells #[.int .i64 nodes, .slice A n c] 26)).heap.size := by simp
  clear h
  cases hnd : (validB nodes xs && inB f 0 (nodes - 1))
  · have HS := Lib.hid (show longsB nodes xs f = false by unfold longsB; rw [hnd]; rfl)
    have HV := Lib.hid (longsV_no HS.out)
    go_enter Try.func13, Try.ntmps13
    go_wp2_with fail
    generalize w.alloc (.cells #[.int .i64 nodes, .slice A n c] 26) = W at *
    refine (l03NodeL_any _ nodes A n c xs f _ HB.out h3 hn0).mono ?_
    rw [hnd]
    rintro e w1 ⟨rfl, e1⟩
    go_wp2_with fail
    go_ret2
    exact ⟨none, 0, 0, ret_LBc HS.out.symm, by rw [HV.out]; exact OwnI.nil_ _ _ _, below_ext hW hW.size e1.below⟩
  · have hv : validB nodes xs = true := by rw [Bool.and_eq_true] at hnd; exact hnd.1
    have hin : inB f 0 (nodes - 1) = true := by rw [Bool.and_eq_true] at hnd; exact hnd.2
    obtain ⟨n0, n1, n2, hbd⟩ := valid_bd hv
    obtain ⟨N, rfl⟩ := Int.eq_ofNat_of_zero_le (show 0 ≤ nodes by omega)
    obtain ⟨f0, f1⟩ := inB_iff.1 hin
    obtain ⟨F, rfl⟩ := Int.eq_ofNat_of_zero_le f0
    have hF : F < N := by omega
    have HS := Lib.hid (show longsB N xs F = costsTo xs n by unfold longsB; rw [hv, hin, HX.out]; rfl)
    have HH := Lib.hid (fun hc => longs_hyps (N := N) HX.out hv hc)
    have HC1 := Lib.hid (fun k (hk : k < xs.length) => (hbd k hk).2.2.2.2.2)
    have HXL := Lib.hid n2
    rw [HX.out] at n2
    clear hbd hv hin f0 f1
    go_enter Try.func13, Try.ntmps13
    go_wp2_with fail
    generalize w.alloc (.cells #[.int .i64 N, .slice A n c] 26) = W at *
    refine (l03NodeL_any _ N A n c xs F _ HB.out h3 hn0).mono ?_
    rw [hnd]
    rintro e w1 ⟨rfl, d1⟩
    have q1 := (HB.out.ext d1.below).cell 1
    clear hnd
    go_wp2_with fail
    go_loop [18] (fun iv => ∃ (k : Nat), k ≤ n ∧ iv = .int .i64 k ∧ Hid (costsTo xs k = true)) (fun iv => n - (intOf iv).toNat)
    case atStart => exact ⟨0, by omega, rfl, Lib.hid rfl⟩
    case round =>
      obtain ⟨k, hk, rfl, hall⟩ := hrel
      by_cases hlt : k < n
      · obtain ⟨ad, rfl, had, c0, c1, c2, c3⟩ := (h3.drewTo d1).at_ hlt
        have HSU := Lib.hid (costsTo_succ xs k)
        have HST := Lib.hid (@costsTo_stop xs k)
        generalize xs.getD k default = x at *
        obtain ⟨af, at_, ar, aq⟩ := x
        by_cases hcost : 0 ≤ aq
        · have HE := Lib.hid (show costsTo xs (k + 1) = true by rw [HSU.out, hall.out]; exact decide_eq_true hcost)
          go_wp2_with fail
          go_round
          case rel => exact ⟨k + 1, by omega, by go_num, HE⟩
          case measure => simp [intOf]; omega
        · have HE := Lib.hid (show costsTo xs n = false by rw [show n = k + 1 + (n - (k + 1)) from by omega]; exact HST.out hcost _)
          have hS2 := Lib.hid (HS.out.trans HE.out)
          have hV2 := Lib.hid (longsV_no hS2.out)
          go_wp2_with fail
          go_ret2
          exact ⟨none, 0, 0, ret_LBc hS2.out.symm, by rw [hV2.out]; exact OwnI.nil_ _ _ _, below_ext hW hW.size d1.below⟩
      · have e : n = k := by omega
        subst e
        have HS2 := Lib.hid (HS.out.trans hall.out)
        obtain ⟨hc, hx, _, _⟩ := HH.out hall.out
        have hv2 := longsV_yes HS2.out
        rw [Int.toNat_natCast, Int.toNat_natCast] at hv2
        have HV2 := Lib.hid hv2
        have HCC := Lib.hid hc
        have HXX := Lib.hid hx
        have hbw := d1.below
        have he : OwnI 2 W.heap.size (w1.alloc (.cells #[] 2)) (some ⟨w1.heap.size, 0, none⟩) 0 0 (List.replicate 0 (-1)) := World.ownsRow_lit (e := 2) (base := W.heap.size) (size := 1) w1 #[] 0 hbw.size (Nat.zero_le _) rfl
        have hb2 := hbw.alloc hbw.size (.cells #[] 2)
        clear hc hx hv2 q1 hall
        go_wp2_with fail
        generalize w1.alloc (.cells #[] 2) = w2 at *
        go_loopg [7, 8] N (fun r bv iv wr => ∃ (k : Nat) (B : Option Addr) (q : Nat), r = N - k ∧ k ≤ N ∧ iv = .int .i64 k ∧ bv = .slice B k q ∧ OwnI 2 W.heap.size wr B k q (List.replicate k (-1)) ∧ Below W.heap.size W wr)
        case atStart => exact ⟨0, _, 0, rfl, by omega, rfl, rfl, he, hb2⟩
        case round =>
          clear he hb2
          obtain ⟨k, B, q, hr, hk, rfl, rfl, ob, hbw⟩ := hrel
          have HR := Lib.hid hr
          clear hr
          have p0 := (HB.out.below hbw hlt0).cell 0
          have hsz := hbw.size
          by_cases hlt : k < N
          · go_wp2_with (at_builtin; refine wp_append_int _ _ rfl _ _ _ rfl 2 W.heap.size Try.underlying29 info64 B k q _ rfl ob rfl (by omega) hsz ?_; intro g5 c5 w6 o6 u6 b6 hg6)
            rw [rep_snoc] at o6
            go_roundg (N - (k + 1))
            case measure => rw [HR.out]; omega
            case rel => exact ⟨k + 1, _, c5, rfl, by omega, by go_num, rfl, o6, hbw.trans b6⟩
          · have e : N = k := by omega
            subst e
            obtain ⟨gB, rfl, hgB, hgBl, _, _⟩ := OwnI.pos ob (by omega)
            have hFN : (F : Int) < (N : Int) := by omega
            have fr := OwnI.free ob F
            have cF := OwnI.cell ob hF
            have ob2 := OwnI.set ob F 0
            have hb3 := hbw.setCell (p := ⟨gB, F, none⟩) hgB (.int .i64 0)
            have HR0 := Lib.hid (show (List.replicate N (-1 : Int)).set F 0 = roundsL xs N F 0 from rfl)
            rw [HR0.out] at ob2
            go_wp2_with fail
            generalize wr.setCell ⟨gB, F, none⟩ (.int .i64 0) = w4 at *
            clear fr cF ob p0 hbw
            go_loopg [9] N (fun r tv wr => ∃ (t : Nat), r = N - t ∧ t + 1 ≤ N ∧ tv = .int .i64 (t + 1) ∧ OwnI 2 W.heap.size wr (some ⟨gB, 0, none⟩) N q (roundsL xs N F t) ∧ Below W.heap.size W wr)
            case atStart => exact ⟨0, rfl, by omega, rfl, ob2, hb3⟩
            case round =>
              clear ob2 hb3
              obtain ⟨t, hr, ht, rfl, ob, hbw⟩ := hrel
              have HR := Lib.hid hr
              clear hr
              have p0 := (HB.out.below hbw hlt0).cell 0
              have p1 := (HB.out.below hbw hlt0).cell 1
              by_cases hlt : t + 1 < N
              · have hlt' : (t : Int) + 1 < (N : Int) := by omega
                have HRT := Lib.hid (show roundsL xs N F (t + 1) = relaxTo xs (roundsL xs N F t) xs.length from rfl)
                have HBD := Lib.hid (rounds_bd (xs := xs) (N := N) (f := F) HXX.out (fun i hi => ⟨HCC.out i hi, HC1.out i hi⟩) HXL.out hF t)
                have HDL := Lib.hid (roundsL_len xs N F t)
                generalize roundsL xs N F t = D at *
                go_wp2_with fail
                obtain ⟨wo, rfl⟩ : ∃ wo : World, wo = wr := ⟨_, rfl⟩
                go_loopg [51] n (fun r jv wi => ∃ (j : Nat), r = n - j ∧ j ≤ n ∧ jv = .int .i64 j ∧ OwnI 2 W.heap.size wi (some ⟨gB, 0, none⟩) N q (relaxTo xs D j) ∧ Below W.heap.size W wi)
                case atStart => exact ⟨0, rfl, by omega, rfl, ob, hbw⟩
                case round =>
                  clear ob hbw p0 p1
                  obtain ⟨j, hr, hj, rfl, ob, hbw⟩ := hrel
                  have HR2 := Lib.hid hr
                  clear hr
                  have p0 := (HB.out.below hbw hlt0).cell 0
                  have p1 := (HB.out.below hbw hlt0).cell 1
                  by_cases hlj : j < n
                  · obtain ⟨ad, rfl, had, c0, c1, c2, c3⟩ := (h3.below hbw).at_ hlj
                    obtain ⟨⟨a0, a1⟩, ⟨b0, b1⟩⟩ := HXX.out j (by rw [HX.out]; exact hlj)
                    have hcost := HCC.out j (by rw [HX.out]; exact hlj)
                    have hcost2 := HC1.out j (by rw [HX.out]; exact hlj)
                    have HN1 := Lib.hid (@relax_no1 xs D j)
                    have HN2 := Lib.hid (@relax_no2 xs D j)
                    have HY := Lib.hid (@relax_yes xs D j)
                    have HRB := Lib.hid (relax_bd (xs := xs) HXX.out (fun i hi => ⟨HCC.out i hi, HC1.out i hi⟩) HDL.out HBD.out (by omega) j (by rw [HX.out]; omega))
                    generalize xs.getD j default = x at *
                    obtain ⟨lf, lt, lr, lc⟩ := x
                    have a0' : 0 ≤ lf := a0
                    have a1' : lf < N := a1
                    have b0' : 0 ≤ lt := b0
                    have b1' : lt < N := b1
                    have hcost' : 0 ≤ lc := hcost
                    have hcost2' : lc ≤ 1000 := hcost2
                    obtain ⟨f', rfl⟩ := Int.eq_ofNat_of_zero_le a0'
                    obtain ⟨v, rfl⟩ := Int.eq_ofNat_of_zero_le b0'
                    have hfN : f' < N := by omega
                    have hvN : v < N := by omega
                    have cf := OwnI.cell ob hfN
                    have cv := OwnI.cell ob hvN
                    have bf := HRB.out f' hfN
                    have bv := HRB.out v hvN
                    have HN1' := Lib.hid (fun (hh : ¬ 0 ≤ (relaxTo xs D j).getD f' 0) => HN1.out hh)
                    have HN2' := Lib.hid (fun (hh : ¬ (relaxTo xs D j).getD v 0 < 0) (hh2 : ¬ (relaxTo xs D j).getD f' 0 + lc < (relaxTo xs D j).getD v 0) => HN2.out hh hh2)
                    have HY' := Lib.hid (fun (hh : 0 ≤ (relaxTo xs D j).getD f' 0) (hh2 : (relaxTo xs D j).getD v 0 < 0 ∨ (relaxTo xs D j).getD f' 0 + lc < (relaxTo xs D j).getD v 0) => (show relaxTo xs D (j + 1) = (relaxTo xs D j).set v ((relaxTo xs D j).getD f' 0 + lc) from HY.out hh hh2))
                    clear HN1 HN2 HY HRB a0 a1 b0 b1 a0' a1' b0' b1' hcost hcost2
                    generalize (relaxTo xs D j).getD f' 0 = df at *
                    generalize (relaxTo xs D j).getD v 0 = dv at *
                    have v1 : IntKind.i64.wrap (df + lc) = df + lc := IntWalk.i64_in _ (by omega)
                    have v2 : (f' : Int) < (N : Int) := by omega
                    have v3 : (v : Int) < (N : Int) := by omega
                    by_cases h1 : 0 ≤ df
                    · have d1' : decide (0 ≤ df) = true := decide_eq_true h1
                      by_cases h2 : dv < 0
                      · have d2' : decide (dv < 0) = true := decide_eq_true h2
                        have HE := Lib.hid (HY'.out h1 (.inl h2))
                        go_wp2_with fail
                        go_quiet (fail)
                        have oD2 := OwnI.drew (OwnI.set (OwnI.drewN ob nq) v (df + lc))
                        have fb : (wr.drewN nq).frozen? ⟨gB, v, none⟩ = false := OwnI.free ob v
                        have x0 : (wr.drewN nq).cell? (ad.add (j * 4)) = some (.int .i64 f') := c0
                        have x1 : (wr.drewN nq).cell? ⟨(ad.add (j * 4)).block, (ad.add (j * 4)).off + 1, none⟩ = some (.int .i64 v) := c1
                        have x3 : (wr.drewN nq).cell? ⟨(ad.add (j * 4)).block, (ad.add (j * 4)).off + 3, none⟩ = some (.int .i64 lc) := c3
                        have y1 : (wr.drewN nq).cell? ⟨gB, f', none⟩ = some (.int .i64 df) := cf
                        have y2 : (wr.drewN nq).cell? ⟨gB, v, none⟩ = some (.int .i64 dv) := cv
                        have hb5 := (below_drewN hbw nq)
                        have oN := OwnI.set (OwnI.drew (OwnI.drewN ob nq)) v (df + lc)
                        clear oD2 c0 c1 c2 c3 cf cv p0 p1
                        go_wp2_with fail
                        generalize wr.drewN nq = W2 at *
                        refine wp_region_still_tail 18 (by kernel_rfl) (by kernel_rfl) ?_
                        change wpStill _ _ W2.drew (fun a' => wpList _ _ _ _ a' W2.drew) _ _
                        simp only [List.take_succ_cons, List.take_zero, List.drop_succ_cons, List.drop_zero]
                        repeat still_step
                        refine wpStill_nil ?_
                        go_wp2_with fail
                        go_roundg (n - (j + 1))
                        case measure => rw [HR2.out]; omega
                        case rel => exact ⟨j + 1, rfl, by omega, by go_num, by rw [HE.out]; exact oN, (Below.drew hb5).setCell (p := ⟨gB, v, none⟩) hgB (.int .i64 (df + lc))⟩
                      · have d2' : decide (dv < 0) = false := decide_eq_false h2
                        by_cases h4 : df + lc < dv
                        · have d3' : decide (df + lc < dv) = true := decide_eq_true h4
                          have HE := Lib.hid (HY'.out h1 (.inr h4))
                          go_wp2_with fail
                          go_quiet (fail)
                          have oD2 := OwnI.drew (OwnI.set (OwnI.drewN ob nq) v (df + lc))
                          have fb : (wr.drewN nq).frozen? ⟨gB, v, none⟩ = false := OwnI.free ob v
                          have x0 : (wr.drewN nq).cell? (ad.add (j * 4)) = some (.int .i64 f') := c0
                          have x1 : (wr.drewN nq).cell? ⟨(ad.add (j * 4)).block, (ad.add (j * 4)).off + 1, none⟩ = some (.int .i64 v) := c1
                          have x3 : (wr.drewN nq).cell? ⟨(ad.add (j * 4)).block, (ad.add (j * 4)).off + 3, none⟩ = some (.int .i64 lc) := c3
                          have y1 : (wr.drewN nq).cell? ⟨gB, f', none⟩ = some (.int .i64 df) := cf
                          have y2 : (wr.drewN nq).cell? ⟨gB, v, none⟩ = some (.int .i64 dv) := cv
                          have hb5 := (below_drewN hbw nq)
                          have oN := OwnI.set (OwnI.drew (OwnI.drewN ob nq)) v (df + lc)
                          clear oD2 c0 c1 c2 c3 cf cv p0 p1
                          go_wp2_with fail
                          generalize wr.drewN nq = W2 at *
                          refine wp_region_still_tail 18 (by kernel_rfl) (by kernel_rfl) ?_
                          change wpStill _ _ W2.drew (fun a' => wpList _ _ _ _ a' W2.drew) _ _
                          simp only [List.take_succ_cons, List.take_zero, List.drop_succ_cons, List.drop_zero]
                          repeat still_step
                          refine wpStill_nil ?_
                          go_wp2_with fail
                          go_roundg (n - (j + 1))
                          case measure => rw [HR2.out]; omega
                          case rel => exact ⟨j + 1, rfl, by omega, by go_num, by rw [HE.out]; exact oN, (Below.drew hb5).setCell (p := ⟨gB, v, none⟩) hgB (.int .i64 (df + lc))⟩
                        · have d3' : decide (df + lc < dv) = false := decide_eq_false h4
                          have HE := Lib.hid (HN2'.out h2 h4)
                          go_wp2_with fail
                          go_quiet (fail)
                          go_wp2_with fail
                          go_roundg (n - (j + 1))
                          case measure => rw [HR2.out]; omega
                          case rel => exact ⟨j + 1, rfl, by omega, by go_num, by rw [HE.out]; exact OwnI.drewN ob _, below_drewN hbw _⟩
                    · have d1' : decide (0 ≤ df) = false := decide_eq_false h1
                      have HE := Lib.hid (HN1'.out h1)
                      go_wp2_with fail
                      go_quiet (fail)
                      go_wp2_with fail
                      go_roundg (n - (j + 1))
                      case measure => rw [HR2.out]; omega
                      case rel => exact ⟨j + 1, rfl, by omega, by go_num, by rw [HE.out]; exact OwnI.drewN ob _, below_drewN hbw _⟩
                  · have e : n = j := by omega
                    subst e
                    go_wp2_with fail
                    go_roundg (N - (t + 1))
                    case measure => rw [HR.out]; omega
                    case rel => exact ⟨t + 1, rfl, by omega, by go_num, by rw [HRT.out, HX.out]; exact ob, hbw⟩
              · have e : N - 1 = t := by omega
                have hge : ¬ (t : Int) + 1 < (N : Int) := by omega
                rw [← e] at ob
                go_wp2_with fail
                go_ret2
                exact ⟨_, N, q, ret_LBc HS2.out.symm, by rw [HV2.out]; exact OwnI.low ob hW.size, below_ext hW hW.size hbw⟩
end Go.Proofs.Ytpaahjeohigngaa
