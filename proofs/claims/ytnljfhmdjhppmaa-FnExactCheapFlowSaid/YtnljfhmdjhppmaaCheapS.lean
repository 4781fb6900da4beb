/- CheapFlow of the reference: the walk. -/
import Derived.Test.YtnljfhmdjhppmaaCheapI
import Derived.Test.YtnljfhmdjhppmaaRoundS
import Derived.Test.YtnljfhmdjhppmaaAlong
namespace Go.Proofs.Ytnljfhmdjhppmaa
open Go.RowKit

/-- what is known is what has a link -/
structure KB (N : Nat) (s : LeastS) : Prop where
  kl : s.k.length = N
  bl : s.b.length = N
  kb : ∀ v, v < N → s.k.getD v false = (s.b.getD v 0 != -2)
theorem kb_src {N F : Nat} (hF : F < N) : KB N (srcS N F) := ⟨by simp [srcS], by simp [srcS], fun v hv => by
  show ((List.replicate N false).set F true).getD v false = (((List.replicate N (-2 : Int)).set F (-1)).getD v 0 != -2)
  rw [getD_setB _ _ _ _ (by simpa using hF), getD_set' _ _ v _ (by simpa using hF)]
  split
  · rfl
  · simp [List.getD, hv]⟩
theorem kb_step {N : Nat} {s : LeastS} {l : LinkR} {j : Nat} (h : KB N s) (ht : 0 ≤ l.to_ ∧ l.to_ < N) : KB N (leastStep s l j) := by
  unfold leastStep
  split
  · refine ⟨by simp [h.kl], by simp [h.bl], fun v hv => ?_⟩
    show (s.k.set l.to_.toNat true).getD v false = ((s.b.set l.to_.toNat (j : Int)).getD v 0 != -2)
    rw [getD_setB _ _ _ _ (by rw [h.kl]; omega), getD_set' _ _ v _ (by rw [h.bl]; omega)]
    split
    · exact (bne_iff_ne.2 (by omega)).symm
    · exact h.kb v hv
  · exact h
theorem kb_to {ls : List LinkR} {N : Nat} {s : LeastS} (hls : LinksOk ls N) (h : KB N s) : ∀ j, j ≤ ls.length → KB N (leastTo ls s j)
  | 0, _ => ⟨h.kl, h.bl, h.kb⟩
  | j + 1, hj => by
    rw [leastTo]
    exact kb_step (kb_to hls h j (by omega)) (hls j (by omega)).2
theorem kb_r {ls : List LinkR} {N F : Nat} (hls : LinksOk ls N) (hF : F < N) : ∀ r : Nat, KB N (leastR ls (srcS N F) r)
  | 0 => kb_src hF
  | r + 1 => kb_to hls (kb_r hls hF r) ls.length (Nat.le_refl _)
theorem least_yes {N : Nat} {s : LeastS} {l : LinkR} {j f v : Nat} (h : KB N s) (hf : l.fr = f) (hv : l.to_ = v) (hfN : f < N) (hvN : v < N) (h1 : s.b.getD f 0 ≠ -2) (h2 : s.b.getD v 0 = -2 ∨ s.d.getD f 0 + l.cost < s.d.getD v 0) : (leastStep s l j).d = s.d.set v (s.d.getD f 0 + l.cost) ∧ (leastStep s l j).b = s.b.set v (j : Int) := by
  have hg : leastGo s l = true := by
    unfold leastGo
    rw [hf, hv, Int.toNat_natCast, Int.toNat_natCast, h.kb f hfN, h.kb v hvN, bne_iff_ne.2 h1]
    rcases h2 with e | e
    · rw [e]; rfl
    · rw [decide_eq_true e]; simp
  unfold leastStep
  rw [if_pos hg, hf, hv]
  exact ⟨rfl, rfl⟩
theorem least_no {N : Nat} {s : LeastS} {l : LinkR} {j f v : Nat} (h : KB N s) (hf : l.fr = f) (hv : l.to_ = v) (hfN : f < N) (hvN : v < N) (h1 : s.b.getD f 0 = -2 ∨ (s.b.getD v 0 ≠ -2 ∧ ¬ s.d.getD f 0 + l.cost < s.d.getD v 0)) : leastStep s l j = s := by
  have hg : ¬ leastGo s l = true := by
    unfold leastGo
    rw [hf, hv, Int.toNat_natCast, Int.toNat_natCast, h.kb f hfN, h.kb v hvN]
    rcases h1 with e | ⟨e, e2⟩
    · rw [e]; simp
    · rw [bne_iff_ne.2 e, decide_eq_false e2]; simp
  unfold leastStep
  rw [if_neg hg]

set_option maxRecDepth 100000 in
set_option maxHeartbeats 6400000 in
theorem specCheapFlow_r (nodes : Int) (A : Option Addr) (n c : Nat) (xs : List ArcR) (a b am : Int) (w : World) (h : ArcsAt w A n xs) (hn0 : n ≤ maxLen) :
    Calls Try.prog 26 #[.agg #[.int .i64 nodes, .slice A n c], .int .i64 a, .int .i64 b, .int .i64 am] w (RetLIB 2 (cheapF (cheapO nodes xs a b am)) (cheapC xs (cheapO nodes xs a b am)) (cheapO nodes xs a b am).isSome w) := by
  have HX := Lib.hid h.len
  have hW : Below w.heap.size w (w.alloc (.cells #[.int .i64 nodes, .slice A n c] 26)) := (Below.refl _ _).alloc (Nat.le_refl _) _
  have h3 := h.alloc (.cells #[.int .i64 nodes, .slice A n c] 26)
  have HB := Lib.hid (Blk.new w 26 #[.int .i64 nodes, .slice A n c])
  have hlt0 : w.heap.size < (w.alloc (.cells #[.int .i64 nodes, .slice A n c] 26)).heap.size := by simp
  clear h
  cases he : endsB nodes xs a b
  · have HG := Lib.hid (cheapO_no (m := am) (show cheapOk nodes xs a b am = false by unfold cheapOk; rw [he]; rfl))
    go_enter Try.func26, Try.ntmps26
    go_wp2_with fail
    generalize w.alloc (.cells #[.int .i64 nodes, .slice A n c] 26) = W at *
    refine (l03Ends_any _ nodes A n c xs a b _ HB.out h3 hn0).mono ?_
    rw [he]
    rintro e w1 ⟨rfl, hd1⟩; have e1 := hd1.below
    go_wp2_with fail
    go_ret3
    exact ⟨none, 0, 0, ret_LIBh (by rw [HG.out]; rfl) (by rw [HG.out]; rfl), by rw [HG.out]; exact OwnI.nil_ _ _ _, below_ext hW hW.size e1⟩
  · obtain ⟨N, F, t, rfl, rfl, rfl, hF, ht, hne, hv⟩ := ends_bd he
    cases hb : inB am 0 1000000
    · have HG := Lib.hid (cheapO_no (m := am) (show cheapOk N xs F t am = false by unfold cheapOk; rw [hb]; simp))
      go_enter Try.func26, Try.ntmps26
      go_wp2_with fail
      generalize w.alloc (.cells #[.int .i64 N, .slice A n c] 26) = W at *
      refine (l03Ends_any _ N A n c xs F t _ HB.out h3 hn0).mono ?_
      rw [he]
      rintro e w1 ⟨rfl, hd1⟩; have e1 := hd1.below
      go_wp2_with fail
      refine (l00In_any am 0 1000000 _).mono ?_
      rw [hb]
      rintro e _ ⟨rfl, rfl⟩
      go_wp2_with fail
      go_ret3
      exact ⟨none, 0, 0, ret_LIBh (by rw [HG.out]; rfl) (by rw [HG.out]; rfl), by rw [HG.out]; exact OwnI.nil_ _ _ _, below_ext hW hW.size e1⟩
    · have hG := cheapO_yes (show cheapOk N xs F t am = true by unfold cheapOk; rw [he, hb]; rfl)
      rw [Int.toNat_natCast, Int.toNat_natCast, Int.toNat_natCast] at hG
      have HG := Lib.hid hG
      clear hG
      have hb2 := inB_iff.1 hb
      have HVA := Lib.hid hv
      obtain ⟨n0, n1, n2, _⟩ := valid_roomG HX.out hv
      have HH0 := Lib.hid (loss_hyps (fl := List.replicate n 0) (N := N) HX.out rfl hv)
      have HP0 := Lib.hid (lossPer_ok (by omega) HH0.out.hls HH0.out.hne)
      have HBD0 := Lib.hid (flowIn_bd HX.out hv (flow_zero fun k hk => by have := HX.out; subst this; obtain ⟨_, _, _, h5⟩ := valid_bd hv; exact (h5 k hk).2.2.2.1.1))
      have HCL := Lib.hid (show cheapL xs N F t am = if lossE (linksTo xs (List.replicate n 0) n) N = -1 then cheapRun xs n N F t am.toNat (List.replicate n 0) am else none by unfold cheapL; rw [HX.out])
      have HST := Lib.hid (fun (hE : lossE (linksTo xs (List.replicate n 0) n) N = -1) => (show CheapOk xs N F t n (List.replicate n 0) 0 by have h1 := HX.out; subst h1; exact cheap_start (F := F) (t := t) hv hE))
      clear hv
      go_enter Try.func26, Try.ntmps26
      go_wp2_with fail
      generalize w.alloc (.cells #[.int .i64 N, .slice A n c] 26) = W at *
      refine (l03Ends_any _ N A n c xs F t _ HB.out h3 hn0).mono ?_
      rw [he]
      rintro e w1 ⟨rfl, hd1⟩; have e1 := hd1.below
      go_wp2_with fail
      refine (l00In_any am 0 1000000 _).mono ?_
      rw [hb]
      rintro e _ ⟨rfl, rfl⟩
      clear he hb
      have q0 := (HB.out.ext e1).cell 0
      have q1 := (HB.out.ext e1).cell 1
      go_wp2_with (at_make; refine wp_make_ints _ rfl _ _ 29 rfl 2 Try.underlying29 info64 .i64 .i64 _ _ n rfl rfl rfl rfl (by omega) ?_; intro w2 gF o2 b2; have e2 := ext_trans e1 b2; have q2 := (HB.out.ext e2).cell 0; have q3 := (HB.out.ext e2).cell 1)
      refine (l03Round_any _ N A n c xs _ _ _ _ (HB.out.ext e2) (h3.below e2) n2 (OwnI.ints o2) (by omega) (by omega) HH0.out.hls HH0.out.hlc HH0.out.hll HH0.out.hne HBD0.out (lossPer (linksTo xs (List.replicate n 0) n) N) HP0.out _ _ rfl rfl).mono ?_
      rintro e w3 ⟨A1, n3, c1, rfl, o3, b3⟩
      have e3 := ext_trans e2 b3
      have o4 := OwnI.below o2 b3
      have hlow := Nat.le_trans hW.size e1.size
      by_cases hE : lossE (linksTo xs (List.replicate n 0) n) N = -1
      · have HC := Lib.hid (HST.out hE)
        have HR := Lib.hid (HG.out.trans (HCL.out.trans (if_pos hE)))
        rw [show decide (lossE (linksTo xs (List.replicate n 0) n) N ≠ -1) = false from decide_eq_false (by rw [hE]; decide)]
        clear hE HP0 HH0 HBD0 HCL HST HG q2 q3 o3 o2
        go_wp2_with fail
        have o4 := OwnI.low o4 e1.size
        go_loopg [3] am.toNat (fun r mv wr => ∃ (fl : List Int) (x mm : Int), mv = .int .i64 mm ∧ 0 ≤ mm ∧ mm ≤ r ∧ mm ≤ 1000000 ∧ OwnI 2 W.heap.size wr (some ⟨gF, 0, none⟩) n n fl ∧ Below W.heap.size W wr ∧ Hid (CheapOk xs N F t n fl x ∧ cheapRun xs n N F t r fl mm = cheapO N xs F t am))
        case atStart => exact ⟨_, 0, am, rfl, by omega, by omega, by omega, o4, e3, Lib.hid ⟨HC.out, HR.out.symm⟩⟩
        case round =>
          clear o4 e1 e2 e3 b2 b3 HC HR hlow
          obtain ⟨fl, x, mm, rfl, hm0, hm1, hm2, o, hbw, hfl⟩ := hrel
          have hCO := hfl.out.1
          have hRun := Lib.hid hfl.out.2
          have HBD := Lib.hid (flowIn_bd HX.out HVA.out hCO.inn)
          have HBX := Lib.hid (HB.out.ext hbw)
          have hX3 := h3.below hbw
          have q0 := HBX.out.cell 0
          have q1 := HBX.out.cell 1
          clear hfl
          by_cases hm : 0 < mm
          · obtain ⟨r', hr'⟩ : ∃ r', gk = r' + 1 := ⟨gk - 1, by omega⟩
            subst hr'
            have hh := loss_hyps (fl := fl) (N := N) HX.out rfl HVA.out
            have hst := @cheap_step xs N F t n fl x HVA.out HX.out hF ht hne hCO
            have hmo := fun (ws : List LinkR) => @cheap_more xs n N F t r' fl mm ws
            have hno := @cheap_none xs n N F t r' fl mm
            obtain ⟨ls, hLE⟩ : ∃ ls, linksTo xs fl n = ls := ⟨_, rfl⟩
            obtain ⟨m, hM⟩ : ∃ m, ls.length = m := ⟨_, rfl⟩
            unfold bfS at hst hmo hno
            rw [hLE] at hst hmo hno hh
            have hm96 : m ≤ 96 := by have := hh.hll; omega
            have HLS := Lib.hid hh.hls
            have HLC := Lib.hid hh.hlc
            have HM := Lib.hid hM
            have HLE := Lib.hid hLE
            have HSTEP := Lib.hid hst
            have HMORE := Lib.hid hmo
            have HNO := Lib.hid hno
            have HO := Lib.hid o
            have HBW := Lib.hid hbw
            have HX3 := Lib.hid hX3
            have HOK := Lib.hid (fun r => least_r_ok (s := srcS N F) hh.hls hh.hlc (by rw [hM]; exact hm96) ⟨src_ok.dl, src_ok.kl, src_ok.bl, src_ok.bd⟩ r)
            have hgF := (OwnI.lt o rfl).2
            have hgF' : gF < wr.heap.size := hgF
            have hbs := hbw.size
            have hbx0 : w.heap.size < wr.heap.size := Nat.lt_of_lt_of_le hlt0 hbs
            clear hh hst hmo hno hLE hM hCO o hbw hX3 hgF
            go_wp2_with fail
            refine (l03Lefts_any _ N A n c xs _ _ fl _ HBX.out HX3.out n2 (OwnI.ints HO.out) HBD.out).mono ?_
            rw [HLE.out]
            rintro e w7 ⟨L, m7, q, rfl, hm7, ol, b7⟩
            rw [HM.out] at hm7
            have hm8 : m = m7 := hm7.symm
            clear hm7
            subst hm8
            have hs7 := b7.size
            have q4 := (HBX.out.ext b7).cell 0
            go_wp2_with (at_make; refine wp_make_ints _ rfl _ _ 29 rfl 2 Try.underlying29 info64 .i64 .i64 _ _ N rfl rfl rfl rfl (by omega) ?_; intro w8 gD oD b8; have q5 := (HBX.out.ext (ext_trans b7 b8)).cell 0)
            have hs8 := b8.size
            have HB8 := Lib.hid (HBX.out.ext (ext_trans b7 b8))
            have he8 : OwnI 3 w8.heap.size (w8.alloc (.cells #[] 3)) (some ⟨w8.heap.size, 0, none⟩) 0 0 (List.replicate 0 (-2)) := World.ownsRow_lit (e := 3) (base := w8.heap.size) (size := 1) w8 #[] 0 (Nat.le_refl _) (Nat.zero_le _) rfl
            have hW8 : Below w8.heap.size w8 (w8.alloc (.cells #[] 3)) := (Below.refl _ _).alloc (Nat.le_refl _) _
            have hgD : w7.heap.size ≤ gD ∧ gD < w8.heap.size := OwnI.lt oD rfl
            have HOD := Lib.hid oD
            have HOL := Lib.hid ol
            have HB7 := Lib.hid b7
            have HB78 := Lib.hid b8
            clear q0 q1 q4 q5 oD ol b7 b8
            generalize w8.alloc (.cells #[] 3) = W8 at *
            obtain ⟨wo, rfl⟩ : ∃ wo : World, wo = wr := ⟨_, rfl⟩
            go_loopg [16, 17] N (fun r bv iv wr => ∃ (k : Nat) (B : Option Addr) (c : Nat), r = N - k ∧ k ≤ N ∧ iv = .int .i64 k ∧ bv = .slice B k c ∧ OwnI 3 w8.heap.size wr B k c (List.replicate k (-2)) ∧ Below w8.heap.size w8 wr)
            case atStart => exact ⟨0, _, 0, rfl, by omega, rfl, rfl, he8, hW8⟩
            case round =>
              clear he8 hW8
              obtain ⟨k, B, cB, hr, hk, rfl, rfl, ob, hbw⟩ := hrel
              have HR := Lib.hid hr
              clear hr
              have p0 := (HB8.out.ext hbw).cell 0
              have hsz := hbw.size
              by_cases hlt : k < N
              · go_wp2_with (at_builtin; refine wp_append_int _ _ rfl _ _ _ rfl 3 w8.heap.size Try.underlying85 infoInt B k cB _ rfl ob rfl (by omega) hsz ?_; intro g5 c5 w6 o6 u6 b6 hg6)
                rw [rep_snoc] at o6
                go_roundg (N - (k + 1))
                case measure => rw [HR.out]; omega
                case rel => exact ⟨k + 1, _, c5, rfl, by omega, by go_num, rfl, o6, hbw.trans b6⟩
              · have e : k = N := by omega
                subst e
                obtain ⟨gY, rfl, hgB, hgBl, _, _⟩ := OwnI.pos ob (by omega)
                have hFN : (F : Int) < (k : Int) := by omega
                have fr := OwnI.free ob F
                have cF := OwnI.cell ob hF
                have ob2 := OwnI.low (OwnI.set ob F (-1)) hs8
                have hb2 := hbw.setCell (p := ⟨gY, F, none⟩) hgB (.int .i64 (-1))
                have hb3 := HB78.out.trans (hb2.mono hs8)
                have oD3 := OwnI.below HOD.out hb2
                have hDY : gD ≠ gY := by omega
                have hgY : w7.heap.size ≤ gY ∧ True := ⟨by omega, trivial⟩
                go_wp2_with fail
                generalize wr.setCell ⟨gY, F, none⟩ (.int .i64 (-1)) = W9 at *
                clear fr cF ob hbw p0 hb2
                go_loopg [18] (k - 1) (fun r tv wr => ∃ (z : Nat), r = k - 1 - z ∧ z ≤ k - 1 ∧ tv = .int .i64 ((z + 1 : Nat) : Int) ∧ OwnI 2 w7.heap.size wr (some ⟨gD, 0, none⟩) k k (leastR ls (srcS k F) z).d ∧ OwnI 3 w7.heap.size wr (some ⟨gY, 0, none⟩) k cB (leastR ls (srcS k F) z).b ∧ Below w7.heap.size w7 wr)
                case atStart => exact ⟨0, rfl, by omega, rfl, oD3, ob2, hb3⟩
                case round =>
                  clear oD3 ob2 hb3
                  obtain ⟨z, hr, hz, rfl, oD, oY, hbw⟩ := hrel
                  have HR1 := Lib.hid hr
                  clear hr
                  have p0 := (HBX.out.ext (HB7.out.trans (hbw.mono hs7))).cell 0
                  by_cases hlt2 : z + 1 < k
                  · have HKB := Lib.hid (kb_r HLS.out hF z)
                    have HBD1 := Lib.hid (HOK.out z)
                    have HLR := Lib.hid (show leastR ls (srcS k F) (z + 1) = leastTo ls (leastR ls (srcS k F) z) ls.length from rfl)
                    have HL0 := Lib.hid (show leastTo ls (leastR ls (srcS k F) z) 0 = { leastR ls (srcS k F) z with e := -1 } from rfl)
                    generalize leastR ls (srcS k F) z = u at *
                    go_wp2_with fail
                    go_loopg [68] m (fun r jv wi => ∃ (j : Nat), r = m - j ∧ j ≤ m ∧ jv = .int .i64 j ∧ OwnI 2 w7.heap.size wi (some ⟨gD, 0, none⟩) k k (leastTo ls u j).d ∧ OwnI 3 w7.heap.size wi (some ⟨gY, 0, none⟩) k cB (leastTo ls u j).b ∧ Below w7.heap.size w7 wi)
                    case atStart => exact ⟨0, rfl, by omega, rfl, oD, oY, hbw⟩
                    case round =>
                      clear oD oY hbw p0
                      obtain ⟨j, hr, hj, rfl, oD, oY, hbw⟩ := hrel
                      have HR2 := Lib.hid hr
                      clear hr
                      by_cases hlj : j < m
                      · have hown4 := OwnC.below HOL.out hbw
                        obtain ⟨gL, rfl, _, hgLlt, _⟩ := OwnC.pos hown4 (by omega)
                        obtain ⟨c0, c1, c2, c3, c4, c5⟩ := left_cells hown4 hlj
                        have hgL1 : gL < w7.heap.size := (OwnC.lt HOL.out rfl).2
                        have hLD : gL ≠ gD := by omega
                        have hgY1 := hgY.1
                        have hLY : gL ≠ gY := by omega
                        have HCL := Lib.hid (fun (W : World) (hW : Below w7.heap.size w7 W) => left_cells (OwnC.below HOL.out hW) hlj)
                        obtain ⟨⟨a0, a1⟩, ⟨b0, b1'⟩⟩ := HLS.out j (by rw [HM.out]; exact hlj)
                        have hcost := HLC.out j (by rw [HM.out]; exact hlj)
                        have hkb := kb_to HLS.out HKB.out j (by rw [HM.out]; omega)
                        have hbd := (least_to_ok HLS.out HLC.out HBD1.out (by omega) j (by rw [HM.out]; omega)).bd
                        have hts := (show leastTo ls u (j + 1) = leastStep (leastTo ls u j) (ls.getD j default) j from rfl)
                        generalize leastTo ls u j = s at *
                        generalize ls.getD j default = l at *
                        obtain ⟨la, lb, lf, lt, lr, lc⟩ := l
                        have a0' : 0 ≤ lf := a0
                        have a1' : lf < k := a1
                        have b0' : 0 ≤ lt := b0
                        have b1'' : lt < k := b1'
                        have k0 : -1000 ≤ lc := hcost.1
                        have k1 : lc ≤ 1000 := hcost.2
                        obtain ⟨f', rfl⟩ := Int.eq_ofNat_of_zero_le a0'
                        obtain ⟨v, rfl⟩ := Int.eq_ofNat_of_zero_le b0'
                        have hfN : f' < k := by omega
                        have hvN : v < k := by omega
                        have cf := OwnI.cell oD hfN
                        have cv := OwnI.cell oD hvN
                        have yf := OwnI.cell oY hfN
                        have yv := OwnI.cell oY hvN
                        have bdf := hbd f' hfN
                        have HY := Lib.hid (fun (h1 : s.b.getD f' 0 ≠ -2) (h2 : s.b.getD v 0 = -2 ∨ s.d.getD f' 0 + lc < s.d.getD v 0) => (show (leastTo ls u (j + 1)).d = s.d.set v (s.d.getD f' 0 + lc) ∧ (leastTo ls u (j + 1)).b = s.b.set v (j : Int) from by rw [hts]; exact least_yes hkb rfl rfl hfN hvN h1 h2))
                        have HN := Lib.hid (fun (h1 : s.b.getD f' 0 = -2 ∨ (s.b.getD v 0 ≠ -2 ∧ ¬ s.d.getD f' 0 + lc < s.d.getD v 0)) => (show leastTo ls u (j + 1) = s from by rw [hts]; exact least_no hkb rfl rfl hfN hvN h1))
                        clear hts hkb hbd a0 a1 b0 b1' a0' a1' b0' b1'' hcost hown4
                        generalize s.d.getD f' 0 = df at *
                        generalize s.d.getD v 0 = dv at *
                        generalize s.b.getD f' 0 = bf at *
                        generalize s.b.getD v 0 = bv at *
                        have v1 : IntKind.i64.wrap (df + lc) = df + lc := IntWalk.i64_in _ (by omega)
                        have v2 : (f' : Int) < (k : Int) := by omega
                        have v3 : (v : Int) < (k : Int) := by omega
                        by_cases g1 : bf = -2
                        · have g1' : (bf != -2) = false := by rw [g1]; rfl
                          have HE := Lib.hid (HN.out (.inl g1))
                          clear g1 HY HN
                          go_wp2_with fail
                          go_quiet (fail)
                          go_wp2_with fail
                          go_roundg (m - (j + 1))
                          case measure => rw [HR2.out]; omega
                          case rel => exact ⟨j + 1, rfl, by omega, by go_num, by rw [HE.out]; exact OwnI.drewN oD _, by rw [HE.out]; exact OwnI.drewN oY _, below_drewN hbw _⟩
                        · have g1' : (bf != -2) = true := bne_iff_ne.2 g1
                          by_cases g2 : bv = -2
                          · have g2' : (bv == -2) = true := by rw [g2]; rfl
                            have HE := Lib.hid (HY.out g1 (.inl g2))
                            clear g1 g2 HY HN
                            go_wp2_with fail
                            go_quiet (fail)
                            have fb : (wr.drewN nq).frozen? ⟨gD, v, none⟩ = false := OwnI.free oD v
                            have x0 : (wr.drewN nq).cell? ⟨gL, j * 6, none⟩ = some (.int .i64 f') := c0
                            have x1 : (wr.drewN nq).cell? ⟨gL, j * 6 + 1, none⟩ = some (.int .i64 v) := c1
                            have x3 : (wr.drewN nq).cell? ⟨gL, j * 6 + 3, none⟩ = some (.int .i64 lc) := c3
                            have y1 : (wr.drewN nq).cell? ⟨gD, f', none⟩ = some (.int .i64 df) := cf
                            have y2 : (wr.drewN nq).cell? ⟨gD, v, none⟩ = some (.int .i64 dv) := cv
                            have hb5 := (below_drewN hbw nq)
                            have oN := OwnI.drew (OwnI.set (OwnI.drewN oD nq) v (df + lc))
                            have oYN := OwnI.drew (OwnI.far (OwnI.drewN oY nq) (p := ⟨gD, v, none⟩) (by intro ad ha; injection ha with ha; subst ha; exact fun e => hDY e.symm) (.int .i64 (df + lc)))
                            have hb6 := Below.drew (hb5.setCell (p := ⟨gD, v, none⟩) hgD.1 (.int .i64 (df + lc)))
                            clear c0 c1 c2 c3 c4 c5 cf cv yf yv oD oY hbw
                            go_wp2_with fail
                            generalize wr.drewN nq = W2 at *
                            refine wp_region_still_tail 18 (by kernel_rfl) (by kernel_rfl) ?_
                            change wpStill _ _ W2.drew (fun a' => wpList _ _ _ _ a' W2.drew) _ _
                            simp only [List.take_succ_cons, List.take_zero, List.drop_succ_cons, List.drop_zero]
                            repeat still_step
                            refine wpStill_nil ?_
                            go_upto_region 25 with (fail)
                            generalize (W2.setCell ⟨gD, v, none⟩ (.int .i64 (df + lc))).drew = W3 at *
                            have z1 : W3.cell? ⟨gL, j * 6 + 1, none⟩ = some (.int .i64 v) := (HCL.out W3 hb6).2.1
                            have fy : W3.frozen? ⟨gY, v, none⟩ = false := OwnI.free oYN v
                            have cy := OwnI.cell oYN hvN
                            have oY7 := OwnI.set oYN v (j : Int)
                            have oD7 := OwnI.far oN (p := ⟨gY, v, none⟩) (by intro ad ha; injection ha with ha; subst ha; exact hDY) (.int .i64 j)
                            have hb7 := hb6.setCell (p := ⟨gY, v, none⟩) hgY.1 (.int .i64 j)
                            clear oN oYN hb6 hb5 x0 x1 x3 y1 y2 fb
                            go_wp2_with fail
                            go_roundg (m - (j + 1))
                            case measure => rw [HR2.out]; omega
                            case rel => exact ⟨j + 1, rfl, by omega, by go_num, by rw [HE.out.1]; exact oD7, by rw [HE.out.2]; exact oY7, hb7⟩
                          · have g2' : (bv == -2) = false := beq_eq_false_iff_ne.2 g2
                            by_cases h4 : df + lc < dv
                            · have d3' : decide (df + lc < dv) = true := decide_eq_true h4
                              have HE := Lib.hid (HY.out g1 (.inr h4))
                              clear g1 g2 HY HN
                              go_wp2_with fail
                              go_quiet (fail)
                              have fb : (wr.drewN nq).frozen? ⟨gD, v, none⟩ = false := OwnI.free oD v
                              have x0 : (wr.drewN nq).cell? ⟨gL, j * 6, none⟩ = some (.int .i64 f') := c0
                              have x1 : (wr.drewN nq).cell? ⟨gL, j * 6 + 1, none⟩ = some (.int .i64 v) := c1
                              have x3 : (wr.drewN nq).cell? ⟨gL, j * 6 + 3, none⟩ = some (.int .i64 lc) := c3
                              have y1 : (wr.drewN nq).cell? ⟨gD, f', none⟩ = some (.int .i64 df) := cf
                              have y2 : (wr.drewN nq).cell? ⟨gD, v, none⟩ = some (.int .i64 dv) := cv
                              have hb5 := (below_drewN hbw nq)
                              have oN := OwnI.drew (OwnI.set (OwnI.drewN oD nq) v (df + lc))
                              have oYN := OwnI.drew (OwnI.far (OwnI.drewN oY nq) (p := ⟨gD, v, none⟩) (by intro ad ha; injection ha with ha; subst ha; exact fun e => hDY e.symm) (.int .i64 (df + lc)))
                              have hb6 := Below.drew (hb5.setCell (p := ⟨gD, v, none⟩) hgD.1 (.int .i64 (df + lc)))
                              clear c0 c1 c2 c3 c4 c5 cf cv yf yv oD oY hbw
                              go_wp2_with fail
                              generalize wr.drewN nq = W2 at *
                              refine wp_region_still_tail 18 (by kernel_rfl) (by kernel_rfl) ?_
                              change wpStill _ _ W2.drew (fun a' => wpList _ _ _ _ a' W2.drew) _ _
                              simp only [List.take_succ_cons, List.take_zero, List.drop_succ_cons, List.drop_zero]
                              repeat still_step
                              refine wpStill_nil ?_
                              go_upto_region 25 with (fail)
                              generalize (W2.setCell ⟨gD, v, none⟩ (.int .i64 (df + lc))).drew = W3 at *
                              have z1 : W3.cell? ⟨gL, j * 6 + 1, none⟩ = some (.int .i64 v) := (HCL.out W3 hb6).2.1
                              have fy : W3.frozen? ⟨gY, v, none⟩ = false := OwnI.free oYN v
                              have cy := OwnI.cell oYN hvN
                              have oY7 := OwnI.set oYN v (j : Int)
                              have oD7 := OwnI.far oN (p := ⟨gY, v, none⟩) (by intro ad ha; injection ha with ha; subst ha; exact hDY) (.int .i64 j)
                              have hb7 := hb6.setCell (p := ⟨gY, v, none⟩) hgY.1 (.int .i64 j)
                              clear oN oYN hb6 hb5 x0 x1 x3 y1 y2 fb
                              go_wp2_with fail
                              go_roundg (m - (j + 1))
                              case measure => rw [HR2.out]; omega
                              case rel => exact ⟨j + 1, rfl, by omega, by go_num, by rw [HE.out.1]; exact oD7, by rw [HE.out.2]; exact oY7, hb7⟩
                            · have d3' : decide (df + lc < dv) = false := decide_eq_false h4
                              have HE := Lib.hid (HN.out (.inr ⟨g2, h4⟩))
                              clear g1 g2 HY HN
                              go_wp2_with fail
                              go_quiet (fail)
                              go_wp2_with fail
                              go_roundg (m - (j + 1))
                              case measure => rw [HR2.out]; omega
                              case rel => exact ⟨j + 1, rfl, by omega, by go_num, by rw [HE.out]; exact OwnI.drewN oD _, by rw [HE.out]; exact OwnI.drewN oY _, below_drewN hbw _⟩
                      · have e : m = j := by omega
                        subst e
                        have p1 := (HBX.out.ext (HB7.out.trans (hbw.mono hs7))).cell 0
                        go_wp2_with fail
                        go_roundg (k - 1 - (z + 1))
                        case measure => rw [HR1.out]; omega
                        case rel => exact ⟨z + 1, rfl, by omega, by go_num, by rw [HLR.out, HM.out]; exact oD, by rw [HLR.out, HM.out]; exact oY, hbw⟩
                  · have e : z = k - 1 := by omega
                    subst e
                    have hc := OwnI.cell oY ht
                    have hkb := kb_r HLS.out hF (k - 1)
                    have hkt := hkb.kb t ht
                    have hbl := hkb.bl
                    have htN : (t : Int) < (k : Int) := by omega
                    have hb79 := HB7.out.trans (hbw.mono hs7)
                    have hb9 := below_ext HBW.out hbs hb79
                    have o9 := OwnI.below HO.out hb79
                    cases hk : (leastR ls (srcS k F) (k - 1)).k.getD t false
                    · rw [hk] at hkt
                      have HR2 := Lib.hid (hRun.out.symm.trans (HNO.out hm hk))
                      have hbt : ((leastR ls (srcS k F) (k - 1)).b.getD t 0 == -2) = true := by
                        have h1 := hkt.symm
                        rw [bne_eq_false_iff_eq] at h1
                        rw [h1]; rfl
                      clear hk HSTEP HMORE HNO hRun hkt hkb
                      generalize (leastR ls (srcS k F) (k - 1)).b.getD t 0 = bt at *
                      go_wp2_with fail
                      go_ret3
                      exact ⟨none, 0, 0, ret_LIBh (by rw [HR2.out]; rfl) (by rw [HR2.out]; rfl), by rw [HR2.out]; exact OwnI.nil_ _ _ _, below_ext hW hW.size hb9⟩
                    · rw [hk] at hkt
                      have hbt : ((leastR ls (srcS k F) (k - 1)).b.getD t 0 == -2) = false := beq_eq_false_iff_ne.2 (bne_iff_ne.1 hkt.symm)
                      obtain ⟨ws, hw1, hwp, ⟨lx, ws', hws⟩, hw4, hw5⟩ := HSTEP.out hk
                      have HRN := Lib.hid ((HMORE.out ws hm hk hw1).symm.trans hRun.out)
                      have hx0 : 1 ≤ amtOf ws mm := amtOf_ge ws _ (by omega) fun l hl => (hw4 l hl).1
                      obtain ⟨hx1, hx2⟩ := amtOf_le ws mm
                      obtain ⟨k1, k2⟩ := hw5 (amtOf ws mm) (by omega) hx2
                      have HP := Lib.hid hwp
                      have HW4 := Lib.hid hw4
                      have HK1 := Lib.hid k1
                      have HK2 := Lib.hid k2
                      have HOL9 := Lib.hid (OwnC.below HOL.out hbw)
                      have hLb := Lib.hid (fun bd (hb : L = some bd) => (OwnC.lt HOL.out hb).1)
                      have hgY1 := hgY.1
                      clear hk HSTEP HMORE HNO hRun hw1 hwp hws hw4 hw5 hx2 k1 k2 hkt hkb
                      generalize (leastR ls (srcS k F) (k - 1)).b.getD t 0 = bt at *
                      generalize (leastR ls (srcS k F) (k - 1)).b = bb at *
                      go_wp2_with fail
                      refine (l03Along_any W.heap.size _ _ _ n _ fl L m q gY cB k ls bb F t ws mm _ o9 n2 HOL9.out HM.out (by omega) oY (by omega) (fun ad ha => by injection ha with ha; subst ha; show gF ≠ gY; omega) (fun ad bd ha hb => by injection ha with ha; subst ha; have := hLb.out bd hb; show gF ≠ bd.block; omega) hF HP.out HW4.out (by omega) (by omega) HK1.out (by omega) ht).mono ?_
                      rintro e w10 ⟨rfl, o10, u10⟩
                      have hbX := below_blk hb9 (Nat.le_trans hbs hb79.size) u10 o9 (Nat.le_refl _)
                      generalize amtOf ws mm = y at *
                      go_wp2_with fail
                      go_roundg r'
                      case measure => omega
                      case rel => exact ⟨_, x + y, mm - y, rfl, by omega, by omega, by omega, o10, hbX, Lib.hid ⟨HK2.out, HRN.out⟩⟩
          · have h0 : mm = 0 := by omega
            subst h0
            have HR2 := Lib.hid ((show cheapRun xs n N F t gk fl 0 = some fl from cheap_end).symm.trans hRun.out)
            clear hRun hCO
            go_wp2_with fail
            refine (l03Cost_any _ N A n c xs _ _ fl _ HBX.out hX3 n2 (OwnI.ints o) (fun k hk => ⟨(HBD.out k hk).1, (HBD.out k hk).2.2⟩)).mono ?_
            rintro e w5 ⟨rfl, hd5⟩; have e5 := hd5.below
            go_wp2_with fail
            go_ret3
            exact ⟨_, _, _, ret_LIBh (by rw [cheapC_some HR2.out.symm, HX.out]) (cheapO_isSome HR2.out.symm).symm, by rw [cheapF_some HR2.out.symm]; exact OwnI.low (OwnI.below o e5) hW.size, below_ext hW hW.size (ext_trans hbw e5)⟩
      · have HR := Lib.hid (HG.out.trans (HCL.out.trans (if_neg hE)))
        rw [show decide (lossE (linksTo xs (List.replicate n 0) n) N ≠ -1) = true from decide_eq_true hE]
        clear hE HP0 HH0 HBD0 HCL HST HG o3 o2 o4
        go_wp2_with fail
        go_ret3
        exact ⟨none, 0, 0, ret_LIBh (by rw [HR.out]; rfl) (by rw [HR.out]; rfl), by rw [HR.out]; exact OwnI.nil_ _ _ _, below_ext hW hW.size e3⟩
end Go.Proofs.Ytnljfhmdjhppmaa
