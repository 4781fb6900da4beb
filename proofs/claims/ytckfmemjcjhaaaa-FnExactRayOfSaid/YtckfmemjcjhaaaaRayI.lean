/- The program's RayOf (printed by gen_ray.py). -/
import Derived.Test.YtckfmemjcjhaaaaRayR
import Derived.Test.YtckfmemjcjhaaaaTbl
import Derived.Test.YtckfmemjcjhaaaaSol
namespace Go.Proofs.Ytckfmemjcjhaaaa
open Go.RowKit

set_option maxRecDepth 100000 in
set_option maxHeartbeats 2000000 in
theorem implRayOf_r (v : Int) (A : Option Addr) (n c : Nat) (ns : List Nat) (B : Option Addr) (m d : Nat) (bs : List Nat) (G : Option Addr) (p g : Nat) (gs : List Nat) (most : Int) (near : Nat) (w : World) (hN : FltsAt w A n ns) (hB : FltsAt w B m bs) (hG : FltsAt w G p gs) (hn : n ≤ maxLen) (hm : m ≤ maxLen) (hp : p ≤ maxLen) (hcap : n ≤ c ∧ c ≤ maxLen) :
    Calls Try.prog 20 #[.agg #[.int .i64 v, .slice A n c, .slice B m d, .slice G p g], .int .i64 most, .float .f32 near] w (RetFb (ryN (rayR v ns bs gs most near)) (rayR v ns bs gs most near).isSome w) := by
  have HLB := Lib.hid hB.len
  obtain ⟨W0, hW0⟩ : ∃ W0, W0 = w.alloc (.cells #[.int .i64 v, .slice A n c, .slice B m d, .slice G p g] 43) := ⟨_, rfl⟩
  have KA := Lib.hid (show Blk W0 w.heap.size 43 #[.int .i64 v, .slice A n c, .slice B m d, .slice G p g] by rw [hW0]; exact Blk.new w _ _)
  have hW : Below w.heap.size w W0 := by rw [hW0]; exact (Below.refl _ _).alloc (Nat.le_refl _) _
  have HTO := Lib.hid (implTableOf_r v A n c ns B m d bs G p g gs W0 (hN.below hW) (hB.below hW) (hG.below hW) hn hm hp hcap)
  have HMO := Lib.hid (fun (w : World) => isMost_any most w)
  have HNE := Lib.hid (fun (w : World) => isNear_any near w)
  have HW0 := Lib.hid hW0
  obtain ⟨o, ho⟩ : ∃ o, o = rayR v ns bs gs most near := ⟨_, rfl⟩
  have HO := Lib.hid ho
  rw [← ho]
  clear hN hB hG hW0 ho hcap
  cases hrb : rowsB v ns bs gs
  · have HF := Lib.hid (show o = none by rw [HO.out]; exact rayR_no (rowS_no (by unfold rowOk; rw [hrb]; rfl)))
    have p0 := KA.out.cell 0
    have p1 := KA.out.cell 1
    have p2 := KA.out.cell 2
    have p3 := KA.out.cell 3
    rw [HW0.out] at p0 p1 p2 p3
    go_enter Try.func20, Try.ntmps20
    go_wp2_with fail
    rw [← HW0.out]
    clear p0 p1 p2 p3 HW0
    refine HTO.out.mono ?_
    rw [hrb]
    rintro e w1 ⟨N, nn, cn, Q, qn, cq, rfl, oN, oQ, b1⟩
    have hW1 := below_ext hW hW.size b1
    have hW2 := hW1.alloc hW1.size (.cells #[.int .i64 (tabV v ns bs gs), .slice N nn cn, .slice Q qn cq] 27)
    clear oN oQ b1 KA hW
    go_upto_region 2 with (fail)
    generalize w1.alloc (.cells #[.int .i64 (tabV v ns bs gs), .slice N nn cn, .slice Q qn cq] 27) = W1 at *
    go_wp2_with fail
    go_ret2
    rw [HF.out]
    exact nilFb _ _ _ hW2
  · have HRB := Lib.hid hrb
    obtain ⟨V, rfl, hV, hm8, -, -⟩ := rows_bd hrb
    rw [HLB.out] at hm8
    have HTV := Lib.hid (show tabV V ns bs gs = (V : Int) ∧ tabN V ns bs gs = tabT V m ns bs gs (m + 1) ∧ tabQ V ns bs gs = seqI V m from ⟨by unfold tabV; rw [if_pos hrb], by unfold tabN; rw [if_pos hrb, HLB.out]; rfl, by unfold tabQ; rw [if_pos hrb, HLB.out]⟩)
    clear hrb
    cases hm64 : inB most 0 64
    · have HF := Lib.hid (show o = none by rw [HO.out]; exact rayR_no (rowS_no (by unfold rowOk; rw [hm64, HRB.out]; rfl)))
      rw [hm64] at HMO
      have p0 := KA.out.cell 0
      have p1 := KA.out.cell 1
      have p2 := KA.out.cell 2
      have p3 := KA.out.cell 3
      rw [HW0.out] at p0 p1 p2 p3
      go_enter Try.func20, Try.ntmps20
      go_wp2_with fail
      rw [← HW0.out]
      clear p0 p1 p2 p3 HW0
      refine HTO.out.mono ?_
      rw [HRB.out, HTV.out.1, HTV.out.2.1, HTV.out.2.2]
      rintro e w1 ⟨N, nn, cn, Q, qn, cq, rfl, oN, oQ, b1⟩
      have hW1 := below_ext hW hW.size b1
      have hW2 := hW1.alloc hW1.size (.cells #[.int .i64 V, .slice N nn cn, .slice Q qn cq] 27)
      have KA1 := Lib.hid ((KA.out.ext b1).alloc (.cells #[.int .i64 V, .slice N nn cn, .slice Q qn cq] 27))
      have KO := Lib.hid (Blk.new w1 27 #[.int .i64 V, .slice N nn cn, .slice Q qn cq])
      have ON := Lib.hid ((OwnF.low oN hW.size).alloc (.cells #[.int .i64 V, .slice N nn cn, .slice Q qn cq] 27))
      have OQ := Lib.hid ((OwnI.low oQ hW.size).alloc (.cells #[.int .i64 V, .slice N nn cn, .slice Q qn cq] 27))
      have HGO := Lib.hid (show w.heap.size ≤ w1.heap.size from hW1.size)
      have HGA := Lib.hid (show w.heap.size ≠ w1.heap.size from by have := (KA.out.ext b1).lt; omega)
      clear oN oQ b1 KA hW
      go_upto_region 2 with (fail)
      generalize w1.alloc (.cells #[.int .i64 V, .slice N nn cn, .slice Q qn cq] 27) = W1 at *
      generalize w1.heap.size = gO at *
      go_wp2_with fail
      refine (HMO.out _).mono ?_
      rintro e w2 ⟨rfl, rfl⟩
      go_wp2_with fail
      go_ret2
      rw [HF.out]
      exact nilFb _ _ _ hW2
    · obtain ⟨m0, m1⟩ := inB_iff.1 hm64
      obtain ⟨M, rfl⟩ := Int.eq_ofNat_of_zero_le m0
      rw [hm64] at HMO
      have HM64 := Lib.hid hm64
      clear hm64
      cases hne : leastO (absK .f32 near)
      · have HF := Lib.hid (show o = none by rw [HO.out]; exact rayR_no (rowS_no (by unfold rowOk; rw [hne, HRB.out, HM64.out]; rfl)))
        rw [hne] at HNE
        have p0 := KA.out.cell 0
        have p1 := KA.out.cell 1
        have p2 := KA.out.cell 2
        have p3 := KA.out.cell 3
        rw [HW0.out] at p0 p1 p2 p3
        go_enter Try.func20, Try.ntmps20
        go_wp2_with fail
        rw [← HW0.out]
        clear p0 p1 p2 p3 HW0
        refine HTO.out.mono ?_
        rw [HRB.out, HTV.out.1, HTV.out.2.1, HTV.out.2.2]
        rintro e w1 ⟨N, nn, cn, Q, qn, cq, rfl, oN, oQ, b1⟩
        have hW1 := below_ext hW hW.size b1
        have hW2 := hW1.alloc hW1.size (.cells #[.int .i64 V, .slice N nn cn, .slice Q qn cq] 27)
        have KA1 := Lib.hid ((KA.out.ext b1).alloc (.cells #[.int .i64 V, .slice N nn cn, .slice Q qn cq] 27))
        have KO := Lib.hid (Blk.new w1 27 #[.int .i64 V, .slice N nn cn, .slice Q qn cq])
        have ON := Lib.hid ((OwnF.low oN hW.size).alloc (.cells #[.int .i64 V, .slice N nn cn, .slice Q qn cq] 27))
        have OQ := Lib.hid ((OwnI.low oQ hW.size).alloc (.cells #[.int .i64 V, .slice N nn cn, .slice Q qn cq] 27))
        have HGO := Lib.hid (show w.heap.size ≤ w1.heap.size from hW1.size)
        have HGA := Lib.hid (show w.heap.size ≠ w1.heap.size from by have := (KA.out.ext b1).lt; omega)
        clear oN oQ b1 KA hW
        go_upto_region 2 with (fail)
        generalize w1.alloc (.cells #[.int .i64 V, .slice N nn cn, .slice Q qn cq] 27) = W1 at *
        generalize w1.heap.size = gO at *
        go_wp2_with fail
        refine (HMO.out _).mono ?_
        rintro e w2 ⟨rfl, rfl⟩
        go_wp2_with fail
        refine (HNE.out _).mono ?_
        rintro e w3 ⟨rfl, dr3⟩
        have b3 := dr3.below
        clear dr3
        have hW3 := below_ext hW2 hW2.size b3
        go_wp2_with fail
        go_ret2
        rw [HF.out]
        exact nilFb _ _ _ hW3
      · rw [hne] at HNE
        have HOK := Lib.hid (show rowOk V ns bs gs (M : Int) near = true by unfold rowOk; rw [hne, HRB.out, HM64.out]; rfl)
        clear hne
        have HRS := Lib.hid (rowS_yes HOK.out)
        rw [HLB.out] at HRS
        have HSO := Lib.hid (fun A n c B d (w' : World) oN oB hb hn => solve_any w.heap.size V A n c (tabT V m ns bs gs (m + 1)) B m d (seqI V m) M near w' oN oB hb hV hm8 hn (by omega))
        have p0 := KA.out.cell 0
        have p1 := KA.out.cell 1
        have p2 := KA.out.cell 2
        have p3 := KA.out.cell 3
        rw [HW0.out] at p0 p1 p2 p3
        go_enter Try.func20, Try.ntmps20
        go_wp2_with fail
        rw [← HW0.out]
        clear p0 p1 p2 p3 HW0
        refine HTO.out.mono ?_
        rw [HRB.out, HTV.out.1, HTV.out.2.1, HTV.out.2.2]
        rintro e w1 ⟨N, nn, cn, Q, qn, cq, rfl, oN, oQ, b1⟩
        have hW1 := below_ext hW hW.size b1
        have hW2 := hW1.alloc hW1.size (.cells #[.int .i64 V, .slice N nn cn, .slice Q qn cq] 27)
        have KA1 := Lib.hid ((KA.out.ext b1).alloc (.cells #[.int .i64 V, .slice N nn cn, .slice Q qn cq] 27))
        have KO := Lib.hid (Blk.new w1 27 #[.int .i64 V, .slice N nn cn, .slice Q qn cq])
        have ON := Lib.hid ((OwnF.low oN hW.size).alloc (.cells #[.int .i64 V, .slice N nn cn, .slice Q qn cq] 27))
        have OQ := Lib.hid ((OwnI.low oQ hW.size).alloc (.cells #[.int .i64 V, .slice N nn cn, .slice Q qn cq] 27))
        have HGO := Lib.hid (show w.heap.size ≤ w1.heap.size from hW1.size)
        have HGA := Lib.hid (show w.heap.size ≠ w1.heap.size from by have := (KA.out.ext b1).lt; omega)
        clear oN oQ b1 KA hW
        go_upto_region 2 with (fail)
        generalize w1.alloc (.cells #[.int .i64 V, .slice N nn cn, .slice Q qn cq] 27) = W1 at *
        generalize w1.heap.size = gO at *
        obtain rfl : m = qn := by have h9 := OQ.out.len; simp [seqI] at h9; exact h9
        have HNN := Lib.hid (show nn = (m + 1) * (V + m + 1) by rw [← ON.out.len, tabT_len])
        go_wp2_with fail
        refine (HMO.out _).mono ?_
        rintro e w2 ⟨rfl, rfl⟩
        go_wp2_with fail
        refine (HNE.out _).mono ?_
        rintro e w3 ⟨rfl, dr3⟩
        have b3 := dr3.below
        clear dr3
        have hW3 := below_ext hW2 hW2.size b3
        have p0 := (KO.out.ext b3).cell 0
        have p1 := (KO.out.ext b3).cell 1
        have p2 := (KO.out.ext b3).cell 2
        have HS := Lib.hid (HSO.out N nn cn Q cq w3 (ON.out.below b3) (OQ.out.below b3) hW3.size HNN.out)
        have KO3 := Lib.hid (KO.out.ext b3)
        have KA3 := Lib.hid (KA1.out.ext b3)
        clear KO ON OQ b3 HSO KA1
        go_wp2_with fail
        refine HS.out.mono ?_
        cases hs : solveT V near M 0 (tabT V m ns bs gs (m + 1)) (seqI V m) with
        | none =>
          have HF := Lib.hid (show o = none by rw [HO.out]; exact rayR_no (by rw [HRS.out]; exact hs))
          clear p0 p1 p2
          rintro e w6 ⟨b6, rfl⟩
          have hW6 := below_ext hW3 hW3.size b6
          have KO6 := KO3.out.ext b6
          have p0 := KO6.cell 0
          have p1 := KO6.cell 1
          have p2 := KO6.cell 2
          have l0 := KO6.free 0
          have l1 := KO6.free 1
          have l2 := KO6.free 2
          have hW7 := zero_set (g := gO) hW6 HGO.out (.int .i64 0) (.slice none 0 0) (.slice none 0 0)
          go_wp2_with fail
          go_ret2
          rw [HF.out]
          exact nilFb _ _ _ hW7
        | some s =>
          obtain ⟨a, b, cnt, col⟩ := s
          have HRE := Lib.hid (show rowS V ns bs gs M near = some (a, b, cnt, col) by rw [HRS.out]; exact hs)
          have HINV := Lib.hid (rowS_inv HRE.out)
          clear p0 p1 p2 hs
          rintro e w6 ⟨b6, A6, n6, c6, B6, m6, d6, rfl, o6, q6⟩
          obtain rfl : m = m6 := by rw [← q6.len, HINV.out.2.2.1, HLB.out]
          have HNN6 := Lib.hid (show n6 = (m + 1) * (V + m + 1) by rw [← o6.len, HINV.out.2.1.1, HINV.out.2.2.1, HLB.out])
          have hW6 := below_ext hW3 hW3.size b6
          have KO6 := Lib.hid (KO3.out.ext b6)
          have p0 := KO6.out.cell 0
          have p1 := KO6.out.cell 1
          have p2 := KO6.out.cell 2
          have l0 := KO6.out.free 0
          have l1 := KO6.out.free 1
          have l2 := KO6.out.free 2
          have HP6 := Lib.hid (show 0 < n6 ∧ 0 < m from ⟨by rw [HNN6.out]; exact Nat.mul_pos (by omega) (by omega), by omega⟩)
          have hW7 := zero_set (g := gO) hW6 HGO.out (.int .i64 V) (.slice A6 n6 c6) (.slice B6 m d6)
          have hcN := own_pos_ne o6 HP6.out.1 KO6.out (by decide)
          have hcQ := own_pos_neI q6 HP6.out.2 KO6.out (by decide)
          have O7 := Lib.hid (((o6.far (p := ⟨gO, 0, none⟩) hcN (.int .i64 V)).far (p := ⟨gO, 1, none⟩) hcN (.slice A6 n6 c6)).far (p := ⟨gO, 2, none⟩) hcN (.slice B6 m d6))
          have Q7 := Lib.hid (((q6.far (p := ⟨gO, 0, none⟩) hcQ (.int .i64 V)).far (p := ⟨gO, 1, none⟩) hcQ (.slice A6 n6 c6)).far (p := ⟨gO, 2, none⟩) hcQ (.slice B6 m d6))
          have KO7 := Lib.hid (show Blk (((w6.setCell ⟨gO, 0, none⟩ (.int .i64 V)).setCell ⟨gO, 1, none⟩ (.slice A6 n6 c6)).setCell ⟨gO, 2, none⟩ (.slice B6 m d6)) gO 27 #[.int .i64 V, .slice A6 n6 c6, .slice B6 m d6] from ((KO6.out.set 0 (.int .i64 V)).set 1 (.slice A6 n6 c6)).set 2 (.slice B6 m d6))
          have KA7 := Lib.hid (((((KA3.out.ext b6)).far (p := ⟨gO, 0, none⟩) HGA.out (.int .i64 V)).far (p := ⟨gO, 1, none⟩) HGA.out (.slice A6 n6 c6)).far (p := ⟨gO, 2, none⟩) HGA.out (.slice B6 m d6))
          clear b6 o6 q6 hcN hcQ hW6 KA3 KO3
          by_cases hcol : col < 0
          · have HF := Lib.hid (show o = none by rw [HO.out]; exact rayR_neg HRE.out hcol)
            go_wp2_with fail
            go_ret2
            rw [HF.out]
            exact nilFb _ _ _ hW7
          · have hcg : 0 ≤ col := by omega
            obtain ⟨cc, rfl⟩ := Int.eq_ofNat_of_zero_le hcg
            clear hcg
            have HF := Lib.hid (show o = some (rayT V cc a b) by rw [HO.out]; exact rayR_of HRE.out)
            have HCC := Lib.hid (show cc < V + m from by have h9 := HINV.out.2.2.2; rw [HLB.out] at h9; rcases h9 with h | ⟨c9, h, h2⟩ <;> omega)
            have HLB7 := Lib.hid (show b.length = m by rw [HINV.out.2.2.1, HLB.out])
            have HBS := Lib.hid (fun j (hj : j < m) => show ∃ x : Nat, b.getD j 0 = (x : Int) from by obtain ⟨x, h1, _⟩ := basOk_in HINV.out.2.1.2 (show j < b.length by rw [HLB7.out]; exact hj); exact ⟨x, h1⟩)
            obtain ⟨f, hf⟩ : ∃ f, f = (fun i => Op.negFloat .f32 (a.getD (i * (V + m + 1) + cc) 0)) := ⟨_, rfl⟩
            have HRU := Lib.hid (show rayUp V cc a b m = plUp V b f m by unfold rayUp; rw [HLB7.out, hf])
            have HAT := Lib.hid (fun i (w : World) hN (hi : i < m) => tat_any V A6 n6 c6 a B6 m d6 i cc w hN hV.2 hm8.2 HNN6.out (by omega) (by have := HCC.out; omega))
            have HFI := Lib.hid (fun i => show Op.negFloat .f32 (a.getD (i * (V + m + 1) + cc) 0) = f i by rw [hf])
            have hneg := fun (w : World) (b : Nat) => run_neg_f (P := Try.prog) w b
            clear hf HINV HRE HRS HTV
            go_upto_region 7 with (fail)
            generalize ((w6.setCell ⟨gO, 0, none⟩ (.int .i64 V)).setCell ⟨gO, 1, none⟩ (.slice A6 n6 c6)).setCell ⟨gO, 2, none⟩ (.slice B6 m d6) = W7 at *
            clear p0 p1 p2 l0 l1 l2 KO6 hcol
            have p0 := KA7.out.cell 0
            go_wp2_with (at_make; refine wp_make_flts _ rfl _ _ 22 rfl 34 Try.underlying22 infoF .i64 .i64 _ _ V rfl rfl rfl rfl (by omega) ?_; intro w2 gB oB bB; have r2 := (KO7.out.ext bB).cell 2)
            clear p0 r2
            go_loopg [53] m (fun rr iv wi => ∃ i : Nat, rr = m - i ∧ i ≤ m ∧ iv = .int .i64 i ∧ Hid (OwnF 34 W7.heap.size wi (some ⟨gB, 0, none⟩) V V (plUp V b f i)) ∧ Below W7.heap.size W7 wi)
            case atStart => exact ⟨0, rfl, Nat.zero_le _, rfl, Lib.hid oB, bB⟩
            case round =>
              obtain ⟨i, hr, hi, rfl, HO2, hbi⟩ := hrel
              have HRK := Lib.hid hr
              clear hr oB bB
              obtain ⟨wo, hwo⟩ : ∃ x, x = wr := ⟨_, rfl⟩
              rw [← hwo]
              rw [← hwo] at hbi HO2
              clear hwo
              have KX1 := Lib.hid (KO7.out.ext hbi)
              have KA1 := Lib.hid (KA7.out.ext hbi)
              have p0 := KX1.out.cell 0
              have p1 := KX1.out.cell 1
              have p2 := KX1.out.cell 2
              have q0 := KA1.out.cell 0
              by_cases hlt : i < m
              · have hlt' : (i : Int) < (m : Int) := by omega
                obtain ⟨ad, hB0, _, hcell⟩ := (Q7.out.ints.below hbi).at_ hlt
                have HB0 := Lib.hid hB0
                subst hB0
                obtain ⟨x, hx⟩ := HBS.out i hlt
                have HX := Lib.hid hx
                rw [hx] at hcell
                clear hx
                by_cases hxV : x < V
                · have hxV' : (x : Int) < (V : Int) := by omega
                  have HUP := Lib.hid (plUp_put (f := f) HX.out hxV)
                  go_wp2_with fail
                  refine (HAT.out i _ (O7.out.flts.below hbi) hlt).mono ?_
                  rintro e w5 ⟨rfl, b5⟩
                  have HFX := Lib.hid (HFI.out i)
                  generalize a.getD (i * (V + m + 1) + cc) 0 = y at *
                  have HO5 := Lib.hid (HO2.out.below b5)
                  have hb5 := below_ext hbi hbi.size b5
                  have cJ := HO5.out.cell hxV
                  have fJ := HO5.out.free x
                  have HS5 := Lib.hid (HO5.out.set x (Op.negFloat .f32 y))
                  have HGB := Lib.hid (HO5.out.lt rfl).1
                  generalize (plUp V b f i).getD x 0 = y0 at *
                  have hst := run_store_f
                  clear p0 p1 p2 q0 b5 hbi HO2
                  go_wp2_with fail
                  go_roundg (m - (i + 1))
                  case measure => rw [HRK.out]; omega
                  case rel => exact ⟨i + 1, rfl, by omega, by go_num, by rw [HUP.out, ← HFX.out]; exact HS5, hb5.setCell (p := ⟨gB, x, none⟩) HGB.out _⟩
                · have hxV' : ¬ ((x : Int) < (V : Int)) := by omega
                  have HUP := Lib.hid (plUp_skip (f := f) HX.out hxV)
                  go_wp2_with fail
                  go_roundg (m - (i + 1))
                  case measure => rw [HRK.out]; omega
                  case rel => exact ⟨i + 1, rfl, by omega, by go_num, by rw [HUP.out]; exact HO2, hbi⟩
              · have e : i = m := by omega
                have HE := Lib.hid (show OwnF 34 W7.heap.size wo (some ⟨gB, 0, none⟩) V V (plUp V b f m) by have h9 := HO2.out; rw [e] at h9; exact h9)
                have hig : ¬ ((i : Int) < (m : Int)) := by omega
                clear e HO2
                by_cases hcV : cc < V
                · have hcV' : (cc : Int) < (V : Int) := by omega
                  have HRT := Lib.hid (show rayT V cc a b = (plUp V b f m).set cc 1065353216 by rw [rayT_lt hcV, HLB7.out, HRU.out])
                  have cJ := HE.out.cell hcV
                  have fJ := HE.out.free cc
                  have HS5 := Lib.hid (HE.out.set cc 1065353216)
                  have HGB := Lib.hid (HE.out.lt rfl).1
                  generalize (plUp V b f m).getD cc 0 = y0 at *
                  have hst := run_store_f
                  go_wp2_with fail
                  go_ret2
                  rw [HF.out]
                  exact ⟨_, _, _, rfl, by show OwnF _ _ _ _ _ _ (rayT V cc a b); rw [HRT.out]; exact OwnF.low HS5.out hW7.size, (below_ext hW7 hW7.size hbi).setCell (p := ⟨gB, cc, none⟩) (Nat.le_trans hW7.size HGB.out) _⟩
                · have hcV' : ¬ ((cc : Int) < (V : Int)) := by omega
                  have HRT := Lib.hid (show rayT V cc a b = plUp V b f m by rw [rayT_ge hcV, HLB7.out, HRU.out])
                  go_wp2_with fail
                  go_ret2
                  rw [HF.out]
                  exact ⟨_, _, _, rfl, by show OwnF _ _ _ _ _ _ (rayT V cc a b); rw [HRT.out]; exact OwnF.low HE.out hW7.size, below_ext hW7 hW7.size hbi⟩
end Go.Proofs.Ytckfmemjcjhaaaa
