/- The reference's RayOf (printed by gen_ray.py). -/
import Derived.Test.YtckfmemjcjhaaaaRayR
import Derived.Test.YtckfmemjcjhaaaaRowU
namespace Go.Proofs.Ytckfmemjcjhaaaa
open Go.RowKit

set_option maxRecDepth 100000 in
set_option maxHeartbeats 2000000 in
theorem specRayOf_r (v : Int) (A : Option Addr) (n c : Nat) (ns : List Nat) (B : Option Addr) (m d : Nat) (bs : List Nat) (G : Option Addr) (p g : Nat) (gs : List Nat) (most : Int) (near : Nat) (w : World) (hN : FltsAt w A n ns) (hB : FltsAt w B m bs) (hG : FltsAt w G p gs) (hn : n ≤ maxLen) (hm : m ≤ maxLen) (hp : p ≤ maxLen) :
    Calls Try.prog 18 #[.agg #[.int .i64 v, .slice A n c, .slice B m d, .slice G p g], .int .i64 most, .float .f32 near] w (RetFb (ryN (rayR v ns bs gs most near)) (rayR v ns bs gs most near).isSome w) := by
  have HLB := Lib.hid hB.len
  have HLN := Lib.hid hN.len
  have HLG := Lib.hid hG.len
  obtain ⟨W0, hW0⟩ : ∃ W0, W0 = w.alloc (.cells #[.int .i64 v, .slice A n c, .slice B m d, .slice G p g] 43) := ⟨_, rfl⟩
  have KA := Lib.hid (show Blk W0 w.heap.size 43 #[.int .i64 v, .slice A n c, .slice B m d, .slice G p g] by rw [hW0]; exact Blk.new w _ _)
  have hW : Below w.heap.size w W0 := by rw [hW0]; exact (Below.refl _ _).alloc (Nat.le_refl _) _
  have HN := Lib.hid (hN.below hW)
  have HB := Lib.hid (hB.below hW)
  have HG := Lib.hid (hG.below hW)
  have HCA := Lib.hid (l02Can_any w.heap.size v A n c ns B m d bs G p g gs most near W0 KA.out HN.out HB.out HG.out hn hm hp)
  have HW0 := Lib.hid hW0
  obtain ⟨o, ho⟩ : ∃ o, o = rayR v ns bs gs most near := ⟨_, rfl⟩
  have HO := Lib.hid ho
  rw [← ho]
  clear hN hB hG hW0 ho
  cases hok : rowOk v ns bs gs most near
  · have HF := Lib.hid (show o = none by rw [HO.out]; exact rayR_no (rowS_no hok))
    rw [hok] at HCA
    go_enter Try.func18, Try.ntmps18
    go_wp2_with fail
    rw [← HW0.out]
    clear HW0
    refine HCA.out.mono ?_
    rintro e w1 ⟨rfl, d1⟩
    have b1 := d1.below
    have hW1 := below_ext hW hW.size b1
    go_wp2_with fail
    go_ret2
    rw [HF.out]
    exact nilFb _ _ _ hW1
  · rw [hok] at HCA
    have hok2 := hok
    unfold rowOk at hok2
    rw [Bool.and_eq_true, Bool.and_eq_true] at hok2
    obtain ⟨h1, h2, -⟩ := hok2
    obtain ⟨V, rfl, hV, hm8, hnn, hpp⟩ := rows_bd h1
    have hM64 := (inB_iff.1 h2).2
    obtain ⟨M, rfl⟩ := Int.eq_ofNat_of_zero_le (inB_iff.1 h2).1
    rw [HLB.out] at hm8 hnn
    rw [HLN.out] at hnn
    rw [HLG.out] at hpp
    have HNL := Lib.hid hnn
    have HPL := Lib.hid hpp
    have HRS := Lib.hid (rowS_yes hok)
    rw [HLB.out] at HRS
    have HTO := Lib.hid (fun (w' : World) KX hN hB hG => l02TableOf_any w.heap.size V m A n c ns B d bs G p g gs w' KX hN hB hG hV hm8 HNL.out HPL.out)
    have HSO := Lib.hid (fun g A n c B d (w' : World) KX hN hB hn => l02Solved_any g V A n c (tabT V m ns bs gs (m + 1)) B m d (seqI V m) M near w' KX hN hB hV hm8 hn (by omega))
    clear h1 h2 hok hnn hpp
    go_enter Try.func18, Try.ntmps18
    go_wp2_with fail
    rw [← HW0.out]
    clear HW0
    refine HCA.out.mono ?_
    rintro e w1 ⟨rfl, d1⟩
    have b1 := d1.below
    have hW1 := below_ext hW hW.size b1
    have KA1 := Lib.hid (KA.out.ext b1)
    have HT := Lib.hid (HTO.out _ KA1.out (HN.out.below b1) (HB.out.below b1) (HG.out.below b1))
    clear KA HN HB HG b1 d1 HTO hW
    go_wp2_with fail
    refine HT.out.mono ?_
    rintro e w2 ⟨N, nn, cn, Q, cq, rfl, oN, oQ, b2⟩
    have hW2 := below_ext hW1 hW1.size b2
    have hW3 := hW2.alloc hW2.size (.cells #[.int .i64 V, .slice N nn cn, .slice Q m cq] 27)
    have KA3 := Lib.hid ((KA1.out.ext b2).alloc (.cells #[.int .i64 V, .slice N nn cn, .slice Q m cq] 27))
    have HNN := Lib.hid (show nn = (m + 1) * (V + m + 1) by rw [← oN.len, tabT_len])
    have HS := Lib.hid (HSO.out w2.heap.size N nn cn Q cq (w2.alloc (.cells #[.int .i64 V, .slice N nn cn, .slice Q m cq] 27)) (Blk.new w2 _ _) (oN.flts.alloc (.cells #[.int .i64 V, .slice N nn cn, .slice Q m cq] 27)) (oQ.ints.alloc (.cells #[.int .i64 V, .slice N nn cn, .slice Q m cq] 27)) HNN.out)
    clear oN oQ b2 KA1 HSO HT
    go_wp2_with fail
    generalize w2.alloc (.cells #[.int .i64 V, .slice N nn cn, .slice Q m cq] 27) = W1 at *
    generalize w2.heap.size = gS at *
    refine HS.out.mono ?_
    cases hs : solveT V near M 0 (tabT V m ns bs gs (m + 1)) (seqI V m) with
    | none =>
      have HF := Lib.hid (show o = none by rw [HO.out]; exact rayR_no (by rw [HRS.out]; exact hs))
      rintro e w6 ⟨b6, rfl⟩
      have hW6 := below_ext hW3 hW3.size b6
      have hW7 := hW6.alloc hW6.size (.cells #[.int .i64 0, .slice none 0 0, .slice none 0 0] 27)
      go_wp2_with fail
      go_ret2
      rw [HF.out]
      exact nilFb _ _ _ hW7
    | some s =>
      obtain ⟨a, b, cnt, col⟩ := s
      have HRE := Lib.hid (show rowS V ns bs gs M near = some (a, b, cnt, col) by rw [HRS.out]; exact hs)
      have HINV := Lib.hid (rowS_inv HRE.out)
      clear hs
      rintro e w6 ⟨b6, A6, n6, c6, B6, m6, d6, rfl, o6, q6⟩
      obtain rfl : m = m6 := by rw [← q6.len, HINV.out.2.2.1, HLB.out]
      have HNN6 := Lib.hid (show n6 = (m + 1) * (V + m + 1) by rw [← o6.len, HINV.out.2.1.1, HINV.out.2.2.1, HLB.out])
      have hW6 := below_ext hW3 hW3.size b6
      have hW7 := hW6.alloc hW6.size (.cells #[.int .i64 V, .slice A6 n6 c6, .slice B6 m d6] 27)
      have KO7 := Lib.hid (Blk.new w6 27 #[.int .i64 V, .slice A6 n6 c6, .slice B6 m d6])
      have KA7 := Lib.hid ((KA3.out.ext b6).alloc (.cells #[.int .i64 V, .slice A6 n6 c6, .slice B6 m d6] 27))
      have O7 := Lib.hid (o6.flts.alloc (.cells #[.int .i64 V, .slice A6 n6 c6, .slice B6 m d6] 27))
      have Q7 := Lib.hid (q6.ints.alloc (.cells #[.int .i64 V, .slice A6 n6 c6, .slice B6 m d6] 27))
      clear o6 q6 b6 KA3
      by_cases hcol : col < 0
      · have HF := Lib.hid (show o = none by rw [HO.out]; exact rayR_neg HRE.out hcol)
        have hcd : decide (col < 0) = true := decide_eq_true hcol
        rw [hcd]
        go_wp2_with fail
        go_ret2
        rw [HF.out]
        exact nilFb _ _ _ hW7
      · have hcd : decide (col < 0) = false := decide_eq_false hcol
        rw [hcd]
        have hcg : 0 ≤ col := by omega
        obtain ⟨cc, rfl⟩ := Int.eq_ofNat_of_zero_le hcg
        clear hcg hcd
        have HF := Lib.hid (show o = some (rayT V cc a b) by rw [HO.out]; exact rayR_of HRE.out)
        have HCC := Lib.hid (show cc < V + m from by have h9 := HINV.out.2.2.2; rw [HLB.out] at h9; rcases h9 with h | ⟨c9, h, h2⟩ <;> omega)
        have HLB7 := Lib.hid (show b.length = m by rw [HINV.out.2.2.1, HLB.out])
        have HBS := Lib.hid (fun j (hj : j < m) => show ∃ x : Nat, b.getD j 0 = (x : Int) from by obtain ⟨x, h1, _⟩ := basOk_in HINV.out.2.1.2 (show j < b.length by rw [HLB7.out]; exact hj); exact ⟨x, h1⟩)
        obtain ⟨f, hf⟩ : ∃ f, f = (fun i => Op.negFloat .f32 (a.getD (i * (V + m + 1) + cc) 0)) := ⟨_, rfl⟩
        have HRU := Lib.hid (show rayUp V cc a b m = plUp V b f m by unfold rayUp; rw [HLB7.out, hf])
        have HAT := Lib.hid (fun g i (w : World) KX hN (hi : i < m) => l02At_any g V A6 n6 c6 a B6 m d6 i cc w KX hN hV.2 hm8.2 HNN6.out (by omega) (by have := HCC.out; omega))
        have HFI := Lib.hid (fun i => show Op.negFloat .f32 (a.getD (i * (V + m + 1) + cc) 0) = f i by rw [hf])
        have hneg := fun (w : World) (b : Nat) => run_neg_f (P := Try.prog) w b
        clear hf HINV HRE HRS
        go_upto_region 7 with (fail)
        generalize w6.alloc (.cells #[.int .i64 V, .slice A6 n6 c6, .slice B6 m d6] 27) = W7 at *
        generalize w6.heap.size = gO at *
        clear hcol
        have p0 := KA7.out.cell 0
        go_wp2_with (at_make; refine wp_make_flts _ rfl _ _ 22 rfl 34 Try.underlying22 infoF .i64 .i64 _ _ V rfl rfl rfl rfl (by omega) ?_; intro w8 gB oB bB)
        clear p0
        go_loopg [14] m (fun rr iv wi => ∃ i : Nat, rr = m - i ∧ i ≤ m ∧ iv = .int .i64 i ∧ Hid (OwnF 34 W7.heap.size wi (some ⟨gB, 0, none⟩) V V (plUp V b f i)) ∧ Below W7.heap.size W7 wi)
        case atStart => exact ⟨0, rfl, Nat.zero_le _, rfl, Lib.hid oB, bB⟩
        case round =>
          obtain ⟨i, hr, hi, rfl, HO2, hbi⟩ := hrel
          have HRK := Lib.hid hr
          clear hr oB bB
          obtain ⟨wo, hwo⟩ : ∃ x, x = wr := ⟨_, rfl⟩
          rw [← hwo]
          rw [← hwo] at hbi HO2
          clear hwo
          have KX1 := Lib.hid (KO7.out.ext hbi)
          have KA1 := Lib.hid (KA7.out.ext hbi)
          have p0 := KX1.out.cell 0
          have p2 := KX1.out.cell 2
          have q0 := KA1.out.cell 0
          by_cases hlt : i < m
          · have hlt' : (i : Int) < (m : Int) := by omega
            have HN1 := Lib.hid (O7.out.below hbi)
            obtain ⟨ad, hB0, _, hcell⟩ := (Q7.out.below hbi).at_ hlt
            have HB0 := Lib.hid hB0
            subst hB0
            obtain ⟨x, hx⟩ := HBS.out i hlt
            have HX := Lib.hid hx
            rw [hx] at hcell
            clear hx
            have HBI := Lib.hid hbi
            clear hbi
            by_cases hxV : x < V
            · have hxV' : (x : Int) < (V : Int) := by omega
              have HUP := Lib.hid (plUp_put (f := f) HX.out hxV)
              go_wp2_with fail
              go_quiet (fail)
              have hb2 := below_drewN HBI.out nq
              have HO3 := Lib.hid (HO2.out.drewN nq)
              have HK2 := Lib.hid (KX1.out.drewN nq)
              have HN2 := Lib.hid (HN1.out.drewN nq)
              have c2 := (World.cell?_drewN wo nq (ad.add i)).trans hcell
              clear p0 p2 q0 hcell HO2 KX1 HN1 KA1
              generalize wo.drewN nq = W1 at *
              have p2 := HK2.out.cell 2
              have cJ := HO3.out.cell hxV
              have fJ := HO3.out.free x
              have HFX := Lib.hid (HFI.out i)
              have HAT2 := Lib.hid (fun (w : World) KX hN => HAT.out gO i w KX hN hlt)
              generalize a.getD (i * (V + m + 1) + cc) 0 = y at *
              have HS5 := Lib.hid (fun q => (HO3.out.drewN q).set x (Op.negFloat .f32 y))
              have HGB := Lib.hid (HO3.out.lt rfl).1
              generalize (plUp V b f i).getD x 0 = y0 at *
              have HB2 := Lib.hid (fun q => (below_drewN hb2 q).setCell (p := ⟨gB, x, none⟩) HGB.out (.float .f32 (Op.negFloat .f32 y)))
              have hst := run_store_f
              clear hb2 HO3
              go_wp2_with fail
              go_region_with (go_at_call 56; refine (HAT2.out _ HK2.out.drew HN2.out.drew).mono ?_; rintro e w6 ⟨rfl, q6, rfl⟩)
              all_goals
                go_wp2_with fail
                go_roundg (m - (i + 1))
                case measure => rw [HRK.out]; omega
                case rel => exact ⟨i + 1, rfl, by omega, by go_num, by rw [HUP.out, ← HFX.out]; exact Lib.hid (HS5.out _), HB2.out _⟩
            · have hxV' : ¬ ((x : Int) < (V : Int)) := by omega
              have HUP := Lib.hid (plUp_skip (f := f) HX.out hxV)
              go_wp2_with fail
              go_quiet (fail)
              go_wp2_with fail
              go_roundg (m - (i + 1))
              case measure => rw [HRK.out]; omega
              case rel => exact ⟨i + 1, rfl, by omega, by go_num, by rw [HUP.out]; exact Lib.hid (HO2.out.drewN _), below_drewN HBI.out _⟩
          · have e : i = m := by omega
            have HE := Lib.hid (show OwnF 34 W7.heap.size wo (some ⟨gB, 0, none⟩) V V (plUp V b f m) by have h9 := HO2.out; rw [e] at h9; exact h9)
            have hig : ¬ ((i : Int) < (m : Int)) := by omega
            clear e HO2
            by_cases hcV : cc < V
            · have hcV' : (cc : Int) < (V : Int) := by omega
              have HRT := Lib.hid (show rayT V cc a b = (plUp V b f m).set cc 1065353216 by rw [rayT_lt hcV, HLB7.out, HRU.out])
              have cJ := HE.out.cell hcV
              have fJ := HE.out.free cc
              have HS5 := Lib.hid (HE.out.set cc 1065353216)
              have HGB := Lib.hid (HE.out.lt rfl).1
              generalize (plUp V b f m).getD cc 0 = y0 at *
              have hst := run_store_f
              go_wp2_with fail
              go_ret2
              rw [HF.out]
              exact ⟨_, _, _, rfl, by show OwnF _ _ _ _ _ _ (rayT V cc a b); rw [HRT.out]; exact OwnF.low HS5.out hW7.size, (below_ext hW7 hW7.size hbi).setCell (p := ⟨gB, cc, none⟩) (Nat.le_trans hW7.size HGB.out) _⟩
            · have hcV' : ¬ ((cc : Int) < (V : Int)) := by omega
              have HRT := Lib.hid (show rayT V cc a b = plUp V b f m by rw [rayT_ge hcV, HLB7.out, HRU.out])
              go_wp2_with fail
              go_ret2
              rw [HF.out]
              exact ⟨_, _, _, rfl, by show OwnF _ _ _ _ _ _ (rayT V cc a b); rw [HRT.out]; exact OwnF.low HE.out hW7.size, below_ext hW7 hW7.size hbi⟩
end Go.Proofs.Ytckfmemjcjhaaaa
