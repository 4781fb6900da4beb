/- The program's BestCorner (printed by gen_cori.py). -/
import Derived.Test.YtbbcddbdinmaaaaCorJ
import Derived.Test.YtbbcddbdinmaaaaTri
import Derived.Test.YtbbcddbdinmaaaaRayR
import Derived.Lib.SliceRun
namespace Go.Proofs.Ytbbcddbdinmaaaa
open Go.RowKit

theorem lin_cells {base g L c : Nat} {w : World} {ns bs : List Nat} (h : OwnC 96 base 3 w (some ⟨g, 0, none⟩) L c (linV ns bs L)) {i : Nat} (hi : i < L) :
    w.cell? ⟨g, i * 3, none⟩ = some (.float .f32 (laA ns i)) ∧ w.cell? ⟨g, i * 3 + 1, none⟩ = some (.float .f32 (laB ns i)) ∧ w.cell? ⟨g, i * 3 + 2, none⟩ = some (.float .f32 (laC bs i)) := by
  have key : ∀ j, j < 3 → w.cell? ⟨g, i * 3 + j, none⟩ = (triV ns bs i)[j]? := fun j hj => by
    rw [OwnC.cell h (by omega), linV_get ns bs hj L hi]
  exact ⟨key 0 (by omega), key 1 (by omega), key 2 (by omega)⟩
theorem flts_at3 {w : World} {ad : Addr} {n : Nat} {xs : List Nat} (h : FltsAt w (some ad) n xs) {j : Nat} (hj : j < n) : w.cell? (ad.add j) = some (.float .f32 (xs.getD j 0)) := by
  obtain ⟨ad2, e, _, hc⟩ := h.at_ hj
  injection e with e
  subst e
  exact hc
theorem flts_at4 {w : World} {ad : Addr} {n : Nat} {xs : List Nat} (h : FltsAt w (some ad) n xs) {j : Nat} (hj : j + 1 < n) : w.cell? { block := (ad.add j).block, off := (ad.add j).off + 1 } = some (.float .f32 (xs.getD (j + 1) 0)) := by
  have h2 : (ad.add j).add 1 = { block := (ad.add j).block, off := (ad.add j).off + 1 } := rfl
  rw [← h2, add_add']; exact flts_at3 h hj
theorem run_neq_nil22 {P : Program} (w : World) (t e : TypeId) (a : Option Addr) (n c n' c' : Nat) (h : P.underlying t = some (.slice e)) :
    (binOp .neq t (.slice a n c) (.slice none n' c')).run P w = .ok (.bool (!a.isNone)) w := by
  simp only [binOp]
  simp [Op.equal, Op.maxDepth, Lib.run_equalIn_slice_nil w 9999 t e a n c n' c' h]
theorem ownF_two3 {w : World} {x y base : Nat} (h : base ≤ w.heap.size) : OwnF 34 base (w.alloc (.cells #[.float .f32 x, .float .f32 y] 34)) (some ⟨w.heap.size, 0, none⟩) 2 2 [x, y] :=
  World.ownsRow_lit (e := 34) (base := base) (size := 1) w #[.float .f32 x, .float .f32 y] 2 h (by unfold maxLen; omega) rfl
theorem line_row {ns bs : List Nat} {m k : Nat} (hn : ns.length = 2 * m) (hb : bs.length = m) (hk : k < m) : laA ns k = ns.getD (2 * k) 0 ∧ laB ns k = ns.getD (2 * k + 1) 0 ∧ laC bs k = bs.getD k 0 := by
  unfold laA laB laC lineL bndL
  refine ⟨?_, ?_, ?_⟩
  · simp [List.getD, List.getElem?_append_left (show 2 * k < ns.length by omega)]
  · simp [List.getD, List.getElem?_append_left (show 2 * k + 1 < ns.length by omega)]
  · simp [List.getD, List.getElem?_append_left (show k < bs.length by omega)]
theorem line_end {ns bs : List Nat} {m : Nat} (hn : ns.length = 2 * m) (hb : bs.length = m) : triV ns bs m = [.float .f32 1065353216, .float .f32 0, .float .f32 0] ∧ triV ns bs (m + 1) = [.float .f32 0, .float .f32 1065353216, .float .f32 0] := by
  unfold triV laA laB laC lineL bndL
  have e1 : 2 * m - ns.length = 0 := by omega
  have e2 : 2 * m + 1 - ns.length = 1 := by omega
  have e3 : 2 * (m + 1) - ns.length = 2 := by omega
  have e4 : 2 * (m + 1) + 1 - ns.length = 3 := by omega
  have f1 : m - bs.length = 0 := by omega
  have f2 : m + 1 - bs.length = 1 := by omega
  refine ⟨?_, ?_⟩
  · simp [List.getD, List.getElem?_append_right (show ns.length ≤ 2 * m by omega), List.getElem?_append_right (show ns.length ≤ 2 * m + 1 by omega), List.getElem?_append_right (show bs.length ≤ m by omega), e1, e2, f1]
  · simp [List.getD, List.getElem?_append_right (show ns.length ≤ 2 * (m + 1) by omega), List.getElem?_append_right (show ns.length ≤ 2 * (m + 1) + 1 by omega), List.getElem?_append_right (show bs.length ≤ m + 1 by omega), e3, e4, f2]
/-- the best corner's list in a world, none: nil -/
def BestAtI (base : Nat) (w : World) (bv : Value) (o : Option (Nat × Nat)) : Prop := match o with
  | none => bv = .slice none 0 0
  | some xy => ∃ (g c : Nat), bv = .slice (some ⟨g, 0, none⟩) 2 c ∧ OwnF 34 base w (some ⟨g, 0, none⟩) 2 c [xy.1, xy.2]
theorem BestAtI.ext {base : Nat} {w w' : World} {bv : Value} {o : Option (Nat × Nat)} (h : BestAtI base w bv o) (hb : Below w.heap.size w w') : BestAtI base w' bv o := by
  cases o with
  | none => exact h
  | some xy =>
    obtain ⟨g, c, h1, h2⟩ := h
    exact ⟨g, c, h1, h2.below hb⟩
set_option maxRecDepth 100000 in
set_option maxHeartbeats 16000000 in
theorem implBestCorner_r (v : Int) (A : Option Addr) (n c : Nat) (ns : List Nat) (B : Option Addr) (m d : Nat) (bs : List Nat) (G : Option Addr) (p g : Nat) (gs : List Nat) (near : Nat) (w : World) (hN : FltsAt w A n ns) (hB : FltsAt w B m bs) (hG : FltsAt w G p gs) (hn : n ≤ maxLen) (hm : m ≤ maxLen) (hp : p ≤ maxLen) (hcap : n ≤ c ∧ c ≤ maxLen) :
    Calls Try.prog 33 #[.agg #[.int .i64 v, .slice A n c, .slice B m d, .slice G p g], .float .f32 near] w (RetFb (crL (corR v ns bs gs near)) (corR v ns bs gs near).isSome w) := by
  have HLB := Lib.hid hB.len
  have HLN := Lib.hid hN.len
  have HLG := Lib.hid hG.len
  obtain ⟨W0, hW0⟩ : ∃ W0, W0 = w.alloc (.cells #[.int .i64 v, .slice A n c, .slice B m d, .slice G p g] 43) := ⟨_, rfl⟩
  have KA := Lib.hid (show Blk W0 w.heap.size 43 #[.int .i64 v, .slice A n c, .slice B m d, .slice G p g] by rw [hW0]; exact Blk.new w _ _)
  have hW : Below w.heap.size w W0 := by rw [hW0]; exact (Below.refl _ _).alloc (Nat.le_refl _) _
  have HN := Lib.hid (hN.below hW)
  have HB := Lib.hid (hB.below hW)
  have HG := Lib.hid (hG.below hW)
  have HVR := Lib.hid (validRows_r v A n c ns B m d bs G p g gs W0 HN.out HB.out HG.out hn hm hp)
  have HNE := Lib.hid (fun (w : World) => isNear_any near w)
  have HW0 := Lib.hid hW0
  have HCAP := Lib.hid hcap
  obtain ⟨o, ho⟩ : ∃ o, o = corR v ns bs gs near := ⟨_, rfl⟩
  have HO := Lib.hid ho
  rw [← ho]
  clear hN hB hG hW0 ho hcap
  cases hrb : rowsB v ns bs gs
  · have HF := Lib.hid (show o = none by rw [HO.out]; exact corR_no (by unfold corOk; rw [hrb]; rfl))
    have p0 := KA.out.cell 0
    have p1 := KA.out.cell 1
    have p2 := KA.out.cell 2
    have p3 := KA.out.cell 3
    rw [HW0.out] at p0 p1 p2 p3
    go_enter Try.func33, Try.ntmps33
    go_wp2_with fail
    rw [← HW0.out]
    clear HW0 p0 p1 p2 p3
    refine HVR.out.mono ?_
    rw [hrb]
    rintro e w1 ⟨rfl, b1⟩
    have hW1 := below_ext hW hW.size b1
    go_wp2_with fail
    go_ret2
    rw [HF.out]
    exact nilFb _ _ _ hW1
  · skip
    by_cases hv2 : v = 2
    · have hv3 : (v != 2) = false := by rw [hv2]; rfl
      cases hne : leastO (absK .f32 near)
      · have HF := Lib.hid (show o = none by rw [HO.out]; exact corR_no (by unfold corOk; rw [hne, Bool.and_false, Bool.and_false]))
        rw [hne] at HNE
        clear hv2
        have p0 := KA.out.cell 0
        have p1 := KA.out.cell 1
        have p2 := KA.out.cell 2
        have p3 := KA.out.cell 3
        rw [HW0.out] at p0 p1 p2 p3
        go_enter Try.func33, Try.ntmps33
        go_wp2_with fail
        rw [← HW0.out]
        clear HW0 p0 p1 p2 p3
        refine HVR.out.mono ?_
        rw [hrb]
        rintro e w1 ⟨rfl, b1⟩
        have hW1 := below_ext hW hW.size b1
        have p0 := (KA.out.ext b1).cell 0
        go_wp2_with fail
        refine (HNE.out _).mono ?_
        rintro e w2 ⟨rfl, d2⟩
        have hW2 := below_ext hW1 hW1.size d2.below
        go_wp2_with fail
        go_ret2
        rw [HF.out]
        exact nilFb _ _ _ hW2
      · rw [hne] at HNE
        have HOK := Lib.hid (show corOk v ns bs gs near = true by unfold corOk; rw [hrb, hne, hv2]; rfl)
        have HR := Lib.hid (show o = (corOut bs.length ns bs gs near (bs.length + 2)).1 by rw [HO.out, corR_yes HOK.out])
        rw [HLB.out] at HR
        obtain ⟨V, hVv, hV, hm8, hnn, hpp⟩ := rows_bd hrb
        have hV2 : V = 2 := by omega
        subst hV2
        subst hv2
        rw [HLB.out] at hm8 hnn
        have HLR := Lib.hid (fun k (hk : k < m) => line_row (k := k) hnn HLB.out hk)
        have HLE := Lib.hid (line_end hnn HLB.out)
        rw [HLN.out] at hnn
        rw [HLG.out] at hpp
        have HNN := Lib.hid hnn
        have HPP := Lib.hid hpp
        have hnb : n ≤ 16 := by omega
        have hnpos : 0 < n := by omega
        have HRB := Lib.hid (show rowsB ((2 : Nat) : Int) ns bs gs = true from hrb)
        have HGA := Lib.hid (fun A X cx xs (w' : World) hN hB hG hX => implGainOf_any 2 A n c ns B m d bs G p g gs X cx xs w' hN hB hG hX hn hm hp HRB.out (by omega) hpp)
        have HPL := Lib.hid (fun ad X cx xs (w' : World) hN hB hG hX => implIsPlan_any 2 ad n c ns B m d bs G p g gs X cx xs near w' hN hB hG hX hn hm hp HRB.out (by omega) hm8.2 hnn HCAP.out hne)
        have HRW := Lib.hid (fun ad k (w' : World) hk => row_any 2 m ad n c B m d G p g k w' (by omega) hm8.2 hk hnn HCAP.out)
        have HSZ := Lib.hid (fun b (w' : World) => absolute_any b w')
        obtain ⟨ad, hA, _, _⟩ := HN.out.at_ hnpos
        subst hA
        clear hne hVv hnn hpp hV
        have p0 := KA.out.cell 0
        have p1 := KA.out.cell 1
        have p2 := KA.out.cell 2
        have p3 := KA.out.cell 3
        rw [HW0.out] at p0 p1 p2 p3
        go_enter Try.func33, Try.ntmps33
        go_wp2_with fail
        rw [← HW0.out]
        clear HW0 p0 p1 p2 p3
        refine HVR.out.mono ?_
        rw [hrb]
        rintro e w1 ⟨rfl, b1⟩
        have hW1 := below_ext hW hW.size b1
        have p0 := (KA.out.ext b1).cell 0
        go_wp2_with fail
        refine (HNE.out _).mono ?_
        rintro e w2 ⟨rfl, d2⟩
        have hb2 := below_ext b1 b1.size d2.below
        have HB2 := Lib.hid hb2
        have p2 := (KA.out.ext hb2).cell 2
        clear p0 d2 hW1 b1 hb2 hrb
        go_wp2_with fail
        clear p2
        go_loopg [6, 35] m (fun rr ov iv wi => ∃ (k c' : Nat) (A' : Option Addr), rr = m - k ∧ k ≤ m ∧ ov = .slice A' k c' ∧ iv = .int .i64 k ∧ Hid (OwnC 96 W0.heap.size 3 wi A' k c' (linV ns bs k)) ∧ Below W0.heap.size W0 wi)
        case atStart => exact ⟨0, 0, none, rfl, Nat.zero_le _, rfl, rfl, Lib.hid (OwnC.nil_ _ _ _ _), HB2.out⟩
        case round =>
          clear HB2
          obtain ⟨k, c', A', hr, hk, rfl, rfl, HOL, hbi⟩ := hrel
          have HRK := Lib.hid hr
          clear hr
          obtain ⟨wo, hwo⟩ : ∃ x, x = wr := ⟨_, rfl⟩
          rw [← hwo]
          rw [← hwo] at hbi HOL
          clear hwo
          by_cases hlt : k < m
          · have hlt' : (k : Int) < (m : Int) := by omega
            obtain ⟨bd, hbd, _, cb⟩ := (HB.out.below hbi).at_ hlt
            have HBD := Lib.hid hbd
            subst hbd
            have HLK := Lib.hid (HLR.out k hlt)
            have HSK := Lib.hid (linV_succ ns bs k)
            obtain ⟨P, hP⟩ : ∃ P : Nat, k * 2 = P := ⟨_, rfl⟩
            have hPn : P + 1 < n := by have := HNN.out; omega
            have HTK := Lib.hid (show triV ns bs k = [.float .f32 (ns.getD P 0), .float .f32 (ns.getD (P + 1) 0), .float .f32 (bs.getD k 0)] by unfold triV; rw [HLK.out.1, HLK.out.2.1, HLK.out.2.2, Nat.mul_comm 2 k, hP])
            have HRK2 := Lib.hid (fun (w' : World) => HRW.out ad k w' hlt)
            rw [hP] at HRK2
            generalize bs.getD k 0 = y at *
            obtain ⟨i0, hi0, hz0, hz1, hz2⟩ := info_parts info3
            have K3 := Lib.hid (KA.out.ext hbi)
            have N3 := Lib.hid (HN.out.below hbi)
            have HBI := Lib.hid hbi
            have e0 := K3.out.drew.cell 0
            have e1 := K3.out.drew.cell 1
            have e2 := K3.out.drew.cell 2
            have e3 := K3.out.drew.cell 3
            have HX0 := Lib.hid (fun (wz : World) (h : FltsAt wz (some ad) n ns) => flts_at3 h (j := P) (by omega))
            have HX1 := Lib.hid (fun (wz : World) (h : FltsAt wz (some ad) n ns) => flts_at4 h (j := P) hPn)
            generalize ns.getD P 0 = vx at *
            generalize ns.getD (P + 1) 0 = vy at *
            clear hbi
            go_upto_region 7 with (fail)
            go_region_law (first
              | (go_simp; go_at_call 76; refine (HRK2.out wo.drew).mono ?_; rintro e w4 ⟨c4, rfl, b4⟩; have K4 := Lib.hid (K3.out.drew.ext b4); have q0 := K4.out.cell 0; have q1 := K4.out.cell 1; have q2 := K4.out.cell 2; have q3 := K4.out.cell 3; have N4 := Lib.hid (N3.out.drew.below b4); have x0 := HX0.out _ N4.out; have x1 := HX1.out _ N4.out; have HB4 := Lib.hid (ext_trans (Below.drew (Below.refl wo.heap.size wo)) b4); clear b4)
              | (go_simp; go_at_call 76; refine (HRK2.out w4).mono ?_; rintro e w5 ⟨c5, rfl, b5⟩; have K5 := Lib.hid (K4.out.ext b5); have N5 := Lib.hid (N4.out.below b5); have z0 := HX0.out _ N5.out; have z1 := HX1.out _ N5.out; have r0 := K5.out.cell 0; have r1 := K5.out.cell 1; have r2 := K5.out.cell 2; have r3 := K5.out.cell 3; have HB5 := Lib.hid (ext_trans HB4.out b5); clear b5)
              | (refine step_append_lies _ (by rfl) _ _ _ (by rfl) W0.heap.size 96 i0 _ 3 12 Try.underlying94 hi0 hz0 hz1 hz2 rfl (by omega) (.slice A' k c') k (linV ns bs k) (by rfl) (OwnC.alloc (OwnC.below HOL.out HB5.out) _) ⟨w5.heap.size, 0, none⟩ 1 1 [.float .f32 vx, .float .f32 vy, .float .f32 y] (by rfl) (by rfl) (World.news_of_block (cs := #[.float .f32 vx, .float .f32 vy, .float .f32 y]) (t := 96) (fr := (0, 0)) (heap_alloc_new w5 _)) (by simp [Value.oneCell']) (by omega) (by unfold maxLen; omega) (by omega) (by have h1 := HBI.out.size; have h2 := HB5.out.size; simp; omega) (w5.heap.size + 1) (by simp) ?_; intro gg6 cap6 w6 hown6 hgrow hat6 hlt6; have HOL6 := Lib.hid (show OwnC 96 W0.heap.size 3 w6 (some ⟨gg6, 0, none⟩) (k + 1) cap6 (linV ns bs (k + 1)) from by rw [HSK.out, HTK.out]; exact hown6); have HB6 := Lib.hid (show Below W0.heap.size W0 w6 from by
                  have h1 := below_ext HBI.out HBI.out.size HB5.out
                  have h2 := h1.alloc h1.size (.cells #[.float .f32 vx, .float .f32 vy, .float .f32 y] 96)
                  exact h2.trans ((updGF hgrow).toBelow h2.size (fun j hj e => by obtain ⟨x, g1, g2⟩ := e; have g3 := (OwnC.lt HOL.out g1).1; omega))); clear hown6 hgrow hat6 hlt6))
            all_goals
              go_wp2_with fail
              go_roundg (m - (k + 1))
              case measure => rw [HRK.out]; omega
              case rel => exact ⟨k + 1, _, _, rfl, by omega, rfl, by go_num, HOL6, HB6.out⟩
          · have e : k = m := by omega
            obtain ⟨g5, hg5⟩ : ∃ x, x = wo.heap.size := ⟨_, rfl⟩
            have HE := Lib.hid (show OwnC 96 W0.heap.size 3 wo A' m c' (linV ns bs m) by have h9 := HOL.out; rw [e] at h9; exact h9)
            have HSS := Lib.hid (show linV ns bs (m + 2) = linV ns bs m ++ [.float .f32 1065353216, .float .f32 0, .float .f32 0, .float .f32 0, .float .f32 1065353216, .float .f32 0] by rw [linV_succ, linV_succ, HLE.out.1, HLE.out.2, List.append_assoc]; rfl)
            obtain rfl : m = k := e.symm
            clear e HOL
            have HBI := Lib.hid hbi
            have hs5 := (hbi.alloc hbi.size (.cells #[.float .f32 1065353216, .float .f32 0, .float .f32 0, .float .f32 0, .float .f32 1065353216, .float .f32 0] 96)).size
            have HB6 := Lib.hid (hbi.alloc hbi.size (.cells #[.float .f32 1065353216, .float .f32 0, .float .f32 0, .float .f32 0, .float .f32 1065353216, .float .f32 0] 96))
            clear hbi
            go_upto_region 9 with (fail)
            go_upto_region 10 with (at_builtin; go_loud (refine wp_append_cells3 _ rfl _ _ _ rfl 96 W0.heap.size Try.underlying94 _ 3 12 info3 rfl (by omega) (by omega) (by omega) A' m c' (linV ns bs m) rfl (OwnC.alloc HE.out _) (some ⟨wo.heap.size, 0, none⟩) 2 2 [.float .f32 1065353216, .float .f32 0, .float .f32 0, .float .f32 0, .float .f32 1065353216, .float .f32 0] rfl rfl (fun _ => ⟨⟨wo.heap.size, 0, none⟩, rfl, World.news_of_block (cs := #[.float .f32 1065353216, .float .f32 0, .float .f32 0, .float .f32 0, .float .f32 1065353216, .float .f32 0]) (t := 96) (fr := (0, 0)) (heap_alloc_new wo _)⟩) (by simp [Value.oneCell']) (by omega) hs5 ?_; intro A9 c9 w9 o9 u9 b9 _; have O9 := Lib.hid o9; have HB9 := Lib.hid (HB6.out.trans b9); clear o9 u9 b9))
            rw [← HSS.out] at O9
            obtain ⟨gL, rfl, hgL1, hgL2, hLc, hcM⟩ := OwnC.pos O9.out (by omega)
            have HGL := Lib.hid hgL2
            clear HSS HE HB6 hs5 hgL1 hgL2
            obtain ⟨LL, hLL⟩ : ∃ LL : Nat, m + 2 = LL := ⟨_, rfl⟩
            have HLM := Lib.hid hLL
            have hLL10 : LL ≤ 10 := by omega
            rw [hLL] at O9 HR hLc ⊢
            clear hLL
            have hc3 : c9 ≤ 9223372036854775807 := hcM
            have hBW := HB9.out
            have KA3 := Lib.hid (KA.out.ext hBW)
            have N3 := Lib.hid (HN.out.below hBW)
            have B3 := Lib.hid (HB.out.below hBW)
            have G3 := Lib.hid (HG.out.below hBW)
            have hWW := below_ext hW hW.size hBW
            clear hBW KA HN HB HG
            have HLN3 := Lib.hid (fun (wz : World) (h : Below w9.heap.size w9 wz) i (hi : i < LL) => lin_cells (OwnC.below O9.out h) hi)
            go_wp2_with fail
            go_loopg [9, 10, 63] LL (fun rr bv mv iv wi => ∃ (i mo : Nat), rr = LL - i ∧ i ≤ LL ∧ mv = .float .f32 mo ∧ iv = .int .i64 i ∧ Hid ((corOut m ns bs gs near i).2 = mo) ∧ Hid (BestAtI W0.heap.size wi bv (corOut m ns bs gs near i).1) ∧ Below w9.heap.size w9 wi)
            case atStart => exact ⟨0, 0, rfl, Nat.zero_le _, rfl, rfl, Lib.hid rfl, Lib.hid rfl, Below.refl _ _⟩
            case round =>
              obtain ⟨i, mo, hr', hi, rfl, rfl, hmo, HBA, hbi⟩ := hrel
              have HRI := Lib.hid hr'
              clear hr'
              obtain ⟨wo, hwo⟩ : ∃ x, x = wr := ⟨_, rfl⟩
              rw [← hwo]
              rw [← hwo] at hbi HBA
              clear hwo
              by_cases hlt : i < LL
              · have hlt' : (i : Int) < (LL : Int) := by omega
                have HSO := Lib.hid (show corOut m ns bs gs near (i + 1) = corIn m ns bs gs near i (corOut m ns bs gs near i) (LL - (i + 1)) by rw [← HLM.out]; rfl)
                generalize corOut m ns bs gs near i = S at *
                obtain ⟨l0, l1, l2⟩ := HLN3.out wo hbi i hlt
                obtain ⟨a, ha⟩ : ∃ x, laA ns i = x := ⟨_, rfl⟩
                have HAA := Lib.hid ha
                rw [ha] at l0
                clear ha
                obtain ⟨b, hb⟩ : ∃ x, laB ns i = x := ⟨_, rfl⟩
                have HAB := Lib.hid hb
                rw [hb] at l1
                clear hb
                obtain ⟨ci, hc⟩ : ∃ x, laC bs i = x := ⟨_, rfl⟩
                have HAC := Lib.hid hc
                rw [hc] at l2
                clear hc
                have hil1 : i + 1 ≤ LL := by omega
                have hi1 : (i : Int) + 1 ≤ (LL : Int) := by omega
                have hi2 : (LL : Int) ≤ (c9 : Int) := by omega
                have hiw : IntKind.i64.wrap ((i : Int) + 1) = (i : Int) + 1 := IntWalk.i64_in _ (by omega)
                have hi0 : (0 : Int) ≤ (i : Int) + 1 := by omega
                have hst := run_store_f
                by_cases hce : c9 = i + 1
                · have HLI := Lib.hid (show LL - (i + 1) = 0 by omega)
                  have HCI := Lib.hid (show corOut m ns bs gs near (i + 1) = S by rw [HSO.out, HLI.out]; rfl)
                  have HB5 := Lib.hid (hbi.alloc hbi.size (.cells #[.float .f32 a, .float .f32 b, .float .f32 ci] 96))
                  have HBA5 := Lib.hid (HBA.out.ext ((Below.refl wo.heap.size wo).alloc (Nat.le_refl _) (.cells #[.float .f32 a, .float .f32 b, .float .f32 ci] 96)))
                  go_wp2_with fail
                  all_goals first | (exfalso; omega) | skip
                  clear l0 l1 l2
                  generalize wo.alloc (.cells #[.float .f32 a, .float .f32 b, .float .f32 ci] 96) = W5 at *
                  rw [HLI.out]
                  obtain ⟨bv0, hbv0⟩ : ∃ x, x = u9 := ⟨_, rfl⟩
                  go_loopg [9, 10, 73] 0 (fun rr bv mv tv wi => rr = 0 ∧ bv = u9 ∧ mv = .float .f32 mo ∧ tv = .int .i64 0 ∧ wi = W5)
                  case atStart => exact ⟨rfl, rfl, rfl, rfl, rfl⟩
                  case round =>
                    obtain ⟨-, rfl, rfl, rfl, rfl⟩ := hrel
                    go_wp2_with fail
                    go_roundg (LL - (i + 1))
                    case measure => rw [HRI.out]; omega
                    case rel => exact ⟨i + 1, mo, rfl, by omega, rfl, by go_num, Lib.hid (by rw [HCI.out]; exact hmo.out), Lib.hid (by rw [HCI.out]; exact HBA5.out), HB5.out⟩
                · have HB5 := Lib.hid (hbi.alloc hbi.size (.cells #[.float .f32 a, .float .f32 b, .float .f32 ci] 96))
                  have HBA5 := Lib.hid (HBA.out.ext ((Below.refl wo.heap.size wo).alloc (Nat.le_refl _) (.cells #[.float .f32 a, .float .f32 b, .float .f32 ci] 96)))
                  have KP := Lib.hid (Blk.new wo 96 #[.float .f32 a, .float .f32 b, .float .f32 ci])
                  clear HBA hbi
                  obtain ⟨LR, hLR⟩ : ∃ LR : Nat, LL - (i + 1) = LR := ⟨_, rfl⟩
                  have HLR2 := Lib.hid hLR
                  go_wp2_with fail
                  all_goals first | (exfalso; omega) | skip
                  clear l0 l1 l2
                  generalize wo.alloc (.cells #[.float .f32 a, .float .f32 b, .float .f32 ci] 96) = W5 at *
                  generalize wo.heap.size = gP at *
                  rw [hLR] at HSO
                  clear hLR
                  go_loopg [9, 10, 73] LR (fun rr bv mv tv wi => ∃ (t mo : Nat), rr = LR - t ∧ t ≤ LR ∧ mv = .float .f32 mo ∧ tv = .int .i64 t ∧ Hid ((corIn m ns bs gs near i S t).2 = mo) ∧ Hid (BestAtI W0.heap.size wi bv (corIn m ns bs gs near i S t).1) ∧ Below W5.heap.size W5 wi)
                  case atStart => exact ⟨0, mo, rfl, Nat.zero_le _, rfl, rfl, hmo, HBA5, Below.refl _ _⟩
                  case round =>
                    clear HBA5 hmo
                    obtain ⟨t, mo, hr2, ht, rfl, rfl, hmo, HBA, hbt⟩ := hrel
                    have HRT := Lib.hid hr2
                    clear hr2
                    obtain ⟨wp, hwp⟩ : ∃ x, x = wr := ⟨_, rfl⟩
                    rw [← hwp]
                    rw [← hwp] at hbt HBA
                    clear hwp
                    have HBW := Lib.hid (below_ext HB5.out HB5.out.size hbt)
                    by_cases htl : t < LR
                    · have htl' : (t : Int) < (LR : Int) := by omega
                      have HSI := Lib.hid (show corIn m ns bs gs near i S (t + 1) = corP m ns bs gs near i (i + 1 + t) (corIn m ns bs gs near i S t) from rfl)
                      generalize corIn m ns bs gs near i S t = s at *
                      have HPD := Lib.hid (show corP m ns bs gs near i (i + 1 + t) s = corS m ns bs gs near a b (laA ns (i + 1 + t)) (laB ns (i + 1 + t)) ci (laC bs (i + 1 + t)) s by unfold corP; rw [HAA.out, HAB.out, HAC.out])
                      have hk : i + 1 + t < LL := by have := HLR2.out; omega
                      obtain ⟨l0, l1, l2⟩ := HLN3.out wp HBW.out (i + 1 + t) hk
                      rw [show (i + 1 + t) * 3 = (i + 1) * 3 + t * 3 by omega] at l0 l1 l2
                      generalize laA ns (i + 1 + t) = d' at *
                      generalize laB ns (i + 1 + t) = e' at *
                      generalize laC bs (i + 1 + t) = ck at *
                      have hB7 := hbt.alloc hbt.size (.cells #[.float .f32 d', .float .f32 e', .float .f32 ck] 96)
                      have KQ := Lib.hid (Blk.new wp 96 #[.float .f32 d', .float .f32 e', .float .f32 ck])
                      have KP7 := Lib.hid (KP.out.ext hB7)
                      have HB7 := Lib.hid hB7
                      have HBA7 := Lib.hid (HBA.out.ext ((Below.refl wp.heap.size wp).alloc (Nat.le_refl _) (.cells #[.float .f32 d', .float .f32 e', .float .f32 ck] 96)))
                      clear hB7 hbt HBA HBW
                      go_upto_region 18 with (fail)
                      clear l0 l1 l2
                      generalize wp.alloc (.cells #[.float .f32 d', .float .f32 e', .float .f32 ck] 96) = W7 at *
                      generalize wp.heap.size = gQ at *
                      have p0 := KP7.out.cell 0
                      have p1 := KP7.out.cell 1
                      have z0 := KQ.out.cell 0
                      have z1 := KQ.out.cell 1
                      go_upto_region 19 with (refine wp_fop _ rfl _ _ _ _ _ rfl rfl .f32 _ _ rfl rfl ?_; intro rr w8 hb8 hlt8 hd8; obtain ⟨qq, rfl⟩ := hd8; have HH := Lib.hid hb8; clear hb8 hlt8)
                      rename_i ga q1 HG1 gb q2 HG2 _ _ _ _
                      obtain ⟨gg, hgr⟩ : ∃ z, z = rr := ⟨_, rfl⟩
                      rw [← hgr] at HH ⊢
                      clear hgr
                      have HG3 := HH
                      clear HH
                      obtain ⟨q3, hq3⟩ : ∃ z, z = qq := ⟨_, rfl⟩
                      rw [← hq3]
                      clear hq3
                      have HGG := Lib.hid (show absK .f32 gg = crG a b d' e' by rw [HG3.out, HG1.out, HG2.out]; rfl)
                      have HB8 := Lib.hid (below_drewN HB7.out (q1 + q2 + q3))
                      have HBA8 := Lib.hid (HBA7.out.ext (Drew.below (show Drew W7 (W7.drewN (q1 + q2 + q3)) from ⟨_, rfl⟩)))
                      have KP8 := Lib.hid (KP7.out.drewN (q1 + q2 + q3))
                      have KQ8 := Lib.hid (KQ.out.drewN (q1 + q2 + q3))
                      generalize W7.drewN (q1 + q2 + q3) = W8 at *
                      clear p0 p1 z0 z1 HBA7 HB7 HG1 HG2 HG3 KQ KP7
                      go_wp2_with fail
                      refine (HSZ.out gg _).mono ?_
                      rintro e w10 ⟨r, rfl, hgt, dr10⟩
                      have HGT := Lib.hid (show (FloatKind.f32.format.order r near == some .gt) = gtAbs (crG a b d' e') near by rw [hgt near, HGG.out])
                      have HB10 := Lib.hid (below_ext HB8.out HB8.out.size dr10.below)
                      have HBA10 := Lib.hid (HBA8.out.ext dr10.below)
                      have KP10 := Lib.hid (KP8.out.ext dr10.below)
                      have KQ10 := Lib.hid (KQ8.out.ext dr10.below)
                      clear hgt dr10 HB8 HBA8 KP8 KQ8
                      cases hz : (FloatKind.f32.format.order r near == some .gt)
                      · have HSK := Lib.hid (show corIn m ns bs gs near i S (t + 1) = s by rw [HSI.out, HPD.out]; exact corS_skip (by rw [← HGT.out]; exact hz))
                        have HBZ := Lib.hid (below_ext HB5.out HB5.out.size HB10.out)
                        go_wp2_with fail
                        go_roundg (LR - (t + 1))
                        case measure => rw [HRT.out]; omega
                        case rel => exact ⟨t + 1, mo, rfl, by omega, rfl, by go_num, Lib.hid (by rw [HSK.out]; exact hmo.out), Lib.hid (by rw [HSK.out]; exact HBA10.out), HB10.out⟩
                      · have HTR := Lib.hid (fun x y hx hy => show corIn m ns bs gs near i S (t + 1) = corTry m ns bs gs near x y s by rw [HSI.out, HPD.out]; exact corS_try (by rw [← HGT.out]; exact hz) hx hy)
                        have p0 := KP10.out.cell 0
                        have p1 := KP10.out.cell 1
                        have p2 := KP10.out.cell 2
                        have z0 := KQ10.out.cell 0
                        have z1 := KQ10.out.cell 1
                        have z2 := KQ10.out.cell 2
                        go_upto_region 20 with (fail)
                        go_upto_region 21 with (refine wp_fop _ rfl _ _ _ _ _ rfl rfl .f32 _ _ rfl rfl ?_; intro rr w8 hb8 hlt8 hd8; obtain ⟨qq, rfl⟩ := hd8; have HH := Lib.hid hb8; clear hb8 hlt8)
                        rename_i xa q1 HX1 xb q2 HX2 xc q3 HX3 x q4 HX4 ya q5 HY1 yb q6 HY2 yc q7 HY3 _ _
                        obtain ⟨y, hyr⟩ : ∃ z, z = rr := ⟨_, rfl⟩
                        rw [← hyr] at HH ⊢
                        clear hyr
                        have HY4 := HH
                        clear HH
                        clear p0 p1 p2 z0 z1 z2 hz
                        have HXX := Lib.hid (show absK .f32 x = crX a b d' e' ci ck by rw [HX4.out, HX3.out, HX1.out, HX2.out, HGG.out]; rfl)
                        have HYY := Lib.hid (show absK .f32 y = crY a b d' e' ci ck by rw [HY4.out, HY3.out, HY1.out, HY2.out, HGG.out]; rfl)
                        have HT := Lib.hid (HTR.out x y HXX.out HYY.out)
                        clear HX1 HX2 HX3 HX4 HY1 HY2 HY3 HY4 HTR HXX HYY
                        obtain ⟨q8, hq8⟩ : ∃ z, z = qq := ⟨_, rfl⟩
                        rw [← hq8]
                        clear hq8
                        have HB11 := Lib.hid (below_drewN HB10.out (q1 + q2 + q3 + q4 + q5 + q6 + q7 + q8))
                        have HBA11 := Lib.hid (HBA10.out.ext (Drew.below (show Drew w10 (w10.drewN (q1 + q2 + q3 + q4 + q5 + q6 + q7 + q8)) from ⟨_, rfl⟩)))
                        have hsz : (w10.drewN (q1 + q2 + q3 + q4 + q5 + q6 + q7 + q8)).heap.size = w10.heap.size := rfl
                        generalize w10.drewN (q1 + q2 + q3 + q4 + q5 + q6 + q7 + q8) = w11 at *
                        clear HB10 HBA10 KP10 KQ10
                        have hs0 : W0.heap.size ≤ w11.heap.size := Nat.le_trans (Nat.le_trans HB9.out.size HB5.out.size) HB11.out.size
                        have OX := Lib.hid (ownF_two3 (x := x) (y := y) hs0)
                        have HB12 := Lib.hid (HB11.out.alloc HB11.out.size (.cells #[.float .f32 x, .float .f32 y] 34))
                        have HBA12 := Lib.hid (HBA11.out.ext ((Below.refl w11.heap.size w11).alloc (Nat.le_refl _) (.cells #[.float .f32 x, .float .f32 y] 34)))
                        clear HB11 HBA11 hs0
                        generalize w11.alloc (.cells #[.float .f32 x, .float .f32 y] 34) = w12 at *
                        rw [hsz] at OX
                        clear hsz
                        generalize w10.heap.size = gX at *
                        have HBW := Lib.hid (below_ext HB5.out HB5.out.size HB12.out)
                        have K12 := Lib.hid (KA3.out.ext HBW.out)
                        have p0 := K12.out.cell 0
                        have p1 := K12.out.cell 1
                        have p2 := K12.out.cell 2
                        have p3 := K12.out.cell 3
                        go_wp2_with fail
                        refine (HGA.out (some ad) (some ⟨gX, 0, none⟩) 2 [x, y] _ (N3.out.below HBW.out) (B3.out.below HBW.out) (G3.out.below HBW.out) OX.out.flts).mono ?_
                        clear p0 p1 p2 p3 K12
                        cases hg : gainO gs [x, y] with
                        | none =>
                          have HSK := Lib.hid (show corIn m ns bs gs near i S (t + 1) = s by rw [HT.out]; exact corTry_no1 hg)
                          rintro e w13 ⟨rfl, b13⟩
                          have HB13 := Lib.hid (below_ext HB12.out HB12.out.size b13)
                          have HBA13 := Lib.hid (HBA12.out.ext b13)
                          clear b13
                          go_wp2_with fail
                          go_roundg (LR - (t + 1))
                          case measure => rw [HRT.out]; omega
                          case rel => exact ⟨t + 1, mo, rfl, by omega, rfl, by go_num, Lib.hid (by rw [HSK.out]; exact hmo.out), Lib.hid (by rw [HSK.out]; exact HBA13.out), HB13.out⟩
                        | some gn =>
                          rintro e w13 ⟨rfl, b13⟩
                          have HB13 := Lib.hid (below_ext HB12.out HB12.out.size b13)
                          have HBA13 := Lib.hid (HBA12.out.ext b13)
                          have OX13 := Lib.hid (OX.out.below b13)
                          have HBW13 := Lib.hid (below_ext HB5.out HB5.out.size HB13.out)
                          have K13 := Lib.hid (KA3.out.ext HBW13.out)
                          clear b13 HB12 HBA12 OX HBW
                          have p0 := K13.out.cell 0
                          have p1 := K13.out.cell 1
                          have p2 := K13.out.cell 2
                          have p3 := K13.out.cell 3
                          go_wp2_with fail
                          refine (HPL.out ad (some ⟨gX, 0, none⟩) 2 [x, y] _ (N3.out.below HBW13.out) (B3.out.below HBW13.out) (G3.out.below HBW13.out) OX13.out.flts).mono ?_
                          clear p0 p1 p2 p3 K13
                          cases hpl : planO 2 m ns bs [x, y] near
                          · have HSK := Lib.hid (show corIn m ns bs gs near i S (t + 1) = s by rw [HT.out]; exact corTry_no2 hg hpl)
                            rintro e w14 ⟨rfl, b14⟩
                            have HB14 := Lib.hid (below_ext HB13.out HB13.out.size b14)
                            have HBA14 := Lib.hid (HBA13.out.ext b14)
                            clear b14
                            go_wp2_with fail
                            go_roundg (LR - (t + 1))
                            case measure => rw [HRT.out]; omega
                            case rel => exact ⟨t + 1, mo, rfl, by omega, rfl, by go_num, Lib.hid (by rw [HSK.out]; exact hmo.out), Lib.hid (by rw [HSK.out]; exact HBA14.out), HB14.out⟩
                          · have HTF := Lib.hid (show corIn m ns bs gs near i S (t + 1) = if (s.1.isNone || (FloatKind.f32.format.order gn s.2 == some .gt)) = true then (some (x, y), gn) else s by rw [HT.out]; exact corTry_of hg hpl)
                            rw [hmo.out] at HTF
                            clear hg hpl HT
                            rintro e w14 ⟨rfl, b14⟩
                            have HB14 := Lib.hid (below_ext HB13.out HB13.out.size b14)
                            have HBA14 := Lib.hid (HBA13.out.ext b14)
                            have OX14 := Lib.hid (OX13.out.below b14)
                            have HNB := Lib.hid (show BestAtI W0.heap.size w14 (.slice (some ⟨gX, 0, none⟩) 2 2) (some (x, y)) from ⟨_, _, rfl, OX14.out⟩)
                            clear b14 HB13 HBA13 OX13
                            obtain ⟨s1, s2⟩ := s
                            cases s1 with
                            | none =>
                              have hbv := HBA14.out
                              simp only [BestAtI] at hbv
                              subst hbv
                              have hnl := fun (w : World) => Lib.run_eql_slice_nil (P := Try.prog) w 22 34 none 0 0 0 0 Try.underlying22
                              have HSK := Lib.hid (show corIn m ns bs gs near i S (t + 1) = (some (x, y), gn) by rw [HTF.out, if_pos (by rfl)])
                              go_wp2_with fail
                              go_roundg (LR - (t + 1))
                              case measure => rw [HRT.out]; omega
                              case rel => exact ⟨t + 1, gn, rfl, by omega, rfl, by go_num, Lib.hid (by rw [HSK.out]), Lib.hid (by rw [HSK.out]; exact HNB.out), HB14.out⟩
                            | some xy =>
                              obtain ⟨gB, cB, hbv, hob⟩ := HBA14.out
                              subst hbv
                              have HBS := Lib.hid (show BestAtI W0.heap.size w14 (.slice (some ⟨gB, 0, none⟩) 2 cB) (some xy) from ⟨_, _, rfl, hob⟩)
                              clear hob
                              have hnl := fun (w : World) => Lib.run_eql_slice_nil (P := Try.prog) w 22 34 (some ⟨gB, 0, none⟩) 2 cB 0 0 Try.underlying22
                              cases hgt : (FloatKind.f32.format.order gn mo == some .gt)
                              · have HSK := Lib.hid (show corIn m ns bs gs near i S (t + 1) = (some xy, s2) by rw [HTF.out, hgt, if_neg (by simp)])
                                go_wp2_with fail
                                go_roundg (LR - (t + 1))
                                case measure => rw [HRT.out]; omega
                                case rel => exact ⟨t + 1, mo, rfl, by omega, rfl, by go_num, Lib.hid (by rw [HSK.out]; exact hmo.out), Lib.hid (by rw [HSK.out]; exact HBS.out), HB14.out⟩
                              · have HSK := Lib.hid (show corIn m ns bs gs near i S (t + 1) = (some (x, y), gn) by rw [HTF.out, hgt, if_pos (by rfl)])
                                go_wp2_with fail
                                go_roundg (LR - (t + 1))
                                case measure => rw [HRT.out]; omega
                                case rel => exact ⟨t + 1, gn, rfl, by omega, rfl, by go_num, Lib.hid (by rw [HSK.out]), Lib.hid (by rw [HSK.out]; exact HNB.out), HB14.out⟩
                    · have HKE := Lib.hid (show t = LR by omega)
                      have hkg : ¬ ((t : Int) < (LR : Int)) := by omega
                      go_wp2_with fail
                      go_roundg (LL - (i + 1))
                      case measure => rw [HRI.out]; omega
                      case rel => exact ⟨i + 1, mo, rfl, by omega, rfl, by go_num, Lib.hid (by rw [HSO.out, ← HKE.out]; exact hmo.out), Lib.hid (by rw [HSO.out, ← HKE.out]; exact HBA.out), HBW.out⟩
              · have e : i = LL := by omega
                have HRR := Lib.hid (show o = (corOut m ns bs gs near i).1 by rw [HR.out, e])
                have hig : ¬ ((i : Int) < (LL : Int)) := by omega
                clear e
                have HBB := Lib.hid HBA.out
                rw [← HRR.out] at HBB
                clear HBA hmo HRR
                have hWZ := below_ext hWW hWW.size hbi
                cases o with
                | none =>
                  have hbv := HBB.out
                  simp only [BestAtI] at hbv
                  subst hbv
                  have hnl := fun (w : World) => run_neq_nil22 (P := Try.prog) w 22 34 none 0 0 0 0 Try.underlying22
                  go_wp2_with fail
                  go_ret2
                  exact nilFb _ _ _ hWZ
                | some xy =>
                  obtain ⟨gB, cB, hbv, hob⟩ := HBB.out
                  subst hbv
                  have hnl := fun (w : World) => run_neq_nil22 (P := Try.prog) w 22 34 (some ⟨gB, 0, none⟩) 2 cB 0 0 Try.underlying22
                  go_wp2_with fail
                  go_ret2
                  exact ⟨_, _, _, rfl, OwnF.low hob hW.size, hWZ⟩
    · have hv3 : (v != 2) = true := by rw [bne_iff_ne]; exact hv2
      have HF := Lib.hid (show o = none by rw [HO.out]; exact corR_no (by unfold corOk; rw [decide_eq_false hv2, Bool.false_and, Bool.and_false]))
      have p0 := KA.out.cell 0
      have p1 := KA.out.cell 1
      have p2 := KA.out.cell 2
      have p3 := KA.out.cell 3
      rw [HW0.out] at p0 p1 p2 p3
      go_enter Try.func33, Try.ntmps33
      go_wp2_with fail
      rw [← HW0.out]
      clear HW0 p0 p1 p2 p3
      refine HVR.out.mono ?_
      rw [hrb]
      rintro e w1 ⟨rfl, b1⟩
      have hW1 := below_ext hW hW.size b1
      have p0 := (KA.out.ext b1).cell 0
      go_wp2_with fail
      go_ret2
      rw [HF.out]
      exact nilFb _ _ _ hW1
end Go.Proofs.Ytbbcddbdinmaaaa
