/- The reference's BestCorner (printed by gen_cors.py). -/
import Derived.Test.YtbbcddbdinmaaaaCorU
import Derived.Test.YtbbcddbdinmaaaaCorV
import Derived.Test.YtbbcddbdinmaaaaRayR
namespace Go.Proofs.Ytbbcddbdinmaaaa
open Go.RowKit

theorem cell?_fopW (op : BinOp) (k : FloatKind) (x y : Nat) (W : World) (a : Addr) : (fopW op k x y W).cell? a = W.cell? a := by
  obtain ⟨q, h⟩ := fopW_drew op k x y W
  rw [h]; rfl
theorem Drew.fopW {w w' : World} (h : Drew w w') (op : BinOp) (k : FloatKind) (x y : Nat) : Drew w (Go.Proofs.Ytbbcddbdinmaaaa.fopW op k x y w') := by
  obtain ⟨q, h2⟩ := fopW_drew op k x y w'
  rw [h2]; exact h.step q
theorem Drew.one {w w' : World} (h : Drew w w') : Drew w w'.drew := h.step 1
theorem ownF_two {w : World} {x y base : Nat} (h : base ≤ w.heap.size) : OwnF 34 base (w.alloc (.cells #[.float .f32 x, .float .f32 y] 34)) (some ⟨w.heap.size, 0, none⟩) 2 2 [x, y] :=
  World.ownsRow_lit (e := 34) (base := base) (size := 1) w #[.float .f32 x, .float .f32 y] 2 h (by unfold maxLen; omega) rfl
theorem flts_at {w : World} {ad : Addr} {n : Nat} {xs : List Nat} (h : FltsAt w (some ad) n xs) {j : Nat} (hj : j < n) : w.cell? (ad.add j) = some (.float .f32 (xs.getD j 0)) := by
  obtain ⟨ad2, e, _, hc⟩ := h.at_ hj
  injection e with e
  subst e
  exact hc
theorem app_far {A8 : Option Addr} {k K : Nat} (g8 : ∀ ad, A8 = some ad → blk (some ⟨k, 0, none⟩) ad.block ∨ K ≤ ad.block) (hK : k ≤ K) : ∀ x, A8 = some x → k ≤ x.block := by
  intro x hx
  rcases g8 x hx with ⟨y, h1, h2⟩ | h2
  · injection h1 with h1
    subst h1
    exact Nat.le_of_eq h2
  · omega
/-- the best corner's list in a world -/
def BestAt (base : Nat) (w : World) (bv : Value) (o : Option (Nat × Nat)) : Prop := ∃ (A : Option Addr) (c : Nat), bv = .slice A (crL o).length c ∧ OwnF 34 base w A (crL o).length c (crL o)
theorem BestAt.ext {base : Nat} {w w' : World} {bv : Value} {o : Option (Nat × Nat)} (h : BestAt base w bv o) (hb : Below w.heap.size w w') : BestAt base w' bv o := by
  obtain ⟨A, c, h1, h2⟩ := h
  exact ⟨A, c, h1, h2.below hb⟩
set_option maxRecDepth 100000 in
set_option maxHeartbeats 4000000 in
theorem specBestCorner_r (v : Int) (A : Option Addr) (n c : Nat) (ns : List Nat) (B : Option Addr) (m d : Nat) (bs : List Nat) (G : Option Addr) (p g : Nat) (gs : List Nat) (near : Nat) (w : World) (hN : FltsAt w A n ns) (hB : FltsAt w B m bs) (hG : FltsAt w G p gs) (hn : n ≤ maxLen) (hm : m ≤ maxLen) (hp : p ≤ maxLen) (hcap : n ≤ c ∧ c ≤ maxLen) :
    Calls Try.prog 32 #[.agg #[.int .i64 v, .slice A n c, .slice B m d, .slice G p g], .float .f32 near] w (RetFb (crL (corR v ns bs gs near)) (corR v ns bs gs near).isSome w) := by
  have HLB := Lib.hid hB.len
  have HLN := Lib.hid hN.len
  have HLG := Lib.hid hG.len
  obtain ⟨W0, hW0⟩ : ∃ W0, W0 = w.alloc (.cells #[.int .i64 v, .slice A n c, .slice B m d, .slice G p g] 43) := ⟨_, rfl⟩
  have KA := Lib.hid (show Blk W0 w.heap.size 43 #[.int .i64 v, .slice A n c, .slice B m d, .slice G p g] by rw [hW0]; exact Blk.new w _ _)
  have hW : Below w.heap.size w W0 := by rw [hW0]; exact (Below.refl _ _).alloc (Nat.le_refl _) _
  have HN := Lib.hid (hN.below hW)
  have HB := Lib.hid (hB.below hW)
  have HG := Lib.hid (hG.below hW)
  have HIS := Lib.hid (l02Is_any w.heap.size v A n c ns B m d bs G p g gs W0 KA.out HN.out HB.out HG.out hn hm hp)
  have HLE := Lib.hid (fun (w : World) => l02Least_any near w)
  have HW0 := Lib.hid hW0
  have HCAP := Lib.hid hcap
  obtain ⟨o, ho⟩ : ∃ o, o = corR v ns bs gs near := ⟨_, rfl⟩
  have HO := Lib.hid ho
  rw [← ho]
  clear hN hB hG hW0 ho hcap
  cases hrb : rowsB v ns bs gs
  · have HF := Lib.hid (show o = none by rw [HO.out]; exact corR_no (by unfold corOk; rw [hrb]; rfl))
    rw [hrb] at HIS
    go_enter Try.func32, Try.ntmps32
    go_wp2_with fail
    rw [← HW0.out]
    clear HW0
    refine HIS.out.mono ?_
    rintro e w1 ⟨rfl, d1⟩
    have hW1 := below_ext hW hW.size d1.below
    go_wp2_with fail
    go_ret2
    rw [HF.out]
    exact nilFb _ _ _ hW1
  · rw [hrb] at HIS
    by_cases hv2 : v = 2
    · have hv3 : (v != 2) = false := by rw [hv2]; rfl
      cases hne : leastO (absK .f32 near)
      · have HF := Lib.hid (show o = none by rw [HO.out]; exact corR_no (by unfold corOk; rw [hne, Bool.and_false, Bool.and_false]))
        rw [hne] at HLE
        clear hv2
        go_enter Try.func32, Try.ntmps32
        go_wp2_with fail
        rw [← HW0.out]
        clear HW0
        refine HIS.out.mono ?_
        rintro e w1 ⟨rfl, d1⟩
        have hW1 := below_ext hW hW.size d1.below
        have p0 := (KA.out.ext d1.below).cell 0
        go_wp2_with fail
        refine (HLE.out _).mono ?_
        rintro e w2 ⟨rfl, d2⟩
        have hW2 := below_ext hW1 hW1.size d2.below
        go_wp2_with fail
        go_ret2
        rw [HF.out]
        exact nilFb _ _ _ hW2
      · rw [hne] at HLE
        have HOK := Lib.hid (show corOk v ns bs gs near = true by unfold corOk; rw [hrb, hne, hv2]; rfl)
        have HR := Lib.hid (show o = (corOut bs.length ns bs gs near (bs.length + 2)).1 by rw [HO.out, corR_yes HOK.out])
        rw [HLB.out] at HR
        obtain ⟨V, hVv, hV, hm8, hnn, hpp⟩ := rows_bd hrb
        have hV2 : V = 2 := by omega
        subst hV2
        subst hv2
        rw [HLB.out] at hm8 hnn
        rw [HLN.out] at hnn
        rw [HLG.out] at hpp
        have HNN := Lib.hid hnn
        have HPP := Lib.hid hpp
        have hnb : n ≤ 16 := by omega
        have hnpos : 0 < n := by omega
        have HRB := Lib.hid (show rowsB ((2 : Nat) : Int) ns bs gs = true from hrb)
        have HGA := Lib.hid (fun X cx xs (w' : World) hN hB hG hX => specGainOf_any 2 A n c ns B m d bs G p g gs X cx xs w' hN hB hG hX hn hm hp HRB.out (by omega) hpp)
        have HPL := Lib.hid (fun ad X cx xs (w' : World) hN hB hG hX => specIsPlan_any 2 ad n c ns B m d bs G p g gs X cx xs near w' hN hB hG hX hn hm hp HRB.out (by omega) hm8.2 hnn HCAP.out hne)
        have HSZ := Lib.hid (fun b (w' : World) => l02Size_any b w')
        obtain ⟨ad, hA, _, _⟩ := HN.out.at_ hnpos
        subst hA
        have HLL := Lib.hid (show (lineL ns).length = n + 4 by unfold lineL; rw [List.length_append, HLN.out]; rfl)
        have HCL := Lib.hid (show (bndL bs).length = m + 2 by unfold bndL; rw [List.length_append, HLB.out]; rfl)
        have HEL := Lib.hid (show ns ++ [1065353216, 0, 0, 1065353216] = lineL ns from rfl)
        have HEB := Lib.hid (show bs ++ [0, 0] = bndL bs from rfl)
        clear hrb hne hVv hnn hpp hV
        go_enter Try.func32, Try.ntmps32
        go_wp2_with fail
        rw [← HW0.out]
        clear HW0
        refine HIS.out.mono ?_
        rintro e w1 ⟨rfl, d1⟩
        have hW1 := below_ext hW hW.size d1.below
        have p0 := (KA.out.ext d1.below).cell 0
        go_wp2_with fail
        refine (HLE.out _).mono ?_
        rintro e w2 ⟨rfl, d2⟩
        have hb2 := (d1.trans d2).below
        have HB2 := Lib.hid hb2
        clear p0 d1 d2 hW1
        go_upto_region 3 with (fail)
        have hE : OwnF 34 W0.heap.size (w2.alloc (.cells #[] 34)) (some ⟨w2.heap.size, 0, none⟩) 0 0 [] := World.ownsRow_lit (e := 34) (base := W0.heap.size) (size := 1) w2 #[] 0 hb2.size (Nat.zero_le _) rfl
        have HE := Lib.hid hE
        have HB3 := Lib.hid (hb2.alloc hb2.size (.cells #[] 34))
        have p1 := (KA.out.ext HB3.out).cell 1
        have N3 := Lib.hid (HN.out.below HB3.out)
        have hs3 := HB3.out.size
        clear hE hb2
        go_upto_region 4 with (at_builtin; refine wp_append_flts _ rfl _ _ _ rfl 34 W0.heap.size Try.underlying22 infoF (some ⟨w2.heap.size, 0, none⟩) 0 0 [] rfl HE.out (some ad) n c ns rfl N3.out (by omega) hs3 ?_; intro A4 c4 w4 o4 u4 b4 g4; have O4 := Lib.hid o4; have HB4 := Lib.hid (HB3.out.trans b4); clear o4 u4 b4 g4)
        rw [Nat.zero_add, List.nil_append] at O4
        clear p1 N3 HE hs3 HB3 HB2
        have LQ : (.cells #[.float .f32 1065353216, .float .f32 0, .float .f32 0, .float .f32 1065353216] 34) = (.cells #[.float .f32 1065353216, .float .f32 0, .float .f32 0, .float .f32 1065353216] 34 : Obj) := rfl
        clear LQ
        have hs4 := HB4.out.size
        have F5 : OwnF 34 W0.heap.size (w4.alloc (.cells #[.float .f32 1065353216, .float .f32 0, .float .f32 0, .float .f32 1065353216] 34)) (some ⟨w4.heap.size, 0, none⟩) 4 4 [1065353216, 0, 0, 1065353216] := World.ownsRow_lit (e := 34) (base := W0.heap.size) (size := 1) w4 #[.float .f32 1065353216, .float .f32 0, .float .f32 0, .float .f32 1065353216] 4 hs4 (by unfold maxLen; omega) rfl
        have F5 := Lib.hid F5.flts
        have O5 := Lib.hid (O4.out.alloc (.cells #[.float .f32 1065353216, .float .f32 0, .float .f32 0, .float .f32 1065353216] 34))
        have HB5 := Lib.hid (HB4.out.alloc hs4 (.cells #[.float .f32 1065353216, .float .f32 0, .float .f32 0, .float .f32 1065353216] 34))
        have hs5 := HB5.out.size
        clear O4
        go_upto_region 5 with (at_builtin; refine wp_append_flts _ rfl _ _ _ rfl 34 W0.heap.size Try.underlying22 infoF A4 n c4 ns rfl O5.out (some ⟨w4.heap.size, 0, none⟩) 4 4 [1065353216, 0, 0, 1065353216] rfl F5.out (by omega) hs5 ?_; intro A6 c6 w6 o6 u6 b6 g6; have O6 := Lib.hid o6; have HB6 := Lib.hid (HB5.out.trans b6); clear o6 u6 b6 g6)
        rw [HEL.out] at O6
        clear F5 O5 HB5 hs5 hs4 HB4
        have HA6 := Lib.hid (fun x (hx : A6 = some x) => show x.block < w6.heap.size from (O6.out.lt hx).2)
        have hs6 := HB6.out.size
        have hE : OwnF 34 W0.heap.size (w6.alloc (.cells #[] 34)) (some ⟨w6.heap.size, 0, none⟩) 0 0 [] := World.ownsRow_lit (e := 34) (base := W0.heap.size) (size := 1) w6 #[] 0 hs6 (Nat.zero_le _) rfl
        have HE := Lib.hid hE
        have HB7 := Lib.hid (HB6.out.alloc hs6 (.cells #[] 34))
        have p2 := (KA.out.ext HB7.out).cell 2
        have B7 := Lib.hid (HB.out.below HB7.out)
        have O7 := Lib.hid (O6.out.alloc (.cells #[] 34))
        have hs7 := HB7.out.size
        clear hE O6
        go_upto_region 6 with (at_builtin; refine wp_append_flts _ rfl _ _ _ rfl 34 W0.heap.size Try.underlying22 infoF (some ⟨w6.heap.size, 0, none⟩) 0 0 [] rfl HE.out B m d bs rfl B7.out (by omega) hs7 ?_; intro A8 c8 w8 o8 u8 b8 g8; have O8 := Lib.hid o8; have HB8 := Lib.hid (HB7.out.trans b8); have O9 := Lib.hid (OwnF.upd O7.out u8 (fun x hx e => by obtain ⟨y, h1, h2⟩ := e; injection h1 with h1; subst h1; have h3 := HA6.out x hx; simp only at h2; omega)); have G8 := Lib.hid (app_far g8 (show w6.heap.size ≤ (w6.alloc (.cells #[] 34)).heap.size by simp)); clear o8 u8 b8 g8)
        rw [Nat.zero_add, List.nil_append] at O8
        clear p2 B7 HE hs7 HB7 HB6 O7 hs6
        have F11 : OwnF 34 W0.heap.size (w8.alloc (.cells #[.float .f32 0, .float .f32 0] 34)) (some ⟨w8.heap.size, 0, none⟩) 2 2 [0, 0] := ownF_two HB8.out.size
        have F11 := Lib.hid F11.flts
        have O11 := Lib.hid (O8.out.alloc (.cells #[.float .f32 0, .float .f32 0] 34))
        have O12 := Lib.hid (O9.out.alloc (.cells #[.float .f32 0, .float .f32 0] 34))
        have HB11 := Lib.hid (HB8.out.alloc HB8.out.size (.cells #[.float .f32 0, .float .f32 0] 34))
        have hs11 := HB11.out.size
        clear O8 O9
        go_upto_region 7 with (at_builtin; refine wp_append_flts _ rfl _ _ _ rfl 34 W0.heap.size Try.underlying22 infoF A8 m c8 bs rfl O11.out (some ⟨w8.heap.size, 0, none⟩) 2 2 [0, 0] rfl F11.out (by omega) hs11 ?_; intro A13 c13 w13 o13 u13 b13 g13; have O13 := Lib.hid o13; have HB13 := Lib.hid (HB11.out.trans b13); have O14 := Lib.hid (OwnF.upd O12.out u13 (fun x hx e => by obtain ⟨y, h1, h2⟩ := e; have h3 := HA6.out x hx; have h4 := G8.out y h1; omega)); clear o13 u13 b13 g13)
        rw [HEB.out] at O13
        clear F11 O11 O12 HB11 hs11 HB8 G8 HA6
        have hs13 := HB13.out.size
        have hE : OwnF 34 W0.heap.size (w13.alloc (.cells #[] 34)) (some ⟨w13.heap.size, 0, none⟩) 0 0 [] := World.ownsRow_lit (e := 34) (base := W0.heap.size) (size := 1) w13 #[] 0 hs13 (Nat.zero_le _) rfl
        have HE := Lib.hid hE
        have HBW := Lib.hid (HB13.out.alloc hs13 (.cells #[] 34))
        have LN := Lib.hid (O14.out.flts.alloc (.cells #[] 34))
        have CN := Lib.hid (O13.out.flts.alloc (.cells #[] 34))
        clear hE O13 O14 hs13
        go_upto_region 8 with (fail)
        generalize w13.alloc (.cells #[] 34) = W3 at *
        generalize w13.heap.size = gE at *
        obtain ⟨ld, hld, _, _⟩ := LN.out.at_ (k := 0) (by omega)
        subst hld
        obtain ⟨cd, hcd, _, _⟩ := CN.out.at_ (k := 0) (by omega)
        subst hcd
        have hBW := HBW.out
        have KA3 := Lib.hid (KA.out.ext hBW)
        have N3 := Lib.hid (HN.out.below hBW)
        have B3 := Lib.hid (HB.out.below hBW)
        have G3 := Lib.hid (HG.out.below hBW)
        have hWW := below_ext hW hW.size hBW
        clear hBW HB13 KA HN HB HG
        obtain ⟨LL, hLL⟩ : ∃ LL : Nat, m + 2 = LL := ⟨_, rfl⟩
        have HLM := Lib.hid hLL
        have hLL10 : LL ≤ 10 := by omega
        have hN4 : n + 4 = 2 * LL := by have := HNN.out; omega
        obtain ⟨N4, hN4e⟩ : ∃ N4 : Nat, n + 4 = N4 := ⟨_, rfl⟩
        rw [hN4e] at hN4 LN ⊢
        rw [hLL] at CN HR ⊢
        have HN4 := Lib.hid hN4
        have hN4b : N4 ≤ 20 := by omega
        clear hLL hN4e hN4
        have HBE := Lib.hid (show BestAt W0.heap.size W3 (.slice (some ⟨gE, 0, none⟩) 0 0) (corOut m ns bs gs near 0).1 from ⟨_, _, rfl, HE.out⟩)
        clear HE
        go_wp2_with fail
        go_loopg [8, 9, 10] LL (fun rr bv mv iv wi => ∃ (i mo : Nat), rr = LL - i ∧ i ≤ LL ∧ mv = .float .f32 mo ∧ iv = .int .i64 i ∧ Hid ((corOut m ns bs gs near i).2 = mo) ∧ Hid (BestAt W0.heap.size wi bv (corOut m ns bs gs near i).1) ∧ Below W3.heap.size W3 wi)
        case atStart => exact ⟨0, 0, rfl, Nat.zero_le _, rfl, rfl, Lib.hid rfl, HBE, Below.refl _ _⟩
        case round =>
          clear HBE
          obtain ⟨i, mo, hr', hi, rfl, rfl, hmo, HBA, hbi⟩ := hrel
          have HRI := Lib.hid hr'
          clear hr'
          obtain ⟨wo, hwo⟩ : ∃ x, x = wr := ⟨_, rfl⟩
          rw [← hwo]
          rw [← hwo] at hbi HBA
          clear hwo
          by_cases hlt : i < LL
          · have hlt' : (i : Int) < (LL : Int) := by omega
            have HSO := Lib.hid (show corOut m ns bs gs near (i + 1) = corIn m ns bs gs near i (corOut m ns bs gs near i) (LL - (i + 1)) by rw [← HLM.out]; rfl)
            generalize corOut m ns bs gs near i = S at *
            go_wp2_with fail
            go_loopg [8, 9, 11] (LL - (i + 1)) (fun rr bv mv kv wi => ∃ (t k mo : Nat), rr = LL - k ∧ k ≤ LL ∧ mv = .float .f32 mo ∧ kv = .int .i64 k ∧ Hid (k = i + 1 + t) ∧ Hid ((corIn m ns bs gs near i S t).2 = mo) ∧ Hid (BestAt W0.heap.size wi bv (corIn m ns bs gs near i S t).1) ∧ Below W3.heap.size W3 wi)
            case atStart => exact ⟨0, i + 1, mo, rfl, by omega, rfl, by go_num, Lib.hid rfl, hmo, HBA, hbi⟩
            case round =>
              clear HBA hmo hbi
              obtain ⟨t, k, mo, hr2, hk, rfl, rfl, HKT, hmo, HBA, hbi⟩ := hrel
              have HRK := Lib.hid hr2
              clear hr2
              obtain ⟨wp, hwp⟩ : ∃ x, x = wr := ⟨_, rfl⟩
              rw [← hwp]
              rw [← hwp] at hbi HBA
              clear hwp
              by_cases hkl : k < LL
              · have hkl' : (k : Int) < (LL : Int) := by omega
                have HSI := Lib.hid (show corIn m ns bs gs near i S (t + 1) = corP m ns bs gs near i k (corIn m ns bs gs near i S t) by rw [HKT.out]; rfl)
                generalize corIn m ns bs gs near i S t = s at *
                have HPD := Lib.hid (show corP m ns bs gs near i k s = corS m ns bs gs near (laA ns i) (laB ns i) (laA ns k) (laB ns k) (laC bs i) (laC bs k) s from rfl)
                obtain ⟨I2, hI2⟩ : ∃ I2 : Nat, 2 * i = I2 := ⟨_, rfl⟩
                obtain ⟨K2, hK2⟩ : ∃ K2 : Nat, 2 * k = K2 := ⟨_, rfl⟩
                have hI3 : (2 : Int) * (i : Int) = (I2 : Int) := by omega
                have hK3 : (2 : Int) * (k : Int) = (K2 : Int) := by omega
                have hIb : I2 + 1 < N4 := by have := HN4.out; omega
                have hKb : K2 + 1 < N4 := by have := HN4.out; omega
                obtain ⟨I3, hI4⟩ : ∃ I3 : Nat, I2 + 1 = I3 := ⟨_, rfl⟩
                obtain ⟨K3, hK4⟩ : ∃ K3 : Nat, K2 + 1 = K3 := ⟨_, rfl⟩
                have hIi : (I2 : Int) + 1 = (I3 : Int) := by omega
                have hKi : (K2 : Int) + 1 = (K3 : Int) := by omega
                have hIj : (I3 : Int) < (N4 : Int) := by omega
                have hKj : (K3 : Int) < (N4 : Int) := by omega
                have L1 := LN.out.below hbi
                have ca := flts_at L1 (j := I2) (by omega)
                have cb := flts_at L1 (j := I3) (by omega)
                have cd' := flts_at L1 (j := K2) (by omega)
                have ce := flts_at L1 (j := K3) (by omega)
                have HCI := Lib.hid (fun (wz : World) (h : Below W3.heap.size W3 wz) => flts_at (CN.out.below h) (j := i) hlt)
                have HCK := Lib.hid (fun (wz : World) (h : Below W3.heap.size W3 wz) => flts_at (CN.out.below h) (j := k) hkl)
                have HA1 := Lib.hid (show laA ns i = (lineL ns).getD I2 0 by unfold laA; rw [hI2])
                have HA2 := Lib.hid (show laB ns i = (lineL ns).getD I3 0 by unfold laB; rw [hI2, hI4])
                have HA3 := Lib.hid (show laA ns k = (lineL ns).getD K2 0 by unfold laA; rw [hK2])
                have HA4 := Lib.hid (show laB ns k = (lineL ns).getD K3 0 by unfold laB; rw [hK2, hK4])
                rw [HA1.out, HA2.out, HA3.out, HA4.out] at HPD
                unfold laC at HPD
                clear HA1 HA2 HA3 HA4 L1 hI2 hK2 hI4 hK4
                generalize (lineL ns).getD I2 0 = a at *
                generalize (lineL ns).getD I3 0 = b at *
                generalize (lineL ns).getD K2 0 = d' at *
                generalize (lineL ns).getD K3 0 = e' at *
                generalize (bndL bs).getD i 0 = ci at *
                generalize (bndL bs).getD k 0 = ck at *
                have HBI := Lib.hid hbi
                clear hbi
                go_upto_region 19 with (fail)
                clear ca cb cd' ce hIi hKi hI3 hK3 hIb hKb hIj hKj
                go_upto_region 20 with (first
                  | (refine wp_fop _ rfl .mul _ _ _ _ rfl rfl .f32 a e' rfl rfl ?_; intro ga w9 hb9 hlt9 hd9; obtain ⟨q9, rfl⟩ := hd9; have HGA1 := Lib.hid hb9; clear hb9)
                  | (refine wp_fop _ rfl .mul _ _ _ _ rfl rfl .f32 b d' rfl rfl ?_; intro gb w9 hb9 hlt9 hd9; obtain ⟨q10, rfl⟩ := hd9; have HGA2 := Lib.hid hb9; clear hb9)
                  | (refine wp_fop _ rfl .sub _ _ _ _ rfl rfl .f32 ga gb rfl rfl ?_; intro gg w9 hb9 hlt9 hd9; obtain ⟨q11, rfl⟩ := hd9; have HGA3 := Lib.hid hb9; clear hb9))
                have HGG := Lib.hid (show absK .f32 gg = crG a b d' e' by rw [HGA3.out, HGA1.out, HGA2.out]; rfl)
                have HB5 := Lib.hid (below_drewN HBI.out (q9 + q10 + q11))
                have HBA5 := Lib.hid (HBA.out.ext (Drew.below (show Drew wp (wp.drewN (q9 + q10 + q11)) from ⟨_, rfl⟩)))
                generalize wp.drewN (q9 + q10 + q11) = W5 at *
                clear HBA HBI HGA1 HGA2 HGA3
                go_wp2_with fail
                refine (HSZ.out gg _).mono ?_
                rintro e w6 ⟨r, rfl, hgt, dr6⟩
                have HGT := Lib.hid (show (FloatKind.f32.format.order r near == some .gt) = gtAbs (crG a b d' e') near by rw [hgt near, HGG.out])
                have HB6 := Lib.hid (below_ext HB5.out HB5.out.size dr6.below)
                have HBA6 := Lib.hid (HBA5.out.ext dr6.below)
                clear hgt dr6 HB5 HBA5
                cases hz : (FloatKind.f32.format.order r near == some .gt)
                · have HSK := Lib.hid (show corIn m ns bs gs near i S (t + 1) = s by rw [HSI.out, HPD.out]; exact corS_skip (by rw [← HGT.out]; exact hz))
                  go_wp2_with fail
                  go_roundg (LL - (k + 1))
                  case measure => rw [HRK.out]; omega
                  case rel => exact ⟨t + 1, k + 1, mo, rfl, by omega, rfl, by go_num, Lib.hid (by rw [HKT.out]; omega), Lib.hid (by rw [HSK.out]; exact hmo.out), Lib.hid (by rw [HSK.out]; exact HBA6.out), HB6.out⟩
                · have HTR := Lib.hid (fun x y hx hy => show corIn m ns bs gs near i S (t + 1) = corTry m ns bs gs near x y s by rw [HSI.out, HPD.out]; exact corS_try (by rw [← HGT.out]; exact hz) hx hy)
                  go_upto_region 21 with (fail)
                  have ca := HCI.out _ HB6.out
                  have cb := HCK.out _ HB6.out
                  have hfm := fun (x y : Nat) (W : World) => run_fop (P := Try.prog) W .mul rfl 34 .f32 x y
                  have hfs := fun (x y : Nat) (W : World) => run_fop (P := Try.prog) W .sub rfl 34 .f32 x y
                  have hfq := fun (x y : Nat) (W : World) => run_fop (P := Try.prog) W .quo rfl 34 .f32 x y
                  have hcm := fun (x y : Nat) (W : World) (a : Addr) => cell?_fopW .mul .f32 x y W a
                  clear hz
                  go_cut [17] (fun sx wx => ∃ x : Nat, sx = .float .f32 x ∧ absK .f32 x = crX a b d' e' ci ck ∧ Drew w6 wx)
                  case first =>
                    go_region_with fail
                    all_goals
                      go_wp2_with fail
                      go_meet
                      refine ⟨_, rfl, ?_, ?_⟩
                      · rw [fopV_abs, fopV_abs, fopV_abs, fopV_abs, HGG.out]; rfl
                      · repeat first | exact Drew.refl _ | apply Drew.fopW | apply Drew.one
                  case rest =>
                    obtain ⟨x, rfl, hx, dr7⟩ := hcut
                    have HX := Lib.hid hx
                    have HB7 := Lib.hid (below_ext HB6.out HB6.out.size dr7.below)
                    have HBA7 := Lib.hid (HBA6.out.ext dr7.below)
                    clear hx dr7 ca cb HB6 HBA6
                    have ca := HCI.out _ HB7.out
                    have cb := HCK.out _ HB7.out
                    obtain ⟨w7, hw7⟩ : ∃ z, z = wc := ⟨_, rfl⟩
                    rw [← hw7]
                    rw [← hw7] at ca cb HB7 HBA7
                    clear hw7
                    go_upto_region 22 with (fail)
                    go_cut [18] (fun sx wx => ∃ y : Nat, sx = .float .f32 y ∧ absK .f32 y = crY a b d' e' ci ck ∧ Drew w7 wx)
                    case first =>
                      go_region_with fail
                      all_goals
                        go_wp2_with fail
                        go_meet
                        refine ⟨_, rfl, ?_, ?_⟩
                        · rw [fopV_abs, fopV_abs, fopV_abs, fopV_abs, HGG.out]; rfl
                        · repeat first | exact Drew.refl _ | apply Drew.fopW | apply Drew.one
                    case rest =>
                      obtain ⟨y, rfl, hy, dr8⟩ := hcut
                      have HT := Lib.hid (HTR.out x y HX.out hy)
                      have HB8 := Lib.hid (below_ext HB7.out HB7.out.size dr8.below)
                      have HBA8 := Lib.hid (HBA7.out.ext dr8.below)
                      clear hy dr8 ca cb HB7 HBA7 hfm hfs hfq hcm
                      obtain ⟨w8, hw8⟩ : ∃ z, z = wc := ⟨_, rfl⟩
                      rw [← hw8]
                      rw [← hw8] at HB8 HBA8
                      clear hw8
                      have hs0 : W0.heap.size ≤ w8.heap.size := Nat.le_trans HBW.out.size HB8.out.size
                      have OX := Lib.hid (ownF_two (x := x) (y := y) hs0)
                      have HB9 := Lib.hid (HB8.out.alloc HB8.out.size (.cells #[.float .f32 x, .float .f32 y] 34))
                      have HBA9 := Lib.hid (HBA8.out.ext ((Below.refl w8.heap.size w8).alloc (Nat.le_refl _) (.cells #[.float .f32 x, .float .f32 y] 34)))
                      clear HB8 HBA8
                      go_upto_region 24 with (fail)
                      generalize w8.alloc (.cells #[.float .f32 x, .float .f32 y] 34) = w9 at *
                      generalize w8.heap.size = gX at *
                      have K9 := Lib.hid (KA3.out.ext HB9.out)
                      have p0 := K9.out.cell 0
                      have p1 := K9.out.cell 1
                      have p2 := K9.out.cell 2
                      have p3 := K9.out.cell 3
                      go_wp2_with fail
                      refine (HGA.out (some ⟨gX, 0, none⟩) 2 [x, y] _ (N3.out.below HB9.out) (B3.out.below HB9.out) (G3.out.below HB9.out) OX.out.flts).mono ?_
                      clear p0 p1 p2 p3
                      cases hg : gainO gs [x, y] with
                      | none =>
                        have HSK := Lib.hid (show corIn m ns bs gs near i S (t + 1) = s by rw [HT.out]; exact corTry_no1 hg)
                        rintro e w10 ⟨rfl, b10⟩
                        have HB10 := Lib.hid (below_ext HB9.out HB9.out.size b10)
                        have HBA10 := Lib.hid (HBA9.out.ext b10)
                        go_wp2_with fail
                        go_roundg (LL - (k + 1))
                        case measure => rw [HRK.out]; omega
                        case rel => exact ⟨t + 1, k + 1, mo, rfl, by omega, rfl, by go_num, Lib.hid (by rw [HKT.out]; omega), Lib.hid (by rw [HSK.out]; exact hmo.out), Lib.hid (by rw [HSK.out]; exact HBA10.out), HB10.out⟩
                      | some gn =>
                        rintro e w10 ⟨rfl, b10⟩
                        have HB10 := Lib.hid (below_ext HB9.out HB9.out.size b10)
                        have HBA10 := Lib.hid (HBA9.out.ext b10)
                        have OX10 := Lib.hid (OX.out.below b10)
                        have K10 := Lib.hid (KA3.out.ext HB10.out)
                        clear b10 HB9 HBA9 OX K9
                        have p0 := K10.out.cell 0
                        have p1 := K10.out.cell 1
                        have p2 := K10.out.cell 2
                        have p3 := K10.out.cell 3
                        go_wp2_with fail
                        refine (HPL.out ad (some ⟨gX, 0, none⟩) 2 [x, y] _ (N3.out.below HB10.out) (B3.out.below HB10.out) (G3.out.below HB10.out) OX10.out.flts).mono ?_
                        clear p0 p1 p2 p3
                        cases hpl : planO 2 m ns bs [x, y] near
                        · have HSK := Lib.hid (show corIn m ns bs gs near i S (t + 1) = s by rw [HT.out]; exact corTry_no2 hg hpl)
                          rintro e w11 ⟨rfl, b11⟩
                          have HB11 := Lib.hid (below_ext HB10.out HB10.out.size b11)
                          have HBA11 := Lib.hid (HBA10.out.ext b11)
                          go_wp2_with fail
                          go_roundg (LL - (k + 1))
                          case measure => rw [HRK.out]; omega
                          case rel => exact ⟨t + 1, k + 1, mo, rfl, by omega, rfl, by go_num, Lib.hid (by rw [HKT.out]; omega), Lib.hid (by rw [HSK.out]; exact hmo.out), Lib.hid (by rw [HSK.out]; exact HBA11.out), HB11.out⟩
                        · have HTF := Lib.hid (show corIn m ns bs gs near i S (t + 1) = if (s.1.isNone || (FloatKind.f32.format.order gn s.2 == some .gt)) = true then (some (x, y), gn) else s by rw [HT.out]; exact corTry_of hg hpl)
                          rw [hmo.out] at HTF
                          clear hg hpl HT HTR
                          rintro e w11 ⟨rfl, b11⟩
                          have HB11 := Lib.hid (below_ext HB10.out HB10.out.size b11)
                          have HBA11 := Lib.hid (HBA10.out.ext b11)
                          have OX11 := Lib.hid (OX10.out.below b11)
                          have HNB := Lib.hid (show BestAt W0.heap.size w11 (.slice (some ⟨gX, 0, none⟩) 2 2) (some (x, y)) from ⟨_, _, rfl, OX11.out⟩)
                          clear b11 HB10 HBA10 OX10 K10
                          obtain ⟨Ab, cb, hbv, hob⟩ := HBA11.out
                          have HOB := Lib.hid hob
                          subst hbv
                          clear hob
                          obtain ⟨s1, s2⟩ := s
                          have hmo2 := hmo.out
                          simp only at hmo2
                          cases s1 with
                          | none =>
                            have hz : ((crL none).length : Int) = 0 := rfl
                            have HSK := Lib.hid (show corIn m ns bs gs near i S (t + 1) = (some (x, y), gn) by rw [HTF.out, if_pos (by rfl)])
                            clear hmo2
                            go_wp2_with fail
                            go_roundg (LL - (k + 1))
                            case measure => rw [HRK.out]; omega
                            case rel => exact ⟨t + 1, k + 1, gn, rfl, by omega, rfl, by go_num, Lib.hid (by rw [HKT.out]; omega), Lib.hid (by rw [HSK.out]), Lib.hid (by rw [HSK.out]; exact HNB.out), HB11.out⟩
                          | some xy =>
                            have hz : ((crL (some xy)).length : Int) = 2 := rfl
                            have HBS := Lib.hid (show BestAt W0.heap.size w11 (.slice Ab (crL (some xy)).length cb) (some xy) from ⟨_, _, rfl, HOB.out⟩)
                            clear hmo2
                            cases hgt : (FloatKind.f32.format.order gn mo == some .gt)
                            · have HSK := Lib.hid (show corIn m ns bs gs near i S (t + 1) = (some xy, s2) by rw [HTF.out, hgt, if_neg (by simp)])
                              go_wp2_with fail
                              go_roundg (LL - (k + 1))
                              case measure => rw [HRK.out]; omega
                              case rel => exact ⟨t + 1, k + 1, mo, rfl, by omega, rfl, by go_num, Lib.hid (by rw [HKT.out]; omega), Lib.hid (by rw [HSK.out]; exact hmo.out), Lib.hid (by rw [HSK.out]; exact HBS.out), HB11.out⟩
                            · have HSK := Lib.hid (show corIn m ns bs gs near i S (t + 1) = (some (x, y), gn) by rw [HTF.out, hgt, if_pos (by rfl)])
                              go_wp2_with fail
                              go_roundg (LL - (k + 1))
                              case measure => rw [HRK.out]; omega
                              case rel => exact ⟨t + 1, k + 1, gn, rfl, by omega, rfl, by go_num, Lib.hid (by rw [HKT.out]; omega), Lib.hid (by rw [HSK.out]), Lib.hid (by rw [HSK.out]; exact HNB.out), HB11.out⟩
              · have HKE := Lib.hid (show LL - (i + 1) = t by have := HKT.out; omega)
                have hkg : ¬ ((k : Int) < (LL : Int)) := by omega
                go_wp2_with fail
                go_roundg (LL - (i + 1))
                case measure => rw [HRI.out]; omega
                case rel => exact ⟨i + 1, mo, rfl, by omega, rfl, by go_num, Lib.hid (by rw [HSO.out, HKE.out]; exact hmo.out), Lib.hid (by rw [HSO.out, HKE.out]; exact HBA.out), hbi⟩
          · have e : i = LL := by omega
            have HRR := Lib.hid (show o = (corOut m ns bs gs near i).1 by rw [HR.out, e])
            have hig : ¬ ((i : Int) < (LL : Int)) := by omega
            clear e
            obtain ⟨Ab, cb, hbv, hob⟩ := HBA.out
            have HOB := Lib.hid hob
            subst hbv
            rw [← HRR.out] at HOB ⊢
            clear hob HBA hmo HRR
            have hWZ := below_ext hWW hWW.size hbi
            cases o with
            | none =>
              have hz : ((crL none).length : Int) = 0 := rfl
              go_wp2_with fail
              go_ret2
              exact nilFb _ _ _ hWZ
            | some xy =>
              have hz : ((crL (some xy)).length : Int) = 2 := rfl
              go_wp2_with fail
              go_ret2
              exact ⟨_, _, _, rfl, OwnF.low HOB.out hW.size, hWZ⟩
    · have hv3 : (v != 2) = true := by rw [bne_iff_ne]; exact hv2
      have HF := Lib.hid (show o = none by rw [HO.out]; exact corR_no (by unfold corOk; rw [decide_eq_false hv2, Bool.false_and, Bool.and_false]))
      go_enter Try.func32, Try.ntmps32
      go_wp2_with fail
      rw [← HW0.out]
      clear HW0
      refine HIS.out.mono ?_
      rintro e w1 ⟨rfl, d1⟩
      have hW1 := below_ext hW hW.size d1.below
      have p0 := (KA.out.ext d1.below).cell 0
      go_wp2_with fail
      go_ret2
      rw [HF.out]
      exact nilFb _ _ _ hW1
end Go.Proofs.Ytbbcddbdinmaaaa
