/- As many pairs as can be: the program's walk. -/
import Derived.Test.YtigaopfhjimpmaaDoorJ2
import Derived.Test.YtigaopfhjimpmaaDoorZMatZ
namespace Go.Proofs.YtigaopfhjimpmaaDoor
open Go.RowKit

def maB (nodes : Int) (xs : List ArcR) : Bool := validB nodes xs && decide (nodes ≤ 12)
def maV (nodes : Int) (xs : List ArcR) : List Int := if maB nodes xs = true then matW (adjT xs xs.length) nodes.toNat (2 ^ nodes.toNat - 1) (List.replicate nodes.toNat (-1)) else []
theorem maV_no {nodes : Int} {xs : List ArcR} (h : maB nodes xs = false) : maV nodes xs = [] := by unfold maV; rw [if_neg (by rw [h]; decide)]
theorem ArcsAt.updM {w w' : World} {A : Option Addr} {n : Nat} {xs : List ArcR} {S : Nat → Prop} (h : ArcsAt w A n xs) (hb : Upd S w w') (hS : ∀ ad, A = some ad → 0 < n → ¬ S ad.block) : ArcsAt w' A n xs := by
  cases n with
  | zero => exact ⟨h.1, fun h0 => absurd h0 (by omega)⟩
  | succ n => exact h.upd hb (fun ad ha => hS ad ha (by omega))
theorem arcs_in {xs : List ArcR} {N : Nat} (hv : validB N xs = true) : ∀ i, i < xs.length → frN xs i < N ∧ toN xs i < N ∧ frN xs i ≠ toN xs i := by
  obtain ⟨_, _, _, hb⟩ := valid_bd hv
  intro i hi
  have := hb i hi
  unfold frN toN; omega
theorem shl_m {k : Nat} (hk : k ≤ 12) : IntKind.i64.wrap (2 ^ min (k : Int).toNat 64) = ((2 ^ k : Nat) : Int) ∧ IntKind.i64.wrap (1 * 2 ^ min (k : Int).toNat 64) = ((2 ^ k : Nat) : Int) ∧ (2 : Int) ^ k = ((2 ^ k : Nat) : Int) ∧ IntKind.i64.wrap ((2 : Int) ^ k) = ((2 ^ k : Nat) : Int) := by
  have e : ((2 ^ k : Nat) : Int) = (2 : Int) ^ k := by exact_mod_cast rfl
  have h := Nat.pow_le_pow_right (n := 2) (by omega) hk
  have h0 := Nat.two_pow_pos k
  rw [Int.toNat_natCast, Nat.min_eq_left (by omega), Int.one_mul, ← e]
  exact ⟨IntWalk.i64_in _ (by omega), IntWalk.i64_in _ (by omega), rfl, IntWalk.i64_in _ (by omega)⟩
theorem wrap64_pow {k : Nat} (hk : k ≤ 12) : wrap64 ((2 ^ k : Nat) : Int) = ((2 ^ k : Nat) : Int) := by
  have h := Nat.pow_le_pow_right (n := 2) (by omega) hk
  generalize 2 ^ k = z at *
  unfold wrap64; omega
theorem take_facts {N L k y : Nat} (hN : N ≤ 12) (hk : k < N) (hL : L < 4096) (hy : y ≤ 4096) : wrap64 ((2 ^ k : Nat) : Int) = ((2 ^ k : Nat) : Int) ∧ bits .andNot .i64 (L : Int) ((2 ^ k : Nat) : Int) = ((rm L k : Nat) : Int) ∧ wrap64 (1 + (y : Int)) = 1 + (y : Int) ∧ IntKind.i64.wrap (1 + (y : Int)) = 1 + (y : Int) := by
  have h := Nat.pow_le_pow_right (n := 2) (by omega) (show k ≤ 12 by omega)
  exact ⟨wrap64_pow (by omega), i64_andNot_nat L (2 ^ k) (by omega) (by omega), by unfold wrap64; omega, IntWalk.i64_in _ (by omega)⟩
theorem pow_cast_lt {a N : Nat} (h : a < 2 ^ N) : (a : Int) < (2 : Int) ^ N := by
  have h2 := Int.ofNat_lt.2 h
  have e : ((2 ^ N : Nat) : Int) = (2 : Int) ^ N := by exact_mod_cast rfl
  rw [← e]; exact h2
theorem take_pow {N L k : Nat} (hN : N ≤ 12) (hk : k < N) (hL : L < 4096) : bits .andNot .i64 (L : Int) ((2 : Int) ^ k) = ((rm L k : Nat) : Int) ∧ (2 : Int) ^ k ≤ 4096 ∧ 1 ≤ (2 : Int) ^ k := by
  have h := Nat.pow_le_pow_right (n := 2) (by omega) (show k ≤ 12 by omega)
  have h0 := Nat.two_pow_pos k
  have e : ((2 ^ k : Nat) : Int) = (2 : Int) ^ k := by exact_mod_cast rfl
  rw [← e]
  exact ⟨i64_andNot_nat L (2 ^ k) (by omega) (by omega), by omega, by omega⟩
theorem shl_p {k : Nat} (hk : k ≤ 12) : IntKind.i64.wrap (2 ^ min (k : Int).toNat 64) = (2 : Int) ^ k ∧ IntKind.i64.wrap (1 * 2 ^ min (k : Int).toNat 64) = (2 : Int) ^ k ∧ IntKind.i64.wrap ((2 : Int) ^ k) = (2 : Int) ^ k ∧ wrap64 ((2 : Int) ^ k) = (2 : Int) ^ k := by
  obtain ⟨a, b, c, d⟩ := shl_m hk
  have e := wrap64_pow hk
  rw [← c] at a b d e
  exact ⟨a, b, d, e⟩
theorem max_hi {v y : Nat} (h : (v : Int) < 1 + (y : Int)) : ((max v (1 + y) : Nat) : Int) = 1 + (y : Int) := by
  rw [Nat.max_eq_right (by omega)]; omega
theorem max_lo {v y : Nat} (h : ¬ (v : Int) < 1 + (y : Int)) : ((max v (1 + y) : Nat) : Int) = (v : Int) := by
  rw [Nat.max_eq_left (by omega)]
theorem ret_LBq {A : Option Addr} {n c : Nat} {a b : Bool} (h : a = b) : Ending.returned (.tuple #[.slice A n c, .bool a]) = .returned (.tuple #[.slice A n c, .bool b]) := by rw [h]
theorem infoIntM : (Tryd.prog.info? 3).map (fun i => (i.zero, i.size, i.bytes)) = some (some (.int .i64 0), 1, 8) := by kernel_rfl
set_option maxRecDepth 100000 in
set_option maxHeartbeats 3200000 in
theorem implMatchAll_r (nodes : Int) (A : Option Addr) (n c : Nat) (xs : List ArcR) (w : World) (h : ArcsAt w A n xs) (hn0 : n ≤ maxLen) (ht : HTab w) :
    Calls Tryd.prog 8 #[.agg #[.int .i64 nodes, .slice A n c]] w (RetLB 2 (maV nodes xs) (maB nodes xs) w) := by
  have HX := Lib.hid h.len
  have hW : Below w.heap.size w (w.alloc (.cells #[.int .i64 nodes, .slice A n c] 31)) := (Below.refl _ _).alloc (Nat.le_refl _) _
  have h3 := h.alloc (.cells #[.int .i64 nodes, .slice A n c] 31)
  have HB := Lib.hid (Blk.new w 31 #[.int .i64 nodes, .slice A n c])
  have hlt0 : w.heap.size < (w.alloc (.cells #[.int .i64 nodes, .slice A n c] 31)).heap.size := by simp
  have HAlt := Lib.hid (fun ad (e : A = some ad) (h0 : 0 < n) => show ad.block < w.heap.size from by
    obtain ⟨ad', e2, h5, _⟩ := h.at_ h0
    rw [e] at e2; injection e2 with e2; subst e2; exact h5)
  have HT := Lib.hid ht
  clear h ht
  have q0 := HB.out.cell 0
  have q1 := HB.out.cell 1
  cases hv : validB nodes xs
  · have HS := Lib.hid (show maB nodes xs = false by unfold maB; rw [hv]; rfl)
    go_enter Tryd.func8, Tryd.ntmps8
    go_wp2_with fail
    generalize w.alloc (.cells #[.int .i64 nodes, .slice A n c] 31) = W at *
    refine (implValidNet_r nodes A n c xs _ h3 hn0).mono ?_
    rw [hv]
    rintro e w1 ⟨rfl, e1⟩
    go_wp2_with fail
    go_ret2
    exact ⟨none, 0, 0, ret_LBq HS.out.symm, by rw [maV_no HS.out]; exact OwnI.nil_ _ _ _, below_ext hW hW.size e1⟩
  · obtain ⟨v0, v1, v2, _⟩ := valid_bd hv
    rw [HX.out] at v2
    obtain ⟨N, rfl⟩ := Int.eq_ofNat_of_zero_le (show 0 ≤ nodes by omega)
    have HV := Lib.hid hv
    by_cases hN12 : 12 < N
    · have HS := Lib.hid (show maB N xs = false by unfold maB; rw [hv, decide_eq_false (by omega)]; rfl)
      have d1 : decide ((N : Int) > 12) = true := decide_eq_true (by omega)
      have d2 : (12 : Int) < (N : Int) := by omega
      go_enter Tryd.func8, Tryd.ntmps8
      go_wp2_with fail
      generalize w.alloc (.cells #[.int .i64 N, .slice A n c] 31) = W at *
      refine (implValidNet_r N A n c xs _ h3 hn0).mono ?_
      rw [hv]
      rintro e w1 ⟨rfl, e1⟩
      clear q0 q1
      have q0 := (HB.out.ext e1).cell 0
      go_wp2_with fail
      go_ret2
      exact ⟨none, 0, 0, ret_LBq HS.out.symm, by rw [maV_no HS.out]; exact OwnI.nil_ _ _ _, below_ext hW hW.size e1⟩
    · have HS := Lib.hid (show maB N xs = true by unfold maB; rw [hv, decide_eq_true (by omega)]; rfl)
      have HVV := Lib.hid (show maV N xs = matW (adjT xs n) N (2 ^ N - 1) (List.replicate N (-1)) by unfold maV; rw [if_pos HS.out, Int.toNat_natCast, HX.out])
      have HIN := Lib.hid (arcs_in hv)
      have HJL := Lib.hid (fun k (hk : k ≤ n) => jL_ok (N := N) (arcs_in hv) k (by rw [HX.out]; exact hk))
      rw [HX.out] at HIN
      have hvb := Lib.hid ((valid_bd hv).2.2.2)
      rw [HX.out] at hvb
      have d1 : decide ((N : Int) > 12) = false := decide_eq_false (by omega)
      have d2 : ¬ (12 : Int) < (N : Int) := by omega
      have hN12' : N ≤ 12 := by omega
      have hp12 := pow12 (N := N) (by omega)
      have hp0 := Nat.two_pow_pos N
      have HP := Lib.hid (show ((2 ^ N : Nat) : Int) = (2 : Int) ^ N from by exact_mod_cast rfl)
      have hpb : (2 : Int) ^ N ≤ 4096 := by rw [← HP.out]; omega
      have hpb2 : 1 ≤ (2 : Int) ^ N := by rw [← HP.out]; omega
      go_enter Tryd.func8, Tryd.ntmps8
      go_wp2_with fail
      generalize w.alloc (.cells #[.int .i64 N, .slice A n c] 31) = W at *
      refine (implValidNet_r N A n c xs _ h3 hn0).mono ?_
      rw [hv]
      rintro e w1 ⟨rfl, e1⟩
      clear q0 q1 hv
      have K1 := Lib.hid (HB.out.ext e1)
      have q0 := K1.out.cell 0
      have h4 := h3.below e1
      have hle1 := e1.size
      go_wp2_with (at_make; refine wp_make_ints _ rfl _ _ 57 rfl 3 Tryd.underlying57 infoIntM .i64 .i64 _ _ N rfl rfl rfl rfl (by omega) ?_; intro w2 gJ oJ b2; have p0 := (K1.out.ext b2).cell 0; have p1 := (K1.out.ext b2).cell 1)
      have hJlo := (OwnI.lt oJ rfl).1
      have K2 := Lib.hid (K1.out.ext b2)
      have h5 := h4.below b2
      have HSX := Lib.hid (show ∀ ad, A = some ad → 0 < n → ¬ blk (some ⟨gJ, 0, none⟩) ad.block from fun ad hq hn1 => by
        rintro ⟨z, z1, z2⟩
        injection z1 with z1
        subst z1
        have := HAlt.out ad hq hn1
        have z2 : gJ = ad.block := z2
        omega)
      have HSB := Lib.hid (show ¬ blk (some ⟨gJ, 0, none⟩) w.heap.size from by
        rintro ⟨z, z1, z2⟩
        injection z1 with z1
        subst z1
        have z2 : gJ = w.heap.size := z2
        omega)
      clear q0 p0 p1 h4
      have p1 := K2.out.cell 1
      go_loopg [6, 31] n (fun r _ iv wr => ∃ k : Nat, r = n - k ∧ k ≤ n ∧ iv = .int .i64 (k : Int) ∧ OwnI 3 w1.heap.size wr (some ⟨gJ, 0, none⟩) N N (jL xs N k) ∧ Upd (blk (some ⟨gJ, 0, none⟩)) w2 wr)
      case atStart => exact ⟨0, by omega, by omega, rfl, oJ, Upd.refl _ _⟩
      case round =>
        clear oJ
        obtain ⟨k, hr, hk, rfl, oJ, hu⟩ := hrel
        have HR := Lib.hid hr
        clear hr p1
        obtain ⟨wo, rfl⟩ : ∃ wo : World, wo = wr := ⟨_, rfl⟩
        by_cases hkn : k < n
        · obtain ⟨ad, rfl, had, k0, k1, k2, k3⟩ := (h5.updM hu HSX.out).at_ hkn
          obtain ⟨f1, f2, f3⟩ := HIN.out k hkn
          obtain ⟨⟨a0, _⟩, ⟨b0, _⟩, _⟩ := hvb.out k hkn
          obtain ⟨hl, hJ⟩ := HJL.out k (by omega)
          obtain ⟨mf, mf1, mf2, _⟩ := hJ _ f1
          obtain ⟨mt, mt1, mt2, _⟩ := hJ _ f2
          have HST := Lib.hid (show jL xs N (k + 1) = ((jL xs N k).set (frN xs k) ((mf ||| 2 ^ toN xs k : Nat) : Int)).set (toN xs k) ((mt ||| 2 ^ frN xs k : Nat) : Int) from by
            rw [jL, mf1, getD_setM _ _ _ _ (by omega), if_neg f3, mt1, Int.toNat_natCast, Int.toNat_natCast])
          have HMT := Lib.hid (show ((jL xs N k).set (frN xs k) ((mf ||| 2 ^ toN xs k : Nat) : Int)).getD (toN xs k) 0 = (mt : Int) from by
            rw [getD_setM _ _ _ _ (by omega), if_neg f3, mt1])
          have HFR := Lib.hid (show (xs.getD k default).fr = ((frN xs k : Nat) : Int) from by unfold frN; omega)
          have HTO := Lib.hid (show (xs.getD k default).to_ = ((toN xs k : Nat) : Int) from by unfold toN; omega)
          generalize xs.getD k default = x at *
          obtain ⟨af, at_, ar, aq⟩ := x
          replace HFR := Lib.hid (show af = ((frN xs k : Nat) : Int) from HFR.out)
          replace HTO := Lib.hid (show at_ = ((toN xs k : Nat) : Int) from HTO.out)
          replace k0 : wo.cell? _ = some (.int .i64 af) := k0
          replace k1 : wo.cell? _ = some (.int .i64 at_) := k1
          replace k2 : wo.cell? _ = some (.int .i64 ar) := k2
          replace k3 : wo.cell? _ = some (.int .i64 aq) := k3
          rw [HFR.out] at k0
          rw [HTO.out] at k1
          generalize jL xs N k = l at *
          generalize frN xs k = f at *
          generalize toN xs k = t at *
          clear a0 b0 hJ hl
          have ka := Blk.new wo 42 #[.int .i64 (f : Int), .int .i64 (t : Int), .int .i64 ar, .int .i64 aq]
          have oJ2 := OwnI.alloc oJ (.cells #[.int .i64 (f : Int), .int .i64 (t : Int), .int .i64 ar, .int .i64 aq] 42)
          have hu2 := hu.alloc (.cells #[.int .i64 (f : Int), .int .i64 (t : Int), .int .i64 ar, .int .i64 aq] 42)
          have s0 := ka.cell 0
          have s1 := ka.cell 1
          have hga : gJ ≠ wo.heap.size := by have : gJ < wo.heap.size := (OwnI.lt oJ rfl).2; omega
          have hkk : (k : Int) < (n : Int) := by omega
          clear oJ hu
          go_upto_region 7 with (fail)
          generalize wo.alloc (.cells #[.int .i64 (f : Int), .int .i64 (t : Int), .int .i64 ar, .int .i64 aq] 42) = W2 at *
          generalize wo.heap.size = gA at *
          obtain ⟨st1, st2, st3, st4⟩ := shl_m (k := t) (by omega)
          obtain ⟨sf1, sf2, sf3, sf4⟩ := shl_m (k := f) (by omega)
          have st4' : IntKind.i64.wrap ((2 ^ t : Nat) : Int) = ((2 ^ t : Nat) : Int) := by rw [← st3] at *; exact st4
          have sf4' : IntKind.i64.wrap ((2 ^ f : Nat) : Int) = ((2 ^ f : Nat) : Int) := by rw [← sf3] at *; exact sf4
          have c1 := OwnI.cell oJ2 f1
          rw [mf1] at c1
          have hb1 : bits .or .i64 (mf : Int) ((2 ^ t : Nat) : Int) = ((mf ||| 2 ^ t : Nat) : Int) := i64_or_nat _ _ (by omega) (by have := Nat.pow_le_pow_right (n := 2) (by omega) (show t ≤ 12 by omega); omega)
          have hb2 : bits .or .i64 (mt : Int) ((2 ^ f : Nat) : Int) = ((mt ||| 2 ^ f : Nat) : Int) := i64_or_nat _ _ (by omega) (by have := Nat.pow_le_pow_right (n := 2) (by omega) (show f ≤ 12 by omega); omega)
          have g1 := OwnI.free oJ2 f
          have o3 := OwnI.set oJ2 f ((mf ||| 2 ^ t : Nat) : Int)
          have u3 := hu2.setCell (p := ⟨gJ, f, none⟩) (.inl ⟨_, rfl, rfl⟩) (.int .i64 ((mf ||| 2 ^ t : Nat) : Int))
          generalize mf ||| 2 ^ t = m1 at *
          generalize mt ||| 2 ^ f = m2 at *
          have i1 : (f : Int) < (N : Int) := by omega
          have i2 : (t : Int) < (N : Int) := by omega
          have hw1 : wrap64 ((2 ^ t : Nat) : Int) = ((2 ^ t : Nat) : Int) := wrap64_pow (by omega)
          have hw2 : wrap64 ((2 ^ f : Nat) : Int) = ((2 ^ f : Nat) : Int) := wrap64_pow (by omega)
          generalize ((2 ^ t : Nat) : Int) = pt at *
          generalize ((2 ^ f : Nat) : Int) = pf at *
          have ka2 := ka.far (p := ⟨gJ, f, none⟩) (fun e => hga e.symm) (.int .i64 (m1 : Int))
          clear c1 g1 s0 s1
          have c1 := OwnI.cell oJ2 f1
          rw [mf1] at c1
          have g1 := OwnI.free oJ2 f
          have s0 := ka.cell 0
          have s1 := ka.cell 1
          go_region
          have o4 := OwnI.drew o3
          have u4 := u3.drew
          have ka3 := ka2.drew
          clear c1 g1 s0 s1 oJ2 hu2 o3 u3 ka ka2
          have c2 := OwnI.cell o4 f2
          rw [HMT.out] at c2
          have r0 := ka3.cell 0
          have r1 := ka3.cell 1
          have g2 := OwnI.free o4 t
          have o5 := OwnI.set o4 t (m2 : Int)
          have u5 := u4.setCell (p := ⟨gJ, t, none⟩) (.inl ⟨_, rfl, rfl⟩) (.int .i64 (m2 : Int))
          rw [← HST.out] at o5
          clear o4 u4 ka3
          go_wp2_with fail
          generalize (W2.setCell ⟨gJ, f, none⟩ (.int .i64 (m1 : Int))).drew = W3 at *
          go_region
          go_wp2_with fail
          go_roundg (n - (k + 1))
          case measure => rw [HR.out]; omega
          case rel => exact ⟨k + 1, rfl, by omega, by go_num, o5.drew, u5.drew⟩
        · obtain rfl : n = k := by omega
          obtain ⟨hjl, hJ⟩ := HJL.out n (Nat.le_refl _)
          have HJ := Lib.hid hJ
          have K3 := Lib.hid (K2.out.upd hu HSB.out)
          have hbw := (b2.trans ((hu.toBelow (B := w1.heap.size) b2.size (fun b hb2 ⟨z, z1, z2⟩ => by
            injection z1 with z1
            subst z1
            have z2 : gJ = b := z2
            have hJlo : w1.heap.size ≤ gJ := hJlo
            omega))))
          have hbW := below_ext hW hW.size (ext_trans e1 hbw)
          have HTO := Lib.hid (HT.out.below hbW)
          generalize jL xs N n = jl at *
          generalize hAJ : adjT xs n = J at *
          clear hAJ hJ h5 hu
          have q0 := K3.out.cell 0
          have hJhi : gJ < wo.heap.size := (OwnI.lt oJ rfl).2
          go_wp2_with (at_make; refine wp_make_ints _ rfl _ _ 57 rfl 3 Tryd.underlying57 infoIntM .i64 .i64 _ _ (2 ^ N) rfl rfl HP.out.symm HP.out.symm (by omega) ?_; intro w5 gM oM b5; have p0 := (K3.out.ext b5).cell 0)
          have K4 := Lib.hid (K3.out.ext b5)
          have oJ5 := OwnI.below oJ b5
          have HT5 := Lib.hid (HTO.out.below b5)
          have hbW5 := ext_trans hbW b5
          have b5' := Lib.hid b5
          have gMhi : gM < w5.heap.size := (OwnI.lt oM rfl).2
          have hMlo : wo.heap.size ≤ gM := (OwnI.lt oM rfl).1
          have hJM : gJ ≠ gM := by omega
          have hw1 : w.heap.size < wo.heap.size := by have := hbw.size; have := hW.size; omega
          have hTl := HT.out.1
          have HSBM := Lib.hid (show ¬ blk (some ⟨gM, 0, none⟩) w.heap.size from by
            rintro ⟨z, z1, z2⟩
            injection z1 with z1
            subst z1
            have z2 : gM = w.heap.size := z2
            omega)
          have HS1M := Lib.hid (show ¬ blk (some ⟨gM, 0, none⟩) 1 from by
            rintro ⟨z, z1, z2⟩
            injection z1 with z1
            subst z1
            have z2 : gM = 1 := z2
            omega)
          have HSJM := Lib.hid (show ∀ ad : Addr, (some ⟨gJ, 0, none⟩ : Option Addr) = some ad → ¬ blk (some ⟨gM, 0, none⟩) ad.block from fun ad ha => by
            cases ha
            rintro ⟨z, z1, z2⟩
            injection z1 with z1
            subst z1
            exact hJM z2.symm)
          rw [← mI_one J N] at oM
          clear q0 oJ b5
          go_wp2_with fail
          go_loopg [8] (2 ^ N - 1) (fun r sv wr => ∃ S : Nat, r = 2 ^ N - S ∧ 1 ≤ S ∧ S ≤ 2 ^ N ∧ sv = .int .i64 (S : Int) ∧ OwnI 3 wo.heap.size wr (some ⟨gM, 0, none⟩) (2 ^ N) (2 ^ N) (mI J N S) ∧ Upd (blk (some ⟨gM, 0, none⟩)) w5 wr)
          case atStart => exact ⟨1, rfl, Nat.le_refl _, hp0, rfl, oM, Upd.refl _ _⟩
          case round =>
            clear oM p0
            obtain ⟨S, hr, hS1, hS2, rfl, oM, hu⟩ := hrel
            have HR := Lib.hid hr
            clear hr
            obtain ⟨wq, rfl⟩ : ∃ wq : World, wq = wr := ⟨_, rfl⟩
            have HTq := HT5.out.upd hu HS1M.out
            by_cases hSN : S < 2 ^ N
            · obtain ⟨l1, l2, _⟩ := low_ok (N := N) (show S ≠ 0 by omega) hSN (by omega)
              have hL := rm_lt hSN (by omega) l1 l2
              have HV0 := Lib.hid (show vT J (pm J N) S 0 = pm J N (rm S (lowN S)) from rfl)
              have HVN := Lib.hid (pm_eq J N (by omega) (show S ≠ 0 by omega) hSN)
              have HVK := Lib.hid (fun k => show vT J (pm J N) S (k + 1) = if ((rm S (lowN S)).testBit k && J (lowN S) k) = true then max (vT J (pm J N) S k) (1 + pm J N (rm (rm S (lowN S)) k)) else vT J (pm J N) S k from rfl)
              have HVB := Lib.hid (fun k (hk : k ≤ N) => vT_le J N (by omega) (show S ≠ 0 by omega) hSN (fun j hj => pm_le J N (by omega) j j (Nat.le_refl _) (by omega)) k hk)
              have HPB := Lib.hid (fun j (hj : j < 2 ^ N) => pm_le J N (by omega) j j (Nat.le_refl _) hj)
              have hrm : bits .andNot .i64 (S : Int) ((2 ^ lowN S : Nat) : Int) = ((rm S (lowN S) : Nat) : Int) := i64_andNot_nat S (2 ^ lowN S) (by omega) (by have := Nat.pow_le_pow_right (n := 2) (by omega) (show lowN S ≤ 12 by omega); omega)
              have htz := Lib.hid (tz_any S wq (by omega) (by omega) HTq)
              obtain ⟨ja, ja1, ja2, ja3⟩ := HJ.out (lowN S) l1
              have ha12 : lowN S ≤ 12 := by omega
              have hpa := Nat.pow_le_pow_right (n := 2) (by omega) ha12
              have hpa0 := Nat.two_pow_pos (lowN S)
              have HPA := Lib.hid (show ((2 ^ lowN S : Nat) : Int) = (2 : Int) ^ lowN S from by exact_mod_cast rfl)
              rw [HPA.out] at hrm
              have hpa1 : (2 : Int) ^ lowN S ≤ 4096 := by rw [← HPA.out]; omega
              have hpa2 : 1 ≤ (2 : Int) ^ lowN S := by rw [← HPA.out]; omega
              have hcS : (S : Int) < ((2 ^ N : Nat) : Int) := by omega
              have hcS2 : (S : Int) < (2 : Int) ^ N := by rw [← HP.out]; exact hcS
              have hcL2 : ((rm S (lowN S) : Nat) : Int) < (2 : Int) ^ N := by rw [← HP.out]; omega
              have hcL : rm S (lowN S) < 2 ^ N := by omega
              have hc0 := OwnI.cell oM (j := rm S (lowN S)) (by omega)
              rw [mI_lo J N (by omega) hL] at hc0
              have hf0 := OwnI.free oM S
              have hcS0 := OwnI.cell oM hSN
              generalize (mI J N S).getD S 0 = z0 at hcS0
              have oS := OwnI.set oM S (pm J N (rm S (lowN S)) : Int)
              have uS := hu.setCell (p := ⟨gM, S, none⟩) (.inl ⟨_, rfl, rfl⟩) (.int .i64 (pm J N (rm S (lowN S)) : Int))
              rw [← HV0.out] at oS uS hc0
              have HAB := Lib.hid (fun k (hk : k < N) => show (rm S (lowN S) &&& ja).testBit k = ((rm S (lowN S)).testBit k && J (lowN S) k) from by rw [Nat.testBit_and, ja3 k hk])
              have hJ5c := OwnI.cell oJ5 l1
              rw [ja1] at hJ5c
              have HJC := Lib.hid (fun (W : World) (u : Upd (blk (some ⟨gM, 0, none⟩)) w5 W) => show W.cell? ⟨gJ, lowN S, none⟩ = some (.int .i64 (ja : Int)) from by
                have := OwnI.cell (OwnI.upd oJ5 u HSJM.out) l1
                rw [ja1] at this
                exact this)
              have HMID := Lib.hid (fun (x : Int) j (hj : j < 2 ^ N) (h : j < S) => mI_mid J N x hj h)
              have HATS := Lib.hid (fun (x : Int) => mI_at J N x hSN)
              have HNXT := Lib.hid (mI_next J N hSN)
              have HK4 := Lib.hid (fun (W : World) (u : Upd (blk (some ⟨gM, 0, none⟩)) w5 W) => (K4.out.upd u HSBM.out).cell 0)
              generalize hv0 : vT J (pm J N) S 0 = v0 at *
              have HV00 := Lib.hid hv0
              clear hv0
              generalize hLL : rm S (lowN S) = L at *
              generalize lowN S = a at *
              clear oM hu HTq l2 ja1 ja3 hJ5c hLL
              go_wp2_with (go_at_call 28; refine htz.out.mono ?_; rintro e w' ⟨rfl, rfl⟩)
              go_loopg [11] N (fun r kv wi => ∃ k : Nat, r = N - k ∧ k ≤ N ∧ kv = .int .i64 (k : Int) ∧ OwnI 3 wo.heap.size wi (some ⟨gM, 0, none⟩) (2 ^ N) (2 ^ N) ((mI J N S).set S (vT J (pm J N) S k : Int)) ∧ Upd (blk (some ⟨gM, 0, none⟩)) w5 wi)
              case atStart => exact ⟨0, by omega, by omega, rfl, by rw [HV00.out]; exact oS, uS⟩
              case round =>
                clear oS uS hf0 hcS0 hc0
                obtain ⟨k, hr, hk, rfl, oM, hu⟩ := hrel
                have HRK := Lib.hid hr
                clear hr
                obtain ⟨wk, rfl⟩ : ∃ wk : World, wk = wr := ⟨_, rfl⟩
                have q0 := HK4.out wk hu
                by_cases hkN : k < N
                · have cj := HJC.out wk hu
                  have hbt := bit_test (L &&& ja) k (Nat.lt_of_le_of_lt Nat.and_le_left (by omega))
                  rw [HAB.out k hkN] at hbt
                  have hand : bits .and .i64 (L : Int) (ja : Int) = ((L &&& ja : Nat) : Int) := i64_and_nat _ _ (by omega) (by omega)
                  have HSTEP := Lib.hid (HVK.out k)
                  have hvk := HVB.out k (by omega)
                  have hrk := rm_le L k
                  have hpk := HPB.out (rm L k) (by omega)
                  have c1 := OwnI.cell oM hSN
                  rw [HATS.out] at c1
                  have c2 := OwnI.cell oM (j := rm L k) (by omega)
                  rw [HMID.out _ _ (by omega) (by omega)] at c2
                  have f1 := OwnI.free oM S
                  have hkk : (k : Int) < (N : Int) := by omega
                  have haN : (a : Int) < (N : Int) := by omega
                  generalize L &&& ja = lj at *
                  generalize (L.testBit k && J a k) = b at *
                  generalize vT J (pm J N) S k = v at *
                  cases b with
                  | false =>
                    have HE := Lib.hid (HSTEP.out.trans (if_neg (by decide)))
                    go_wp2_with fail
                    go_roundg (N - (k + 1))
                    case measure => rw [HRK.out]; omega
                    case rel => exact ⟨k + 1, rfl, by omega, by go_num, by rw [HE.out]; exact oM, hu⟩
                  | true =>
                    have HE := Lib.hid (HSTEP.out.trans (if_pos rfl))
                    go_upto_region 21 with (fail)
                    have hy41 : pm J N (rm L k) ≤ 4096 := Nat.le_trans hpk (Nat.le_trans hrk (Nat.le_trans (Nat.le_of_lt hcL) hp12))
                    obtain ⟨hw1, hrk2, hy1, hy2⟩ := take_facts (k := k) (L := L) hN12' hkN (Nat.lt_of_lt_of_le hcL hp12) hy41
                    have hrkN : rm L k < 2 ^ N := Nat.lt_of_le_of_lt hrk hcL
                    have hrkI := pow_cast_lt hrkN
                    have HSH := Lib.hid (shl_m (k := k) (Nat.le_trans (Nat.le_of_lt hkN) hN12'))
                    clear hpk
                    generalize pm J N (rm L k) = y at *
                    generalize rm L k = rk at *
                    generalize ((2 ^ k : Nat) : Int) = pk at *
                    by_cases hmx : (v : Int) < 1 + (y : Int)
                    · have HMX := Lib.hid (max_hi hmx)
                      have oS := OwnI.set oM S (1 + (y : Int))
                      have uS := hu.setCell (p := ⟨gM, S, none⟩) (.inl ⟨_, rfl, rfl⟩) (.int .i64 (1 + (y : Int)))
                      rw [List.set_set] at oS
                      clear oM hu hbt
                      obtain ⟨st1, st2, st3, st4⟩ := HSH.out
                      go_region
                      all_goals
                        clear st1 st2 st3 st4
                        go_wp2_with fail
                        go_roundg (N - (k + 1))
                        case measure => rw [HRK.out]; exact Nat.sub_lt_sub_left hkN (Nat.lt_succ_self k)
                        case rel => exact ⟨k + 1, rfl, hkN, by first | rfl | go_num, by rw [HE.out, HMX.out]; exact oS.drew, uS.drew⟩
                    · have HMX := Lib.hid (max_lo hmx)
                      have oS := OwnI.set oM S (v : Int)
                      have uS := hu.setCell (p := ⟨gM, S, none⟩) (.inl ⟨_, rfl, rfl⟩) (.int .i64 (v : Int))
                      rw [List.set_set] at oS
                      clear oM hu hbt
                      obtain ⟨st1, st2, st3, st4⟩ := HSH.out
                      go_region
                      all_goals
                        clear st1 st2 st3 st4
                        go_wp2_with fail
                        go_roundg (N - (k + 1))
                        case measure => rw [HRK.out]; exact Nat.sub_lt_sub_left hkN (Nat.lt_succ_self k)
                        case rel => exact ⟨k + 1, rfl, hkN, by first | rfl | go_num, by rw [HE.out, HMX.out]; exact oS.drew, uS.drew⟩
                · obtain rfl : N = k := by omega
                  rw [← HVN.out, HNXT.out] at oM
                  go_wp2_with fail
                  go_roundg (2 ^ N - (S + 1))
                  case measure => rw [HR.out]; omega
                  case rel => exact ⟨S + 1, rfl, by omega, by omega, by go_num, oM, hu⟩
            · obtain rfl : S = 2 ^ N := by omega
              have K5 := Lib.hid (K4.out.upd hu HSBM.out)
              have q0 := K5.out.cell 0
              have oJ6 := OwnI.upd oJ5 hu HSJM.out
              have hbM := hu.toBelow (B := wo.heap.size) (by have : gM < w5.heap.size := gMhi; omega) (fun b hb2 ⟨z, z1, z2⟩ => by
                injection z1 with z1
                subst z1
                have z2 : gM = b := z2
                omega)
              have hbWM := ext_trans hbW (b5'.out.trans hbM)
              have hszq := hu.size
              clear hu hS1 hS2
              go_wp2_with (at_make; refine wp_make_ints _ rfl _ _ 26 rfl 2 Tryd.underlying26 info64 .i64 .i64 _ _ N rfl rfl rfl rfl (by omega) ?_; intro w6 gO oO b6; have p0 := (K5.out.ext b6).cell 0)
              have K6 := Lib.hid (K5.out.ext b6)
              have HT6 := Lib.hid ((HT.out.below hbWM).below b6)
              have hbW6 := ext_trans hbWM b6
              have hOlo : wq.heap.size ≤ gO := (OwnI.lt oO rfl).1
              have hOhi : gO < w6.heap.size := (OwnI.lt oO rfl).2
              have hMhq : gM < wq.heap.size := (OwnI.lt oM rfl).2
              have oM6 := OwnI.below oM b6
              have oJ7 := OwnI.below oJ6 b6
              have HSO := Lib.hid (show ∀ b, b < wq.heap.size → ¬ blk (some ⟨gO, 0, none⟩) b from fun b hb2 ⟨z, z1, z2⟩ => by
                injection z1 with z1
                subst z1
                have z2 : gO = b := z2
                omega)
              have hJq : gJ < wq.heap.size := by omega
              have hwq : w.heap.size < wq.heap.size := by omega
              have H1O := Lib.hid (HSO.out 1 (by omega))
              have HBO := Lib.hid (HSO.out w.heap.size hwq)
              have HJO := Lib.hid (show ∀ ad : Addr, (some ⟨gJ, 0, none⟩ : Option Addr) = some ad → ¬ blk (some ⟨gO, 0, none⟩) ad.block from fun ad ha => by cases ha; exact HSO.out gJ hJq)
              have HMO := Lib.hid (show ∀ ad : Addr, (some ⟨gM, 0, none⟩ : Option Addr) = some ad → ¬ blk (some ⟨gO, 0, none⟩) ad.block from fun ad ha => by cases ha; exact HSO.out gM hMhq)
              have HST := Lib.hid (show matW J N (2 ^ N - 1) (List.replicate N 0) = maV N xs from by
                rw [HVV.out]
                refine matW_agree J N hN12' _ _ _ _ (Nat.le_refl _) (by omega) (by simp) (by simp) fun v hv hb => ?_
                rw [Nat.testBit_two_pow_sub_one, decide_eq_true hv] at hb
                cases hb)
              have hlast : IntKind.i64.wrap ((2 : Int) ^ N - 1) = ((2 ^ N - 1 : Nat) : Int) := by rw [← HP.out, IntWalk.i64_in _ (by omega)]; omega
              have hlast2 : (2 : Int) ^ N - 1 = ((2 ^ N - 1 : Nat) : Int) := by rw [← HP.out]; omega
              have HL2 := Lib.hid hlast2
              clear q0 oJ5 oJ6 oM
              go_wp2_with fail
              go_loopg [13] (2 ^ N - 1) (fun r sv wr => ∃ (S : Nat) (o : List Int), r = S ∧ S < 2 ^ N ∧ sv = .int .i64 (S : Int) ∧ o.length = N ∧ Hid (matW J N S o = maV N xs) ∧ OwnI 2 wq.heap.size wr (some ⟨gO, 0, none⟩) N N o ∧ Upd (blk (some ⟨gO, 0, none⟩)) w6 wr)
              case atStart => exact ⟨2 ^ N - 1, List.replicate N 0, rfl, by omega, by first | rfl | (rw [HL2.out]), by simp, HST, oO, Upd.refl _ _⟩
              case round =>
                clear oO p0 hlast hlast2
                obtain ⟨S, o, hr, hSN, rfl, hol, HW, oO, hu⟩ := hrel
                have HR := Lib.hid hr
                clear hr
                obtain ⟨wp, rfl⟩ : ∃ wp : World, wp = wr := ⟨_, rfl⟩
                by_cases h0 : S = 0
                · subst h0
                  have hbO := hu.toBelow (B := wq.heap.size) (by omega) HSO.out
                  have hbE := ext_trans hbWM (b6.trans hbO)
                  have HO := Lib.hid (show o = maV N xs from HW.out)
                  go_wp2_with fail
                  go_ret2
                  exact ⟨_, _, _, ret_LBq HS.out.symm, by rw [← HO.out]; exact OwnI.low oO (by omega), hbE⟩
                · obtain ⟨l1, l2, _⟩ := low_ok (N := N) h0 hSN hN12'
                  have hL := rm_lt hSN hN12' l1 l2
                  have hS4 : S < 4096 := Nat.lt_of_lt_of_le hSN hp12
                  have HHIT := Lib.hid (fun k hk h hb => matW_hit J N (o := o) hN12' h0 hSN (k := k) hk h hb)
                  have HMISS := Lib.hid (fun hb => matW_miss J N (o := o) hN12' h0 hSN hb)
                  have HCND := Lib.hid (fun k => show cnd J N S k = ((rm S (lowN S)).testBit k && J (lowN S) k && decide (1 + pm J N (rm (rm S (lowN S)) k) = pm J N S)) from rfl)
                  have HCIN := Lib.hid (fun k (h : cnd J N S k = true) => (cnd_in J N hN12' h0 hSN h).2)
                  obtain ⟨hrm, hpa1, hpa2⟩ := take_pow (k := lowN S) (L := S) hN12' l1 hS4
                  have htz := Lib.hid (tz_any S wp h0 hS4 (HT6.out.upd hu H1O.out))
                  obtain ⟨ja, ja1, ja2, ja3⟩ := HJ.out (lowN S) l1
                  have HAB := Lib.hid (fun k (hk : k < N) => show (rm S (lowN S) &&& ja).testBit k = ((rm S (lowN S)).testBit k && J (lowN S) k) from by rw [Nat.testBit_and, ja3 k hk])
                  have d0 : ((S : Int) != 0) = true := by rw [bne_iff_ne]; omega
                  have HCJ := Lib.hid (fun (W : World) (u : Upd (blk (some ⟨gO, 0, none⟩)) w6 W) => show W.cell? ⟨gJ, lowN S, none⟩ = some (.int .i64 (ja : Int)) from by
                    have := OwnI.cell (OwnI.upd oJ7 u HJO.out) l1
                    rw [ja1] at this
                    exact this)
                  have HCM := Lib.hid (fun (W : World) (u : Upd (blk (some ⟨gO, 0, none⟩)) w6 W) j (hj : j < 2 ^ N) => show W.cell? ⟨gM, j, none⟩ = some (.int .i64 (pm J N j : Int)) from by
                    have := OwnI.cell (OwnI.upd oM6 u HMO.out) hj
                    rw [mI_lo J N hj hj] at this
                    exact this)
                  have HCB := Lib.hid (fun (W : World) (u : Upd (blk (some ⟨gO, 0, none⟩)) w6 W) => (K6.out.upd u HBO.out).cell 0)
                  have HPB := Lib.hid (fun j (hj : j < 2 ^ N) => pm_le J N hN12' j j (Nat.le_refl _) hj)
                  have hc0 := OwnI.cell oO l1
                  have hf0 := OwnI.free oO (lowN S)
                  have oS := OwnI.set oO (lowN S) (-1)
                  have uS := hu.setCell (p := ⟨gO, lowN S, none⟩) (.inl ⟨_, rfl, rfl⟩) (.int .i64 (-1))
                  have haN : (lowN S : Int) < (N : Int) := by omega
                  have hLN : rm S (lowN S) < 2 ^ N := Nat.lt_trans hL hSN
                  generalize o.getD (lowN S) 0 = z0 at hc0
                  generalize hLL : rm S (lowN S) = L at *
                  generalize lowN S = a at *
                  clear oO hu l2 ja1 ja3 hLL
                  go_wp2_with (go_at_call 28; refine htz.out.mono ?_; rintro e w' ⟨rfl, rfl⟩)
                  go_loopg [15, 16] N (fun r s15 kv wi => ∃ k : Nat, r = N - k ∧ k ≤ N ∧ s15 = .int .i64 (L : Int) ∧ kv = .int .i64 (k : Int) ∧ Hid (∀ j, j < k → cnd J N S j = false) ∧ OwnI 2 wq.heap.size wi (some ⟨gO, 0, none⟩) N N (o.set a (-1)) ∧ Upd (blk (some ⟨gO, 0, none⟩)) w6 wi)
                  case atStart => exact ⟨0, by omega, by omega, rfl, rfl, Lib.hid (fun j hj => by omega), oS, uS⟩
                  case round =>
                    clear oS uS hc0 hf0 hrm hpa1 hpa2
                    obtain ⟨k, hr, hk, rfl, rfl, HNO, oO, hu⟩ := hrel
                    have HRK := Lib.hid hr
                    clear hr
                    obtain ⟨wk, rfl⟩ : ∃ wk : World, wk = wr := ⟨_, rfl⟩
                    have q0 := HCB.out wk hu
                    by_cases hkN : k < N
                    · have cj := HCJ.out wk hu
                      have hL4 : L < 4096 := Nat.lt_trans hL hS4
                      have hbt := bit_test (L &&& ja) k (Nat.lt_of_le_of_lt Nat.and_le_left (by omega))
                      rw [HAB.out k hkN] at hbt
                      have hand : bits .and .i64 (L : Int) (ja : Int) = ((L &&& ja : Nat) : Int) := i64_and_nat _ _ (by omega) (by omega)
                      have hrk := rm_le L k
                      have hrkN : rm L k < 2 ^ N := Nat.lt_of_le_of_lt hrk hLN
                      have cm1 := HCM.out wk hu (rm L k) hrkN
                      have cm2 := HCM.out wk hu S hSN
                      have hpk := HPB.out (rm L k) hrkN
                      have hy41 : pm J N (rm L k) ≤ 4096 := Nat.le_trans hpk (Nat.le_trans hrk (Nat.le_of_lt hL4))
                      have hkk : (k : Int) < (N : Int) := by omega
                      have HC := Lib.hid (HCND.out k)
                      have HCI := Lib.hid (HCIN.out k)
                      have HH := Lib.hid (HHIT.out k hkN)
                      obtain ⟨hw1, hrk2, hy1, hy2⟩ := take_facts (k := k) (L := L) hN12' hkN hL4 hy41
                      obtain ⟨hrk3, hpk1, hpk2⟩ := take_pow (k := k) (L := L) hN12' hkN hL4
                      have HSH := Lib.hid (shl_m (k := k) (Nat.le_trans (Nat.le_of_lt hkN) hN12'))
                      have hrkI := pow_cast_lt hrkN
                      have hSI := pow_cast_lt hSN
                      clear hpk
                      generalize L &&& ja = lj at *
                      generalize pm J N (rm L k) = y at *
                      generalize pm J N S = z at *
                      generalize (L.testBit k && J a k) = b at *
                      cases b with
                      | false =>
                        have HC2 := Lib.hid (show cnd J N S k = false from HC.out)
                        clear hw1 hrk2 hy1 hy2 hrk3 hpk1 hpk2 hrkI
                        go_wp2_with fail
                        go_quiet (fail)
                        go_wp2_with fail
                        go_roundg (N - (k + 1))
                        case measure => rw [HRK.out]; exact Nat.sub_lt_sub_left hkN (Nat.lt_succ_self k)
                        case rel => exact ⟨k + 1, rfl, hkN, rfl, by first | rfl | go_num, Lib.hid (fun j hj => by
                          by_cases e : j = k
                          · rw [e]; exact HC2.out
                          · exact HNO.out j (by omega)), OwnI.drewN oO _, hu.drewN _⟩
                      | true =>
                        go_upto_region 31 with (fail)
                        clear hw1 hrk2
                        have HSP := Lib.hid (shl_p (k := k) (Nat.le_trans (Nat.le_of_lt hkN) hN12'))
                        by_cases hyz : 1 + y = z
                        · have d3 : (1 + (y : Int) == (z : Int)) = true := by rw [beq_iff_eq, ← hyz]; exact (Int.natCast_add 1 y).symm
                          have HC2 := Lib.hid (show cnd J N S k = true from by rw [HC.out, decide_eq_true hyz]; rfl)
                          have hka := HCI.out HC2.out
                          have HW2 := Lib.hid ((HH.out HC2.out HNO.out).symm.trans HW.out)
                          clear hyz
                          obtain ⟨st1, st2, st3, st4⟩ := HSP.out
                          go_quiet (fail)
                          have o2 := OwnI.drewN oO nq
                          have u2 := hu.drewN nq
                          clear oO hu st1 st2 st3 st4 cj cm1 cm2 q0 hbt hand hy1 hy2 d3
                          generalize wk.drewN nq = W2 at *
                          have ca := OwnI.cell o2 l1
                          have fa := OwnI.free o2 a
                          have o3 := OwnI.set o2 a (k : Int)
                          have u3 := u2.setCell (p := ⟨gO, a, none⟩) (.inl ⟨_, rfl, rfl⟩) (.int .i64 (k : Int))
                          have cb := OwnI.cell o2 hkN
                          have cb2 := OwnI.cell o3 hkN
                          have fb := OwnI.free o3 k
                          have o4 := OwnI.set o3 k (a : Int)
                          have u4 := u3.setCell (p := ⟨gO, k, none⟩) (.inl ⟨_, rfl, rfl⟩) (.int .i64 (a : Int))
                          rw [List.set_set] at o4
                          generalize (o.set a (-1)).getD a 0 = x1 at ca
                          generalize (o.set a (-1)).getD k 0 = x2 at cb
                          generalize ((o.set a (-1)).set a (k : Int)).getD k 0 = x3 at cb2
                          clear o2 u2 o3 u3
                          go_wp2_with fail
                          go_roundg (rm L k)
                          case measure => rw [HR.out]; exact Nat.lt_of_le_of_lt hrk hL
                          case rel => exact ⟨rm L k, (o.set a (k : Int)).set k (a : Int), rfl, hrkN, rfl, by simp [hol], HW2, o4, u4⟩
                        · have d3 : (1 + (y : Int) == (z : Int)) = false := by
                            rw [beq_eq_false_iff_ne]; intro e; exact hyz (Int.ofNat.inj ((Int.natCast_add 1 y).trans e))
                          have HC2 := Lib.hid (show cnd J N S k = false from by rw [HC.out, decide_eq_false hyz]; rfl)
                          clear hyz
                          obtain ⟨st1, st2, st3, st4⟩ := HSP.out
                          go_quiet (fail)
                          clear st1 st2 st3 st4 hy1 hy2 hrk3 hpk1 hpk2 hrkI
                          go_wp2_with fail
                          go_roundg (N - (k + 1))
                          case measure => rw [HRK.out]; exact Nat.sub_lt_sub_left hkN (Nat.lt_succ_self k)
                          case rel => exact ⟨k + 1, rfl, hkN, rfl, by first | rfl | go_num, Lib.hid (fun j hj => by
                            by_cases e : j = k
                            · rw [e]; exact HC2.out
                            · exact HNO.out j (by omega)), OwnI.drewN oO _, hu.drewN _⟩
                    · obtain rfl : N = k := by omega
                      have HW2 := Lib.hid ((HMISS.out HNO.out).symm.trans HW.out)
                      go_wp2_with fail
                      go_roundg L
                      case measure => rw [HR.out]; exact hL
                      case rel => exact ⟨L, o.set a (-1), rfl, hLN, rfl, by simp [hol], HW2, oO, hu⟩
end Go.Proofs.YtigaopfhjimpmaaDoor
