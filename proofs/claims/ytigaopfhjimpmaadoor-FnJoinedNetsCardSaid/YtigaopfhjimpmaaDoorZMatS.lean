/- As many pairs as can be: the reference's walk. -/
import Derived.Test.YtigaopfhjimpmaaDoorZMatI
import Derived.Test.YtigaopfhjimpmaaDoorJ1
import Derived.StillTailTactics
namespace Go.Proofs.YtigaopfhjimpmaaDoor
open Go.RowKit

theorem idx_facts {N f t : Nat} (hN : N ≤ 12) (hf : f < N) (ht : t < N) : IntKind.i64.wrap ((f : Int) * (N : Int)) = (f : Int) * (N : Int) ∧ IntKind.i64.wrap ((f : Int) * (N : Int) + (t : Int)) = ((f * N + t : Nat) : Int) ∧ f * N + t < N * N ∧ wrap64 ((f : Int) * (N : Int)) = (f : Int) * (N : Int) ∧ wrap64 ((f : Int) * (N : Int) + (t : Int)) = ((f * N + t : Nat) : Int) := by
  have h1 : f * N ≤ 12 * 12 := Nat.mul_le_mul (by omega) hN
  have e : (f : Int) * (N : Int) = ((f * N : Nat) : Int) := by push_cast; rfl
  have h2 := cell_lt hf ht
  rw [e]
  generalize f * N = z at *
  exact ⟨IntWalk.i64_in _ (by omega), by rw [IntWalk.i64_in _ (by omega)]; omega, h2, by unfold wrap64; omega, by unfold wrap64; omega⟩
theorem or_pow {N c k : Nat} (hN : N ≤ 12) (hk : k < N) (hc : c < 2 ^ N) : bits .or .i64 (c : Int) ((2 : Int) ^ k) = ((c ||| 2 ^ k : Nat) : Int) ∧ (2 : Int) ^ k ≤ 4096 ∧ 1 ≤ (2 : Int) ^ k ∧ c ||| 2 ^ k < 2 ^ N := by
  have h := Nat.pow_le_pow_right (n := 2) (by omega) (show k ≤ 12 by omega)
  have h0 := Nat.two_pow_pos k
  have h1 := pow12 hN
  have e : ((2 ^ k : Nat) : Int) = (2 : Int) ^ k := by exact_mod_cast rfl
  rw [← e]
  exact ⟨i64_or_nat c (2 ^ k) (by omega) (by omega), by omega, by omega, Nat.or_lt_two_pow hc (Nat.pow_lt_pow_right (by omega) hk)⟩
theorem or_gt {c k : Nat} (h : c.testBit k = false) : c < c ||| 2 ^ k := by
  rcases Nat.lt_or_eq_of_le (Nat.left_le_or (n := c) (m := 2 ^ k)) with h1 | h1
  · exact h1
  · have h2 : (c ||| 2 ^ k).testBit k = true := by rw [Nat.testBit_or, Nat.testBit_two_pow_self]; simp
    rw [← h1, h] at h2; cases h2
theorem bit_test0M (m k : Nat) (hm : m < 9223372036854775808) : (bits .and .i64 ((m : Int) / 2 ^ k) 1 == 0) = !m.testBit k := by
  have h1 := bit_test m k hm
  have hd : m / 2 ^ k ≤ m := Nat.div_le_self _ _
  rw [div_pow_cast, show (1 : Int) = ((1 : Nat) : Int) from rfl, i64_and_nat (m / 2 ^ k) 1 (by omega) (by omega), Nat.and_one_is_mod] at h1 ⊢
  rw [← h1]
  by_cases h : m / 2 ^ k % 2 = 1
  · rw [h]; rfl
  · rw [show m / 2 ^ k % 2 = 0 by omega]; rfl
theorem vT_low (J : Nat → Nat → Bool) (T : Nat → Nat) {N S : Nat} (hN : N ≤ 12) (h0 : S ≠ 0) (hS : S < 2 ^ N) : ∀ k, k ≤ lowN S + 1 → vT J T S k = T (rm S (lowN S))
  | 0, _ => rfl
  | k + 1, hk => by
    obtain ⟨a, b, c⟩ := low_ok h0 hS hN
    have h1 : (rm S (lowN S)).testBit k = false := by
      rw [rm_bit hS hN a]
      by_cases e : k = lowN S
      · simp [e]
      · rw [c k (by omega)]; rfl
    rw [vT, h1, Bool.false_and, if_neg (by decide)]
    exact vT_low J T hN h0 hS k (by omega)
theorem cnd_low (J : Nat → Nat → Bool) {N S : Nat} (hN : N ≤ 12) (h0 : S ≠ 0) (hS : S < 2 ^ N) (k : Nat) (hk : k ≤ lowN S) : cnd J N S k = false := by
  obtain ⟨a, b, c⟩ := low_ok h0 hS hN
  have h1 : (rm S (lowN S)).testBit k = false := by
    rw [rm_bit hS hN a]
    by_cases e : k = lowN S
    · simp [e]
    · rw [c k (by omega)]; rfl
  unfold cnd
  rw [h1, Bool.false_and, Bool.false_and]
theorem add_facts {y : Nat} (hy : y ≤ 4096) : wrap64 (1 + (y : Int)) = 1 + (y : Int) ∧ IntKind.i64.wrap (1 + (y : Int)) = 1 + (y : Int) := ⟨by unfold wrap64; omega, IntWalk.i64_in _ (by omega)⟩
theorem max_nat (v y : Nat) : max (v : Int) (1 + (y : Int)) = ((max v (1 + y) : Nat) : Int) := by omega
theorem or_or (c a b : Nat) : c ||| a ||| b = c ||| b ||| a := by rw [Nat.or_assoc, Nat.or_comm a b, ← Nat.or_assoc]
theorem set_get {o : List Int} {i : Nat} {x : Int} (h : o.getD i 0 = x) : o.set i x = o := by
  subst h
  apply List.ext_getElem (by simp)
  intro j h1 h2
  rw [List.getElem_set]
  by_cases e : i = j
  · subst e; simp [List.getD, List.getElem?_eq_getElem h2]
  · rw [if_neg e]
theorem l00Max_m (a b : Int) (w : World) : Calls Tryd.prog 24 #[.int .i64 a, .int .i64 b] w fun e w' => e = .returned (.int .i64 (max a b)) ∧ w' = w := by
  by_cases h : b < a
  · have H := Lib.hid (show max a b = a by omega)
    go_enter Tryd.func24, Tryd.ntmps24
    go_wp2
    go_ret
    exact ⟨ret_int H.out.symm, rfl⟩
  · have H := Lib.hid (show max a b = b by omega)
    go_enter Tryd.func24, Tryd.ntmps24
    go_wp2
    go_ret
    exact ⟨ret_int H.out.symm, rfl⟩
set_option maxHeartbeats 800000 in
theorem l03None_m (n : Nat) (w : World) (hn : n ≤ 1000) :
    Calls Tryd.prog 25 #[.int .i64 n] w (RetI 2 (List.replicate n (-1)) w) := by
  have he : OwnI 2 w.heap.size (w.alloc (.cells #[] 2)) (some ⟨w.heap.size, 0, none⟩) 0 0 (List.replicate 0 (-1)) := World.ownsRow_lit (e := 2) (base := w.heap.size) (size := 1) w #[] 0 (Nat.le_refl _) (Nat.zero_le _) rfl
  have hb0 := (Below.refl w.heap.size w).alloc (Nat.le_refl _) (.cells #[] 2)
  go_enter Tryd.func25, Tryd.ntmps25
  go_wp2_with fail
  generalize w.alloc (.cells #[] 2) = W at *
  go_loopg [0, 3] n (fun r nv ov wi => ∃ (k : Nat) (B : Option Addr) (d : Nat), r = n - k ∧ k ≤ n ∧ nv = .int .i64 ((n - k : Nat) : Int) ∧ ov = .slice B k d ∧ OwnI 2 w.heap.size wi B k d (List.replicate k (-1)) ∧ Below w.heap.size w wi)
  case atStart => exact ⟨0, _, 0, rfl, by omega, rfl, rfl, he, hb0⟩
  case round =>
    clear he hb0
    obtain ⟨k, B, d, hr, hk, rfl, rfl, ob, hbw⟩ := hrel
    have HR := Lib.hid hr
    clear hr
    have hsz := hbw.size
    by_cases hlt : k < n
    · obtain ⟨t, ht⟩ : ∃ t, n - k = t + 1 := ⟨n - k - 1, by omega⟩
      have HT := Lib.hid (show n - (k + 1) = t by omega)
      have HRP := Lib.hid (show List.replicate k (-1 : Int) ++ [-1] = List.replicate (k + 1) (-1) by rw [List.replicate_succ'])
      rw [ht]
      have ht2 : t ≤ 1000 := by omega
      have v1 : (((t + 1 : Nat) : Int)) > 0 := by omega
      clear ht
      go_wp2_with (at_builtin; (refine wp_append_int _ _ rfl _ _ _ rfl 2 w.heap.size Tryd.underlying26 info64 B k d _ rfl ob rfl (by omega) hsz ?_; intro g5 c5 w6 o6 u6 b6 hg6))
      rw [HRP.out] at o6
      go_roundg (n - (k + 1))
      case measure => rw [HR.out]; omega
      case rel => exact ⟨k + 1, _, c5, rfl, by omega, by rw [HT.out], rfl, o6, hbw.trans b6⟩
    · have e : n = k := by omega
      subst e
      rw [Nat.sub_self]
      go_wp2_with fail
      go_ret
      exact ⟨_, _, _, rfl, ob, hbw⟩
set_option maxRecDepth 100000 in
set_option maxHeartbeats 3200000 in
theorem specMatchAll_r (nodes : Int) (A : Option Addr) (n c : Nat) (xs : List ArcR) (w : World) (h : ArcsAt w A n xs) (hn0 : n ≤ maxLen) :
    Calls Tryd.prog 6 #[.agg #[.int .i64 nodes, .slice A n c]] w (RetLB 2 (maV nodes xs) (maB nodes xs) w) := by
  have HX := Lib.hid h.len
  have hW : Below w.heap.size w (w.alloc (.cells #[.int .i64 nodes, .slice A n c] 31)) := (Below.refl _ _).alloc (Nat.le_refl _) _
  have h3 := h.alloc (.cells #[.int .i64 nodes, .slice A n c] 31)
  have HB := Lib.hid (Blk.new w 31 #[.int .i64 nodes, .slice A n c])
  have hlt0 : w.heap.size < (w.alloc (.cells #[.int .i64 nodes, .slice A n c] 31)).heap.size := by simp
  have HAlt := Lib.hid (fun ad (e : A = some ad) (h0 : 0 < n) => show ad.block < w.heap.size from by
    obtain ⟨ad', e2, h5, _⟩ := h.at_ h0
    rw [e] at e2; injection e2 with e2; subst e2; exact h5)
  clear h
  cases hv : validB nodes xs
  · have HS := Lib.hid (show maB nodes xs = false by unfold maB; rw [hv]; rfl)
    go_enter Tryd.func6, Tryd.ntmps6
    go_wp2_with fail
    generalize w.alloc (.cells #[.int .i64 nodes, .slice A n c] 31) = W at *
    refine (l03Is_any _ nodes A n c xs _ HB.out h3 hn0).mono ?_
    rw [hv]
    rintro e w1 ⟨rfl, hd⟩
    go_wp2_with fail
    go_ret2
    exact ⟨none, 0, 0, ret_LBq HS.out.symm, by rw [maV_no HS.out]; exact OwnI.nil_ _ _ _, below_ext hW hW.size hd.below⟩
  · obtain ⟨v0, v1, v2, _⟩ := valid_bd hv
    rw [HX.out] at v2
    obtain ⟨N, rfl⟩ := Int.eq_ofNat_of_zero_le (show 0 ≤ nodes by omega)
    have HV := Lib.hid hv
    by_cases hN12 : 12 < N
    · have HS := Lib.hid (show maB N xs = false by unfold maB; rw [hv, decide_eq_false (by omega)]; rfl)
      have d1 : decide ((N : Int) > 12) = true := decide_eq_true (by omega)
      have d2 : (12 : Int) < (N : Int) := by omega
      go_enter Tryd.func6, Tryd.ntmps6
      go_wp2_with fail
      generalize w.alloc (.cells #[.int .i64 N, .slice A n c] 31) = W at *
      refine (l03Is_any _ N A n c xs _ HB.out h3 hn0).mono ?_
      rw [hv]
      rintro e w1 ⟨rfl, hd⟩
      have e1 := hd.below
      have q0 := (HB.out.ext e1).cell 0
      go_wp2_with fail
      go_ret2
      exact ⟨none, 0, 0, ret_LBq HS.out.symm, by rw [maV_no HS.out]; exact OwnI.nil_ _ _ _, below_ext hW hW.size e1⟩
    · have HS := Lib.hid (show maB N xs = true by unfold maB; rw [hv, decide_eq_true (by omega)]; rfl)
      have HVV := Lib.hid (show maV N xs = matW (adjT xs n) N (2 ^ N - 1) (List.replicate N (-1)) by unfold maV; rw [if_pos HS.out, Int.toNat_natCast, HX.out])
      have HIN := Lib.hid (arcs_in hv)
      have HBL := Lib.hid (fun k (hk : k ≤ n) => bL_ok (N := N) (arcs_in hv) k (by rw [HX.out]; exact hk))
      rw [HX.out] at HIN
      have hvb := Lib.hid ((valid_bd hv).2.2.2)
      rw [HX.out] at hvb
      have d1 : decide ((N : Int) > 12) = false := decide_eq_false (by omega)
      have d2 : ¬ (12 : Int) < (N : Int) := by omega
      have hN12' : N ≤ 12 := by omega
      have hp12 := pow12 (N := N) (by omega)
      have hp0 := Nat.two_pow_pos N
      have HP := Lib.hid (show ((2 ^ N : Nat) : Int) = (2 : Int) ^ N from by exact_mod_cast rfl)
      have hpb : (2 : Int) ^ N ≤ 4096 := by rw [← HP.out]; omega
      have hpb2 : 1 ≤ (2 : Int) ^ N := by rw [← HP.out]; omega
      have hNN : N * N ≤ 144 := Nat.mul_le_mul hN12' hN12'
      have HQ := Lib.hid (show (N : Int) * (N : Int) = ((N * N : Nat) : Int) from by push_cast; rfl)
      have hq1 : (N : Int) * (N : Int) ≤ 144 := by rw [HQ.out]; omega
      have hq2 : 0 ≤ (N : Int) * (N : Int) := by rw [HQ.out]; omega
      go_enter Tryd.func6, Tryd.ntmps6
      go_wp2_with fail
      generalize w.alloc (.cells #[.int .i64 N, .slice A n c] 31) = W at *
      refine (l03Is_any _ N A n c xs _ HB.out h3 hn0).mono ?_
      rw [hv]
      rintro e w1 ⟨rfl, hd⟩
      have e1 := hd.below
      clear hv hd
      have K1 := Lib.hid (HB.out.ext e1)
      have q0 := K1.out.cell 0
      have h4 := h3.below e1
      have hle1 := e1.size
      go_wp2_with (at_make; refine wp_make_valsV _ rfl _ _ 52 rfl (.bool false) 1 rfl (by omega) 4 Tryd.underlying52 infoBV .i64 .i64 _ _ (N * N) rfl rfl HQ.out HQ.out (by omega) ?_; intro w2 gJ oJ b2; have p0 := (K1.out.ext b2).cell 0; have p1 := (K1.out.ext b2).cell 1)
      have hJlo : w1.heap.size ≤ gJ := (OwnC.lt oJ rfl).1
      have hJhi : gJ < w2.heap.size := (OwnC.lt oJ rfl).2
      have K2 := Lib.hid (K1.out.ext b2)
      have h5 := h4.below b2
      have HSX := Lib.hid (show ∀ ad, A = some ad → 0 < n → ¬ blk (some ⟨gJ, 0, none⟩) ad.block from fun ad hq hn1 => by
        rintro ⟨z, z1, z2⟩
        injection z1 with z1
        subst z1
        have := HAlt.out ad hq hn1
        have z2 : gJ = ad.block := z2
        omega)
      have HSB := Lib.hid (show ¬ blk (some ⟨gJ, 0, none⟩) w.heap.size from by
        rintro ⟨z, z1, z2⟩
        injection z1 with z1
        subst z1
        have z2 : gJ = w.heap.size := z2
        omega)
      rw [show List.replicate (N * N) (Value.bool false) = (bL xs N 0).map Value.bool by simp [bL]] at oJ
      clear q0 p0 p1 h4
      have p1 := K2.out.cell 1
      go_loopg [5, 31] n (fun r _ iv wr => ∃ k : Nat, r = n - k ∧ k ≤ n ∧ iv = .int .i64 (k : Int) ∧ OwnC 4 w1.heap.size 1 wr (some ⟨gJ, 0, none⟩) (N * N) (N * N) ((bL xs N k).map Value.bool) ∧ Upd (blk (some ⟨gJ, 0, none⟩)) w2 wr)
      case atStart => exact ⟨0, by omega, by omega, rfl, oJ, Upd.refl _ _⟩
      case round =>
        clear oJ p1
        obtain ⟨k, hr, hk, rfl, oJ, hu⟩ := hrel
        have HR := Lib.hid hr
        clear hr
        obtain ⟨wo, rfl⟩ : ∃ wo : World, wo = wr := ⟨_, rfl⟩
        have K3 := Lib.hid (K2.out.upd hu HSB.out)
        have p0 := K3.out.cell 0
        have p1 := K3.out.cell 1
        by_cases hkn : k < n
        · skip
          --FAST{
          obtain ⟨f1, f2, f3⟩ := HIN.out k hkn
          obtain ⟨⟨a0, _⟩, ⟨b0, _⟩, _⟩ := hvb.out k hkn
          have h6 := h5.updM hu HSX.out
          obtain ⟨ad, rfl, had, k0, k1, _, _⟩ := h6.at_ hkn
          have HST := Lib.hid (show bL xs N (k + 1) = ((bL xs N k).set (frN xs k * N + toN xs k) true).set (toN xs k * N + frN xs k) true from rfl)
          have HFR := Lib.hid (show (xs.getD k default).fr = ((frN xs k : Nat) : Int) from by unfold frN; omega)
          have HTO := Lib.hid (show (xs.getD k default).to_ = ((toN xs k : Nat) : Int) from by unfold toN; omega)
          have HARC := Lib.hid (fun (W : World) (hW2 : Upd (blk (some ⟨gJ, 0, none⟩)) wo W) => show W.cell? (ad.add (k * 4)) = some (.int .i64 ((frN xs k : Nat) : Int)) ∧ W.cell? { block := (ad.add (k * 4)).block, off := (ad.add (k * 4)).off + 1 } = some (.int .i64 ((toN xs k : Nat) : Int)) from by
            obtain ⟨ad2, e2, _, r0, r1, _, _⟩ := (h6.updM hW2 HSX.out).at_ hkn
            cases e2
            rw [← HFR.out, ← HTO.out]
            exact ⟨r0, r1⟩)
          rw [HFR.out] at k0
          rw [HTO.out] at k1
          have hxl := (HBL.out k hk).1
          have i3 := cell_lt f1 f2
          have j3 := cell_lt f2 f1
          have HI := Lib.hid (idx_facts hN12' f1 f2)
          have HI2 := Lib.hid (idx_facts hN12' f2 f1)
          generalize bL xs N k = l at *
          generalize frN xs k = f at *
          generalize toN xs k = t at *
          generalize hx1 : f * N + t = x1 at *
          generalize hx2 : t * N + f = x2 at *
          have c1 := OwnC.cell oJ (j := x1) (by omega)
          have g1 := OwnC.free oJ x1
          have o2 := OwnC.set oJ x1 (.bool true)
          have u2 := hu.setCell (p := ⟨gJ, x1, none⟩) (.inl ⟨_, rfl, rfl⟩) (.bool true)
          rw [← List.map_set] at o2
          have hkk : (k : Int) < (n : Int) := by omega
          have i6 : (x1 : Int) < ((N * N : Nat) : Int) := by omega
          rw [List.getElem?_map, List.getElem?_eq_getElem (by omega), Option.map_some] at c1
          generalize l[x1]'(by omega) = bv at c1
          clear hx1 hx2 a0 b0
          have i7 : (x1 : Int) < (N : Int) * (N : Int) := by rw [HQ.out]; exact i6
          have HU3 := Lib.hid (((Upd.refl (blk (some ⟨gJ, 0, none⟩)) wo).setCell (p := ⟨gJ, x1, none⟩) (.inl ⟨_, rfl, rfl⟩) (.bool true)).drew)
          have r0 := (K3.out.upd HU3.out HSB.out).cell 0
          have r1 := (K3.out.upd HU3.out HSB.out).cell 1
          have r2 := (HARC.out _ HU3.out).1
          have r3 := (HARC.out _ HU3.out).2
          go_upto_region 7 with (fail)
          obtain ⟨i1, i2, _, i4, i5⟩ := HI.out
          go_region_held3 (fun w' => w'.cell? ⟨w.heap.size, 0, none⟩ = some (.int .i64 (N : Int)) ∧ w'.cell? ⟨w.heap.size, 1, none⟩ = some (.slice (some ad) n c) ∧ w'.cell? (ad.add (k * 4)) = some (.int .i64 (f : Int)) ∧ w'.cell? { block := (ad.add (k * 4)).block, off := (ad.add (k * 4)).off + 1 } = some (.int .i64 (t : Int)))
            (first | exact ⟨p0, p1, k0, k1⟩ | exact ⟨r0, r1, r2, r3⟩)
            (fail)
          have o3 := OwnC.drew o2
          have u3 := u2.drew
          have HU3' := Lib.hid HU3.out
          have hxl2 : (l.set x1 true).length = N * N := by rw [List.length_set]; exact hxl
          clear i1 i2 i4 i5 o2 u2 c1 g1 p0 p1 k0 k1
          generalize (wo.setCell ⟨gJ, x1, none⟩ (.bool true)).drew = W3 at *
          have c2 := OwnC.cell o3 (j := x2) (by omega)
          have g2 := OwnC.free o3 x2
          have o4 := OwnC.set o3 x2 (.bool true)
          have u4 := u3.setCell (p := ⟨gJ, x2, none⟩) (.inl ⟨_, rfl, rfl⟩) (.bool true)
          rw [← List.map_set, ← HST.out] at o4
          rw [List.getElem?_map, List.getElem?_eq_getElem (by omega), Option.map_some] at c2
          generalize (l.set x1 true)[x2]'(by omega) = bv2 at c2
          have j6 : (x2 : Int) < ((N * N : Nat) : Int) := by omega
          have j7 : (x2 : Int) < (N : Int) * (N : Int) := by rw [HQ.out]; exact j6
          have HU4 := Lib.hid (HU3'.out.trans (((Upd.refl (blk (some ⟨gJ, 0, none⟩)) W3).setCell (p := ⟨gJ, x2, none⟩) (.inl ⟨_, rfl, rfl⟩) (.bool true)).drew))
          have m0 := (K3.out.upd HU4.out HSB.out).cell 0
          have m1 := (K3.out.upd HU4.out HSB.out).cell 1
          have m2 := (HARC.out _ HU4.out).1
          have m3 := (HARC.out _ HU4.out).2
          go_upto_region 8 with (fail)
          obtain ⟨i1, i2, _, i4, i5⟩ := HI2.out
          go_region_held3 (fun w' => w'.cell? ⟨w.heap.size, 0, none⟩ = some (.int .i64 (N : Int)) ∧ w'.cell? ⟨w.heap.size, 1, none⟩ = some (.slice (some ad) n c) ∧ w'.cell? (ad.add (k * 4)) = some (.int .i64 (f : Int)) ∧ w'.cell? { block := (ad.add (k * 4)).block, off := (ad.add (k * 4)).off + 1 } = some (.int .i64 (t : Int)))
            (first | exact ⟨r0, r1, r2, r3⟩ | exact ⟨m0, m1, m2, m3⟩)
            (fail)
          have o5 := OwnC.drew o4
          have u5 := u4.drew
          clear i1 i2 i4 i5 o4 u4 c2 g2
          go_wp2_with fail
          go_roundg (n - (k + 1))
          case measure => rw [HR.out]; exact Nat.sub_lt_sub_left hkn (Nat.lt_succ_self k)
          case rel => exact ⟨k + 1, rfl, hkn, by first | rfl | go_num, o5, u5⟩
          --FAST}
        · obtain rfl : n = k := by omega
          obtain ⟨hbl, hJ⟩ := HBL.out n (Nat.le_refl _)
          have HJ := Lib.hid hJ
          have hbw := (b2.trans ((hu.toBelow (B := w1.heap.size) b2.size (fun b hb2 ⟨z, z1, z2⟩ => by
            injection z1 with z1
            subst z1
            have z2 : gJ = b := z2
            omega))))
          have hbW := below_ext hW hW.size (ext_trans e1 hbw)
          generalize bL xs N n = bl at *
          generalize hAJ : adjT xs n = J at *
          clear hAJ hJ h5 hu
          have hJhi2 : gJ < wo.heap.size := (OwnC.lt oJ rfl).2
          go_wp2_with (at_make; refine wp_make_ints _ rfl _ _ 26 rfl 2 Tryd.underlying26 info64 .i64 .i64 _ _ (2 ^ N) rfl rfl (by first | exact HP.out.symm | (rw [HP.out]; omega)) (by first | exact HP.out.symm | (rw [HP.out]; omega)) (by omega) ?_; intro w5 gM oM b5; have p0 := (K3.out.ext b5).cell 0)
          have K4 := Lib.hid (K3.out.ext b5)
          have oJ5 := OwnC.below oJ b5
          have hbW5 := ext_trans hbW b5
          have b5' := Lib.hid b5
          have hMlo : wo.heap.size ≤ gM := (OwnI.lt oM rfl).1
          have gMhi : gM < w5.heap.size := (OwnI.lt oM rfl).2
          have hJM : gJ ≠ gM := by omega
          have hw1 : w.heap.size < wo.heap.size := by have := hbw.size; have := hW.size; omega
          have HSBM := Lib.hid (show ¬ blk (some ⟨gM, 0, none⟩) w.heap.size from by
            rintro ⟨z, z1, z2⟩
            injection z1 with z1
            subst z1
            have z2 : gM = w.heap.size := z2
            omega)
          have HSJM := Lib.hid (show ∀ ad : Addr, (some ⟨gJ, 0, none⟩ : Option Addr) = some ad → ¬ blk (some ⟨gM, 0, none⟩) ad.block from fun ad ha => by
            cases ha
            rintro ⟨z, z1, z2⟩
            injection z1 with z1
            subst z1
            exact hJM z2.symm)
          rw [← mS_full J N] at oM
          have HSTART := Lib.hid (show ((2 ^ N - 1 : Nat) : Int) - 1 = (2 : Int) ^ N - 1 - 1 from by rw [← HP.out]; omega)
          clear oJ b5 p0 p1
          go_wp2_with fail
          go_loopg [8] (2 ^ N - 1) (fun r sv wr => ∃ m : Nat, r = m ∧ m ≤ 2 ^ N - 1 ∧ sv = .int .i64 ((m : Int) - 1) ∧ OwnI 2 wo.heap.size wr (some ⟨gM, 0, none⟩) (2 ^ N) (2 ^ N) (mS J N m) ∧ Upd (blk (some ⟨gM, 0, none⟩)) w5 wr)
          case atStart => exact ⟨2 ^ N - 1, rfl, Nat.le_refl _, by first | (rw [HSTART.out]) | go_num, oM, Upd.refl _ _⟩
          case round =>
            clear oM
            obtain ⟨m, hr, hm, rfl, oM, hu⟩ := hrel
            have HR := Lib.hid hr
            clear hr
            obtain ⟨wq, rfl⟩ : ∃ wq : World, wq = wr := ⟨_, rfl⟩
            cases m with
            | succ c0 =>
              --FAST{
              have e0 : ((c0 + 1 : Nat) : Int) - 1 = (c0 : Int) := by omega
              rw [e0]
              clear e0
              have hc1 : c0 < 2 ^ N := by omega
              have hS0 : (2 ^ N - 1) ^^^ c0 ≠ 0 := fun e => by have := (cmp_zero hc1).1 e; omega
              have hSl := cmp_lt hc1
              obtain ⟨l1, l2, l3⟩ := low_ok (N := N) hS0 hSl hN12'
              have HBIT := Lib.hid (fun j (hj : j < N) => cmp_bit (N := N) (c := c0) hj)
              have hc4 : (c0 : Int) ≤ 4096 := by omega
              have hge : decide ((c0 : Int) ≥ 0) = true := decide_eq_true (by omega)
              go_wp2_with fail
              go_loopg [9] N (fun r iv wi => ∃ i : Nat, r = N - i ∧ i ≤ lowN ((2 ^ N - 1) ^^^ c0) ∧ iv = .int .i64 (i : Int) ∧ wi = wq)
              case atStart => exact ⟨0, by omega, Nat.zero_le _, rfl, rfl⟩
              case round =>
                obtain ⟨i, hr, hi, rfl, rfl⟩ := hrel
                have HRI := Lib.hid hr
                clear hr
                have hbt := bit_test c0 i (by omega)
                have hiN : i < N := Nat.lt_of_le_of_lt hi l1
                by_cases hil : i < lowN ((2 ^ N - 1) ^^^ c0)
                · have hcb : c0.testBit i = true := by
                    have h1 := l3 i hil
                    rw [HBIT.out i hiN] at h1
                    simpa using h1
                  rw [hcb] at hbt
                  go_wp2_with fail
                  go_roundg (N - (i + 1))
                  case measure => rw [HRI.out]; exact Nat.sub_lt_sub_left hiN (Nat.lt_succ_self i)
                  case rel => exact ⟨i + 1, rfl, hil, by first | rfl | go_num, rfl⟩
                · have hia : lowN ((2 ^ N - 1) ^^^ c0) = i := by omega
                  have hcb : c0.testBit i = false := by
                    have h1 := l2
                    rw [hia, HBIT.out i hiN] at h1
                    simpa using h1
                  rw [hcb] at hbt
                  have HRM := Lib.hid (cmp_or hN12' hc1 hiN)
                  obtain ⟨hor, hp1, hp2, horN⟩ := or_pow hN12' hiN hc1
                  have hgt := or_gt hcb
                  have HRM2 := Lib.hid (fun k (hk : k < N) => (cmp_or hN12' horN hk).trans (congrArg (fun z => rm z k) HRM.out))
                  have HMID := Lib.hid (fun (x : Int) j (hj : j < 2 ^ N) (h : c0 < j) => mS_mid J N x hj h)
                  have HATS := Lib.hid (fun (x : Int) => mS_at J N x hc1)
                  have HNXT := Lib.hid (mS_next J N hc1)
                  have HVN := Lib.hid (pm_eq J N hN12' hS0 hSl)
                  have HVB := Lib.hid (fun k (hk : k ≤ N) => vT_le J N hN12' hS0 hSl (fun j hj => pm_le J N hN12' j j (Nat.le_refl _) (Nat.lt_trans hj hSl)) k hk)
                  have HPB := Lib.hid (fun j (hj : j < 2 ^ N) => pm_le J N hN12' j j (Nat.le_refl _) hj)
                  have HV0 := Lib.hid (vT_low J (pm J N) hN12' hS0 hSl (lowN ((2 ^ N - 1) ^^^ c0) + 1) (Nat.le_refl _))
                  have HVK := Lib.hid (fun k => show vT J (pm J N) ((2 ^ N - 1) ^^^ c0) (k + 1) = if ((rm ((2 ^ N - 1) ^^^ c0) (lowN ((2 ^ N - 1) ^^^ c0))).testBit k && J (lowN ((2 ^ N - 1) ^^^ c0)) k) = true then max (vT J (pm J N) ((2 ^ N - 1) ^^^ c0) k) (1 + pm J N (rm (rm ((2 ^ N - 1) ^^^ c0) (lowN ((2 ^ N - 1) ^^^ c0))) k)) else vT J (pm J N) ((2 ^ N - 1) ^^^ c0) k from rfl)
                  have HTB := Lib.hid (fun k (h1 : i < k) (hk : k < N) => show (rm ((2 ^ N - 1) ^^^ c0) i).testBit k = !c0.testBit k from by
                    rw [rm_bit hSl hN12' hiN, HBIT.out k hk, decide_eq_true (show k ≠ i by omega), Bool.and_true])
                  rw [hia] at HV0 HVK
                  have HSL := Lib.hid hSl
                  have HRL := Lib.hid (rm_le ((2 ^ N - 1) ^^^ c0) i)
                  have hcA := OwnI.cell oM (j := c0 ||| 2 ^ i) horN
                  rw [mS_hi J N horN hgt, HRM.out] at hcA
                  have hcS := OwnI.cell oM hc1
                  have hfS := OwnI.free oM c0
                  have horI := pow_cast_lt horN
                  have hcI := pow_cast_lt hc1
                  have HGT := Lib.hid hgt
                  have HJC := Lib.hid (fun (W : World) (u : Upd (blk (some ⟨gM, 0, none⟩)) w5 W) k (hk : k < N) => show W.cell? ⟨gJ, i * N + k, none⟩ = some (.bool (J i k)) from by
                    have h1 := OwnC.cell (OwnC.upd oJ5 u HSJM.out) (j := i * N + k) (by rw [Nat.mul_one]; exact cell_lt hiN hk)
                    rw [List.getElem?_map, List.getElem?_eq_getElem (by rw [hbl]; exact cell_lt hiN hk), Option.map_some] at h1
                    have h2 := HJ.out i k hiN hk
                    simp only [List.getD, List.getElem?_eq_getElem (show i * N + k < bl.length by rw [hbl]; exact cell_lt hiN hk), Option.getD_some] at h2
                    rw [h2] at h1
                    exact h1)
                  have HKB := Lib.hid (fun (W : World) (u : Upd (blk (some ⟨gM, 0, none⟩)) w5 W) => (K4.out.upd u HSBM.out).cell 0)
                  have oS := OwnI.set oM c0 (pm J N (rm ((2 ^ N - 1) ^^^ c0) i) : Int)
                  have uS := hu.setCell (p := ⟨gM, c0, none⟩) (.inl ⟨_, rfl, rfl⟩) (.int .i64 (pm J N (rm ((2 ^ N - 1) ^^^ c0) i) : Int))
                  rw [← HV0.out] at oS uS hcA
                  generalize (mS J N (c0 + 1)).getD c0 0 = z0 at hcS
                  generalize hci : c0 ||| 2 ^ i = ci at *
                  generalize hSS : (2 ^ N - 1) ^^^ c0 = S at *
                  have HCI := Lib.hid hci
                  clear HRM hgt hcb oM hu hia hS0 l1 l2 l3 hSl hSS hci hil hi HBIT
                  generalize hvv : vT J (pm J N) S (i + 1) = vv at *
                  have HVV0 := Lib.hid hvv
                  clear hvv
                  go_wp2_with fail
                  go_loopg [10] (N - (i + 1)) (fun r kv wi => ∃ k : Nat, r = N - k ∧ i + 1 ≤ k ∧ k ≤ N ∧ kv = .int .i64 (k : Int) ∧ OwnI 2 wo.heap.size wi (some ⟨gM, 0, none⟩) (2 ^ N) (2 ^ N) ((mS J N (c0 + 1)).set c0 (vT J (pm J N) S k : Int)) ∧ Upd (blk (some ⟨gM, 0, none⟩)) w5 wi)
                  case atStart => exact ⟨i + 1, rfl, Nat.le_refl _, hiN, by first | rfl | go_num, by rw [HVV0.out]; exact oS, uS⟩
                  case round =>
                    clear oS uS hfS hcS hcA hbt
                    obtain ⟨k, hr, hk1, hk, rfl, oM, hu⟩ := hrel
                    have HRK := Lib.hid hr
                    clear hr
                    obtain ⟨wk, rfl⟩ : ∃ wk : World, wk = wr := ⟨_, rfl⟩
                    have q0 := HKB.out wk hu
                    by_cases hkN : k < N
                    · have hbt := bit_test0M c0 k (by omega)
                      obtain ⟨i1, i2, i3, i4, i5⟩ := idx_facts hN12' hiN hkN
                      have cj := HJC.out wk hu k hkN
                      have HSTEP := HVK.out k
                      rw [HTB.out k hk1 hkN] at HSTEP
                      have HSTEP := Lib.hid HSTEP
                      have hkk : (k : Int) < (N : Int) := Int.ofNat_lt.2 hkN
                      have i6 : ((i * N + k : Nat) : Int) < ((N * N : Nat) : Int) := Int.ofNat_lt.2 i3
                      have i7 : ((i * N + k : Nat) : Int) < (N : Int) * (N : Int) := HQ.out ▸ i6
                      generalize i * N + k = ix at *
                      generalize hjk : J i k = jk at *
                      clear hjk
                      generalize c0.testBit k = tb at *
                      cases tb with
                      | true =>
                        have HE := Lib.hid (HSTEP.out.trans (if_neg (by simp)))
                        go_wp2_with fail
                        go_roundg (N - (k + 1))
                        case measure => rw [HRK.out]; exact Nat.sub_lt_sub_left hkN (Nat.lt_succ_self k)
                        case rel => exact ⟨k + 1, rfl, Nat.le_succ_of_le hk1, hkN, by first | rfl | go_num, by rw [HE.out]; exact oM, hu⟩
                      | false =>
                        cases jk with
                        | false =>
                          have HE := Lib.hid (HSTEP.out.trans (if_neg (by simp)))
                          go_wp2_with fail
                          go_roundg (N - (k + 1))
                          case measure => rw [HRK.out]; exact Nat.sub_lt_sub_left hkN (Nat.lt_succ_self k)
                          case rel => exact ⟨k + 1, rfl, Nat.le_succ_of_le hk1, hkN, by first | rfl | go_num, by rw [HE.out]; exact oM, hu⟩
                        | true =>
                          have HE := Lib.hid (HSTEP.out.trans (if_pos (by rfl)))
                          go_upto_region 23 with (fail)
                          have hgk := HGT.out
                          obtain ⟨hor2, hq1, hq2, horN2⟩ := or_pow hN12' hkN horN
                          have hgt2 : c0 < ci ||| 2 ^ k := Nat.lt_of_lt_of_le hgk Nat.left_le_or
                          have hcB := OwnI.cell oM (j := ci ||| 2 ^ k) horN2
                          rw [HMID.out _ _ horN2 hgt2, HRM2.out k hkN] at hcB
                          have hcS := OwnI.cell oM hc1
                          rw [HATS.out] at hcS
                          have hfS := OwnI.free oM c0
                          have hor2I := pow_cast_lt horN2
                          have HY := HPB.out (rm (rm S i) k) (Nat.lt_of_le_of_lt (Nat.le_trans (rm_le _ _) HRL.out) HSL.out)
                          have hy1 : pm J N (rm (rm S i) k) ≤ 4096 := Nat.le_trans HY (Nat.le_trans (rm_le _ _) (Nat.le_trans HRL.out (Nat.le_trans (Nat.le_of_lt HSL.out) hp12)))
                          have HMX := Lib.hid (max_nat (vT J (pm J N) S k) (pm J N (rm (rm S i) k)))
                          obtain ⟨hw1, hw2⟩ := add_facts hy1
                          have HSP := Lib.hid (shl_p (k := k) (Nat.le_trans (Nat.le_of_lt hkN) hN12'))
                          have HSPI := Lib.hid (shl_p (k := i) (Nat.le_trans (Nat.le_of_lt hiN) hN12'))
                          clear HY hgk hgt2 i1 i2 i3 i4 i5 i6 i7
                          generalize ci ||| 2 ^ k = cik at *
                          generalize pm J N (rm (rm S i) k) = y at *
                          generalize vT J (pm J N) S k = v at *
                          have oS := OwnI.set oM c0 (max (v : Int) (1 + (y : Int)))
                          have uS := hu.setCell (p := ⟨gM, c0, none⟩) (.inl ⟨_, rfl, rfl⟩) (.int .i64 (max (v : Int) (1 + (y : Int))))
                          rw [List.set_set] at oS
                          clear oM hu
                          obtain ⟨st1, st2, st3, st4⟩ := HSP.out
                          obtain ⟨si1, si2, si3, si4⟩ := HSPI.out
                          refine wp_region_still_tail 18 (by kernel_rfl) (by kernel_rfl) ?_
                          change wpStill _ _ wk.drew (fun a' => wpList _ _ _ _ a' wk.drew) _ _
                          simp only [List.take_succ_cons, List.take_zero, List.drop_succ_cons, List.drop_zero]
                          repeat still_step
                          still_call (l00Max_m _ _ _)
                          repeat still_step
                          refine wpStill_nil ?_
                          go_wp2_with fail
                          go_roundg (N - (k + 1))
                          case measure => rw [HRK.out]; exact Nat.sub_lt_sub_left hkN (Nat.lt_succ_self k)
                          case rel => exact ⟨k + 1, rfl, Nat.le_succ_of_le hk1, hkN, by first | rfl | go_num, by rw [HE.out, ← HMX.out]; exact oS.drew, uS.drew⟩
                    · obtain rfl : N = k := by omega
                      rw [← HVN.out, HNXT.out] at oM
                      go_wp2_with fail
                      go_roundg c0
                      case measure => rw [HR.out]; exact Nat.lt_succ_self c0
                      case rel => exact ⟨c0, rfl, by omega, by first | rfl | go_num, oM, hu⟩
              --FAST}
            | zero =>
              have e0 : ((0 : Nat) : Int) - 1 = -1 := rfl
              rw [e0]
              clear e0
              have hge : decide ((-1 : Int) ≥ 0) = false := rfl
              have K5 := Lib.hid (K4.out.upd hu HSBM.out)
              have q0 := K5.out.cell 0
              have oJ6 := OwnC.upd oJ5 hu HSJM.out
              have hbM := hu.toBelow (B := wo.heap.size) (by have : gM < w5.heap.size := gMhi; omega) (fun b hb2 ⟨z, z1, z2⟩ => by
                injection z1 with z1
                subst z1
                have z2 : gM = b := z2
                omega)
              have hbWM := ext_trans hbW (b5'.out.trans hbM)
              have hszq := hu.size
              clear hu hm
              go_wp2_with fail
              refine (l03None_m N _ (by omega)).mono ?_
              rintro e w6 ⟨AO, nO, cO, rfl, oO, b6⟩
              obtain rfl : N = nO := by have := oO.len; simp at this; exact this
              obtain ⟨gO, rfl, hOhi, hOlo, _, _⟩ := oO.pos (by omega)
              have K6 := Lib.hid (K5.out.ext b6)
              have hbW6 := ext_trans hbWM b6
              have hMhq : gM < wq.heap.size := (OwnI.lt oM rfl).2
              have oM6 := OwnI.below oM b6
              have oJ7 := OwnC.below oJ6 b6
              have HSO := Lib.hid (show ∀ b, b < wq.heap.size → ¬ blk (some ⟨gO, 0, none⟩) b from fun b hb2 ⟨z, z1, z2⟩ => by
                injection z1 with z1
                subst z1
                have z2 : gO = b := z2
                omega)
              have hJq : gJ < wq.heap.size := by omega
              have hwq : w.heap.size < wq.heap.size := by omega
              have HBO := Lib.hid (HSO.out w.heap.size hwq)
              have HJO := Lib.hid (show ∀ ad : Addr, (some ⟨gJ, 0, none⟩ : Option Addr) = some ad → ¬ blk (some ⟨gO, 0, none⟩) ad.block from fun ad ha => by cases ha; exact HSO.out gJ hJq)
              have HMO := Lib.hid (show ∀ ad : Addr, (some ⟨gM, 0, none⟩ : Option Addr) = some ad → ¬ blk (some ⟨gO, 0, none⟩) ad.block from fun ad ha => by cases ha; exact HSO.out gM hMhq)
              have HCJ := Lib.hid (fun (W : World) (u : Upd (blk (some ⟨gO, 0, none⟩)) w6 W) i k (hi : i < N) (hk : k < N) => show W.cell? ⟨gJ, i * N + k, none⟩ = some (.bool (J i k)) from by
                have h1 := OwnC.cell (OwnC.upd oJ7 u HJO.out) (j := i * N + k) (by rw [Nat.mul_one]; exact cell_lt hi hk)
                rw [List.getElem?_map, List.getElem?_eq_getElem (by rw [hbl]; exact cell_lt hi hk), Option.map_some] at h1
                have h2 := HJ.out i k hi hk
                simp only [List.getD, List.getElem?_eq_getElem (show i * N + k < bl.length by rw [hbl]; exact cell_lt hi hk), Option.getD_some] at h2
                rw [h2] at h1
                exact h1)
              have HCM := Lib.hid (fun (W : World) (u : Upd (blk (some ⟨gO, 0, none⟩)) w6 W) j (hj : j < 2 ^ N) => show W.cell? ⟨gM, j, none⟩ = some (.int .i64 (pm J N ((2 ^ N - 1) ^^^ j) : Int)) from by
                have := OwnI.cell (OwnI.upd oM6 u HMO.out) hj
                rw [mS_hi J N hj (Nat.zero_le _)] at this
                exact this)
              have HCB := Lib.hid (fun (W : World) (u : Upd (blk (some ⟨gO, 0, none⟩)) w6 W) => (K6.out.upd u HBO.out).cell 0)
              have HPB := Lib.hid (fun j (hj : j < 2 ^ N) => pm_le J N hN12' j j (Nat.le_refl _) hj)
              have HST := Lib.hid (show matW J N ((2 ^ N - 1) ^^^ 0) (List.replicate N (-1)) = maV N xs by rw [Nat.xor_zero]; exact HVV.out.symm)
              have p0 := HCB.out _ (Upd.refl _ _)
              clear oM oJ5 oJ6 oJ7 oM6 q0 hge
              go_wp2_with fail
              go_loopg [12, 13] N (fun r mv iv wr => ∃ (i c : Nat) (o : List Int), r = N - i ∧ i ≤ N ∧ c < 2 ^ N ∧ mv = .int .i64 (c : Int) ∧ iv = .int .i64 (i : Int) ∧ Hid (∀ j, j < i → c.testBit j = true) ∧ o.length = N ∧ Hid (∀ v, v < N → c.testBit v = false → o.getD v 0 = -1) ∧ Hid (matW J N ((2 ^ N - 1) ^^^ c) o = maV N xs) ∧ OwnI 2 wq.heap.size wr (some ⟨gO, 0, none⟩) N cO o ∧ Upd (blk (some ⟨gO, 0, none⟩)) w6 wr)
              case atStart => exact ⟨0, 0, List.replicate N (-1), rfl, Nat.zero_le _, hp0, rfl, rfl, Lib.hid (fun j hj => absurd hj (Nat.not_lt_zero _)), by simp, Lib.hid (fun v hv _ => by simp [List.getD, hv]), HST, oO, Upd.refl _ _⟩
              case round =>
                clear oO p0
                obtain ⟨i, c, o, hr, hi, hcN, rfl, rfl, HTB, hol, HNEG, HW, oO, hu⟩ := hrel
                have HR := Lib.hid hr
                clear hr
                obtain ⟨wp, rfl⟩ : ∃ wp : World, wp = wr := ⟨_, rfl⟩
                have q0 := HCB.out wp hu
                by_cases hiN : i < N
                · have hcB4 : c < 4096 := Nat.lt_of_lt_of_le hcN hp12
                  have hc4 : (c : Int) ≤ 4096 := Int.ofNat_le.2 (Nat.le_of_lt hcB4)
                  have hbt := bit_test c i (Nat.lt_trans hcB4 (by decide))
                  have hiI : (i : Int) < (N : Int) := Int.ofNat_lt.2 hiN
                  have HB1 := Lib.hid (fun j (h : c.testBit i = true) (hj : j < i + 1) => show c.testBit j = true from by
                    by_cases e : j = i
                    · rw [e]; exact h
                    · exact HTB.out j (by omega))
                  cases hcb : c.testBit i with
                  | true =>
                    have HB2 := Lib.hid (fun j hj => HB1.out j hcb hj)
                    rw [hcb] at hbt
                    clear hcb HB1
                    go_wp2_with fail
                    go_roundg (N - (i + 1))
                    case measure => rw [HR.out]; exact Nat.sub_lt_sub_left hiN (Nat.lt_succ_self i)
                    case rel => exact ⟨i + 1, c, o, rfl, hiN, hcN, rfl, by first | rfl | go_num, HB2, hol, HNEG, HW, oO, hu⟩
                  | false =>
                    rw [hcb] at hbt
                    have hSl := cmp_lt hcN
                    have hbit : ((2 ^ N - 1) ^^^ c).testBit i = true := by rw [cmp_bit hiN, hcb]; rfl
                    have HLW := Lib.hid (low_is hSl hN12' hiN hbit (fun j hj => by rw [cmp_bit (Nat.lt_trans hj hiN), HTB.out j hj]; rfl))
                    have hS0 : (2 ^ N - 1) ^^^ c ≠ 0 := fun e => by rw [e] at hbit; simp at hbit
                    have HHIT := Lib.hid (fun k hk h hb => matW_hit J N (o := o) hN12' hS0 hSl (k := k) hk h hb)
                    have HMISS := Lib.hid (fun hb => matW_miss J N (o := o) hN12' hS0 hSl hb)
                    have HCND := Lib.hid (fun k => show cnd J N ((2 ^ N - 1) ^^^ c) k = ((rm ((2 ^ N - 1) ^^^ c) (lowN ((2 ^ N - 1) ^^^ c))).testBit k && J (lowN ((2 ^ N - 1) ^^^ c)) k && decide (1 + pm J N (rm (rm ((2 ^ N - 1) ^^^ c) (lowN ((2 ^ N - 1) ^^^ c))) k) = pm J N ((2 ^ N - 1) ^^^ c))) from rfl)
                    have HLO := Lib.hid (fun k (hk : k ≤ lowN ((2 ^ N - 1) ^^^ c)) => cnd_low J hN12' hS0 hSl k hk)
                    rw [HLW.out] at HHIT HMISS HCND HLO
                    have HRT := Lib.hid (fun k (h1 : i < k) (hk : k < N) => show (rm ((2 ^ N - 1) ^^^ c) i).testBit k = !c.testBit k from by
                      rw [rm_bit hSl hN12' hiN, cmp_bit hk, decide_eq_true (show k ≠ i by omega), Bool.and_true])
                    obtain ⟨hor, hp1, hp2, horN⟩ := or_pow hN12' hiN hcN
                    have HRM := Lib.hid (cmp_or hN12' hcN hiN)
                    have HRM2 := Lib.hid (fun k (hk : k < N) => (cmp_or hN12' horN hk).trans (congrArg (fun z => rm z k) HRM.out))
                    have HSL := Lib.hid hSl
                    have HRL := Lib.hid (rm_le ((2 ^ N - 1) ^^^ c) i)
                    have HCMc := Lib.hid (fun (W : World) (u : Upd (blk (some ⟨gO, 0, none⟩)) w6 W) => HCM.out W u c hcN)
                    have HOI := Lib.hid (fun j => show (c ||| 2 ^ i).testBit j = (c.testBit j || decide (i = j)) from by rw [Nat.testBit_or, Nat.testBit_two_pow])
                    have hcI := pow_cast_lt hcN
                    have horI := pow_cast_lt horN
                    have HOR := Lib.hid (fun k => or_or c (2 ^ k) (2 ^ i))
                    generalize hci : c ||| 2 ^ i = ci at *
                    generalize hSS : (2 ^ N - 1) ^^^ c = S at *
                    have HCF := Lib.hid hcb
                    clear hS0 hbit hSl HLW hSS HB1
                    have HBI := Lib.hid (fun j (hj : j < i + 1) => show ci.testBit j = true from by
                      rw [HOI.out]
                      by_cases e : i = j
                      · simp [e]
                      · rw [HTB.out j (by omega)]; rfl)
                    clear hci hcb
                    go_wp2_with fail
                    go_loopg [12, 14] (N - (i + 1)) (fun r s12 kv wi => ∃ k : Nat, r = N - k ∧ i + 1 ≤ k ∧ k ≤ N ∧ s12 = .int .i64 (c : Int) ∧ kv = .int .i64 (k : Int) ∧ Hid (∀ j, j < k → cnd J N S j = false) ∧ OwnI 2 wq.heap.size wi (some ⟨gO, 0, none⟩) N cO o ∧ Upd (blk (some ⟨gO, 0, none⟩)) w6 wi)
                    case atStart => exact ⟨i + 1, rfl, Nat.le_refl _, hiN, rfl, by first | rfl | go_num, Lib.hid (fun j hj => HLO.out j (Nat.le_of_lt_succ hj)), oO, hu⟩
                    case round =>
                      clear oO hu hbt q0
                      obtain ⟨k, hr, hk1, hk, rfl, rfl, HNO, oO, hu⟩ := hrel
                      have HRK := Lib.hid hr
                      clear hr
                      obtain ⟨wk, rfl⟩ : ∃ wk : World, wk = wr := ⟨_, rfl⟩
                      have q0 := HCB.out wk hu
                      by_cases hkN : k < N
                      · have hbt := bit_test0M c k (Nat.lt_trans hcB4 (by decide))
                        obtain ⟨i1, i2, i3, i4, i5⟩ := idx_facts hN12' hiN hkN
                        have cj := HCJ.out wk hu i k hiN hkN
                        have HC := HCND.out k
                        rw [HRT.out k hk1 hkN] at HC
                        have HC := Lib.hid HC
                        have hkk : (k : Int) < (N : Int) := Int.ofNat_lt.2 hkN
                        have i6 : ((i * N + k : Nat) : Int) < ((N * N : Nat) : Int) := Int.ofNat_lt.2 i3
                        have i7 : ((i * N + k : Nat) : Int) < (N : Int) * (N : Int) := HQ.out ▸ i6
                        generalize i * N + k = ix at *
                        generalize hjk : J i k = jk at *
                        clear hjk
                        obtain ⟨hor2, hq1, hq2, horN2⟩ := or_pow hN12' hkN horN
                        have cm1 := HCM.out wk hu (ci ||| 2 ^ k) horN2
                        rw [HRM2.out k hkN] at cm1
                        have cm2 := HCMc.out wk hu
                        have hor2I := pow_cast_lt horN2
                        have HY := HPB.out (rm (rm S i) k) (Nat.lt_of_le_of_lt (Nat.le_trans (rm_le _ _) HRL.out) HSL.out)
                        have hy1 : pm J N (rm (rm S i) k) ≤ 4096 := Nat.le_trans HY (Nat.le_trans (rm_le _ _) (Nat.le_trans HRL.out (Nat.le_trans (Nat.le_of_lt HSL.out) hp12)))
                        obtain ⟨hw1, hw2⟩ := add_facts hy1
                        have HSP := Lib.hid (shl_p (k := k) (Nat.le_trans (Nat.le_of_lt hkN) hN12'))
                        have HSPI := Lib.hid (shl_p (k := i) (Nat.le_trans (Nat.le_of_lt hiN) hN12'))
                        have HH := Lib.hid (HHIT.out k hkN)
                        have HR2 := Lib.hid (HRM2.out k hkN)
                        clear HY
                        generalize hcb2 : c.testBit k = tb at *
                        have HCB2 := Lib.hid hcb2
                        clear hcb2
                        generalize hcik : ci ||| 2 ^ k = cik at *
                        have HIK := Lib.hid hcik
                        clear hcik
                        generalize hyy : pm J N (rm (rm S i) k) = y at *
                        generalize hzz : pm J N S = z at *
                        clear hyy hzz
                        cases tb with
                        | true =>
                          have HC2 := Lib.hid (show cnd J N S k = false from HC.out)
                          go_upto_region 33 with (fail)
                          obtain ⟨st1, st2, st3, st4⟩ := HSP.out
                          obtain ⟨si1, si2, si3, si4⟩ := HSPI.out
                          go_quiet (fail)
                          clear st1 st2 st3 st4 si1 si2 si3 si4 hw1 hw2 hor2 hor hor2I horI i1 i2 i4 i5
                          go_wp2_with fail
                          go_roundg (N - (k + 1))
                          case measure => rw [HRK.out]; exact Nat.sub_lt_sub_left hkN (Nat.lt_succ_self k)
                          case rel => exact ⟨k + 1, rfl, Nat.le_succ_of_le hk1, hkN, rfl, by first | rfl | go_num, Lib.hid (fun j hj => by
                            by_cases e : j = k
                            · rw [e]; exact HC2.out
                            · exact HNO.out j (by omega)), OwnI.drewN oO _, hu.drewN _⟩
                        | false =>
                          cases jk with
                          | false =>
                            have HC2 := Lib.hid (show cnd J N S k = false from HC.out)
                            go_upto_region 33 with (fail)
                            obtain ⟨st1, st2, st3, st4⟩ := HSP.out
                            obtain ⟨si1, si2, si3, si4⟩ := HSPI.out
                            go_quiet (fail)
                            clear st1 st2 st3 st4 si1 si2 si3 si4 hw1 hw2 hor2 hor hor2I horI i1 i2 i4 i5
                            go_wp2_with fail
                            go_roundg (N - (k + 1))
                            case measure => rw [HRK.out]; exact Nat.sub_lt_sub_left hkN (Nat.lt_succ_self k)
                            case rel => exact ⟨k + 1, rfl, Nat.le_succ_of_le hk1, hkN, rfl, by first | rfl | go_num, Lib.hid (fun j hj => by
                              by_cases e : j = k
                              · rw [e]; exact HC2.out
                              · exact HNO.out j (by omega)), OwnI.drewN oO _, hu.drewN _⟩
                          | true =>
                            by_cases hyz : 1 + y = z
                            · have d3 : (1 + (y : Int) == (z : Int)) = true := by rw [beq_iff_eq, ← hyz]; exact (Int.natCast_add 1 y).symm
                              have HC2 := Lib.hid (show cnd J N S k = true from by rw [HC.out, decide_eq_true hyz]; rfl)
                              have HW2 := Lib.hid ((HH.out HC2.out HNO.out).symm.trans HW.out)
                              clear hyz
                              go_upto_region 33 with (fail)
                              obtain ⟨st1, st2, st3, st4⟩ := HSP.out
                              obtain ⟨si1, si2, si3, si4⟩ := HSPI.out
                              go_quiet (fail)
                              have o2 := OwnI.drewN oO nq
                              have u2 := hu.drewN nq
                              clear oO hu st1 st2 st3 st4 si1 si2 si3 si4 cj cm1 cm2 q0 hbt hw1 hw2 d3 i1 i2 i4 i5 hor hor2 hor2I
                              generalize wk.drewN nq = W2 at *
                              have ca := OwnI.cell o2 hiN
                              have fa := OwnI.free o2 i
                              have o3 := OwnI.set o2 i (k : Int)
                              have u3 := u2.setCell (p := ⟨gO, i, none⟩) (.inl ⟨_, rfl, rfl⟩) (.int .i64 (k : Int))
                              have cb := OwnI.cell o2 hkN
                              have cb2 := OwnI.cell o3 hkN
                              have fb := OwnI.free o3 k
                              have o4 := OwnI.set o3 k (i : Int)
                              have u4 := u3.setCell (p := ⟨gO, k, none⟩) (.inl ⟨_, rfl, rfl⟩) (.int .i64 (i : Int))
                              generalize o.getD i 0 = x1 at ca
                              generalize o.getD k 0 = x2 at cb
                              generalize (o.set i (k : Int)).getD k 0 = x3 at cb2
                              obtain ⟨hr1, _, _, hrN⟩ := or_pow hN12' hkN hcN
                              obtain ⟨hr2, _, _, _⟩ := or_pow hN12' hiN hrN
                              rw [HOR.out k, HIK.out] at hr2
                              generalize c ||| 2 ^ k = ck at *
                              clear o2 u2 o3 u3
                              go_wp2_with fail
                              go_roundg (N - (i + 1))
                              case measure => rw [HR.out]; exact Nat.sub_lt_sub_left hiN (Nat.lt_succ_self i)
                              case rel => exact ⟨i + 1, cik, (o.set i (k : Int)).set k (i : Int), rfl, hiN, horN2, rfl, by first | rfl | go_num, Lib.hid (fun j hj => by
                                rw [← HIK.out, Nat.testBit_or, HBI.out j hj]; rfl), by simp [hol], Lib.hid (fun v hv hb => by
                                rw [← HIK.out, Nat.testBit_or, HOI.out, Nat.testBit_two_pow, Bool.or_eq_false_iff, Bool.or_eq_false_iff, decide_eq_false_iff_not, decide_eq_false_iff_not] at hb
                                rw [getD_setM _ _ _ _ (by simp [hol, hkN]), if_neg hb.2, getD_setM _ _ _ _ (by simp [hol, hiN]), if_neg hb.1.2]
                                exact HNEG.out v hv hb.1.1), by rw [HR2.out]; exact HW2, o4, u4⟩
                            · have d3 : (1 + (y : Int) == (z : Int)) = false := by
                                rw [beq_eq_false_iff_ne]; intro e; exact hyz (Int.ofNat.inj ((Int.natCast_add 1 y).trans e))
                              have HC2 := Lib.hid (show cnd J N S k = false from by rw [HC.out, decide_eq_false hyz]; rfl)
                              clear hyz
                              go_upto_region 33 with (fail)
                              obtain ⟨st1, st2, st3, st4⟩ := HSP.out
                              obtain ⟨si1, si2, si3, si4⟩ := HSPI.out
                              go_quiet (fail)
                              clear st1 st2 st3 st4 si1 si2 si3 si4 hw1 hw2 hor2 hor hor2I horI i1 i2 i4 i5 d3
                              go_wp2_with fail
                              go_roundg (N - (k + 1))
                              case measure => rw [HRK.out]; exact Nat.sub_lt_sub_left hkN (Nat.lt_succ_self k)
                              case rel => exact ⟨k + 1, rfl, Nat.le_succ_of_le hk1, hkN, rfl, by first | rfl | go_num, Lib.hid (fun j hj => by
                                by_cases e : j = k
                                · rw [e]; exact HC2.out
                                · exact HNO.out j (by omega)), OwnI.drewN oO _, hu.drewN _⟩
                      · obtain rfl : N = k := by omega
                        have HW2 := Lib.hid ((HMISS.out HNO.out).symm.trans HW.out)
                        have HNG := Lib.hid (show o.set i (-1) = o from set_get (HNEG.out i hiN HCF.out))
                        rw [HNG.out] at HW2
                        go_wp2_with fail
                        go_roundg (N - (i + 1))
                        case measure => rw [HR.out]; exact Nat.sub_lt_sub_left hiN (Nat.lt_succ_self i)
                        case rel => exact ⟨i + 1, ci, o, rfl, hiN, horN, rfl, by first | rfl | go_num, HBI, hol, Lib.hid (fun v hv hb => by
                          rw [HOI.out, Bool.or_eq_false_iff] at hb
                          exact HNEG.out v hv hb.1), by rw [HRM.out]; exact HW2, oO, hu⟩
                · obtain rfl : N = i := by omega
                  have hbO := hu.toBelow (B := wq.heap.size) b6.size HSO.out
                  have hbE := ext_trans hbWM (b6.trans hbO)
                  have hz : (2 ^ N - 1) ^^^ c = 0 := by
                    apply Nat.eq_of_testBit_eq
                    intro j
                    by_cases hj : j < N
                    · rw [cmp_bit hj, HTB.out j hj]; simp
                    · rw [Nat.testBit_lt_two_pow (Nat.lt_of_lt_of_le (cmp_lt hcN) (Nat.pow_le_pow_right (by omega) (by omega)))]; simp
                  have HO := Lib.hid (show o = maV N xs from by have := HW.out; rw [hz] at this; exact this)
                  clear hz
                  go_wp2_with fail
                  go_ret2
                  exact ⟨_, _, _, ret_LBq HS.out.symm, by rw [← HO.out]; exact OwnI.low oO (by omega), hbE⟩
end Go.Proofs.YtigaopfhjimpmaaDoor
