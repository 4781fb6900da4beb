/- How many trees a net has: the reference's walk. -/
import Derived.Test.YtigaopfhjimpmaaKirP
import Derived.Test.YtigaopfhjimpmaaFlow
import Derived.StillTailTactics
namespace Go.Proofs.Ytigaopfhjimpmaa
open Go.RowKit
open DetP

theorem ret_IBk {a b : Int} {x y : Bool} (h1 : a = b) (h2 : x = y) : Ending.returned (.tuple #[.int .i64 a, .bool x]) = .returned (.tuple #[.int .i64 b, .bool y]) := by rw [h1, h2]
theorem ArcsAt.updK {w w' : World} {A : Option Addr} {n : Nat} {xs : List ArcR} {S : Nat → Prop} (h : ArcsAt w A n xs) (hb : Upd S w w') (hS : ∀ ad, A = some ad → 0 < n → ¬ S ad.block) : ArcsAt w' A n xs := by
  cases n with
  | zero => exact ⟨h.1, fun h0 => absurd h0 (by omega)⟩
  | succ n => exact h.upd hb (fun ad ha => hS ad ha (by omega))
theorem arcs_inK {xs : List ArcR} {N : Nat} (hv : validB N xs = true) : ∀ i, i < xs.length → frN xs i < N ∧ toN xs i < N ∧ frN xs i ≠ toN xs i := by
  obtain ⟨_, _, _, hb⟩ := valid_bd hv
  intro i hi
  have := hb i hi
  unfold frN toN; omega
theorem idx_k {N f t : Nat} (hN : N ≤ 8) (hf : f < N) (ht : t < N) : IntKind.i64.wrap ((f : Int) * (N : Int)) = (f : Int) * (N : Int) ∧ IntKind.i64.wrap ((f : Int) * (N : Int) + (t : Int)) = ((f * N + t : Nat) : Int) ∧ f * N + t < N * N ∧ wrap64 ((f : Int) * (N : Int)) = (f : Int) * (N : Int) ∧ wrap64 ((f : Int) * (N : Int) + (t : Int)) = ((f * N + t : Nat) : Int) ∧ ((f * N + t : Nat) : Int) < ((N * N : Nat) : Int) ∧ (f : Int) * (N : Int) + (t : Int) = ((f * N + t : Nat) : Int) ∧ 0 ≤ (f : Int) * (N : Int) ∧ (f : Int) * (N : Int) ≤ 64 := by
  have h1 : f * N ≤ 8 * 8 := Nat.mul_le_mul (by omega) hN
  have e : (f : Int) * (N : Int) = ((f * N : Nat) : Int) := by push_cast; rfl
  have h2 := cell_lt hf ht
  rw [e]
  generalize f * N = z at *
  exact ⟨IntWalk.i64_in _ (by omega), by rw [IntWalk.i64_in _ (by omega)]; omega, h2, by unfold wrap64; omega, by unfold wrap64; omega, Int.ofNat_lt.2 h2, by omega, by omega, by omega⟩
theorem arith_facts {X Y P R : Int} (X1 : -1152921504606846976 ≤ X) (X2 : X ≤ 1152921504606846976) (Y1 : -1152921504606846976 ≤ Y) (Y2 : Y ≤ 1152921504606846976) (P1 : 0 < P) (P2 : P ≤ 17179869184) (R1 : -17179869184 ≤ R) (R2 : R ≤ 17179869184) (hD : Int.tdiv (X - Y) P = R) :
    IntKind.i64.wrap X = X ∧ wrap64 X = X ∧ IntKind.i64.wrap Y = Y ∧ wrap64 Y = Y ∧ IntKind.i64.wrap (X - Y) = X - Y ∧ wrap64 (X - Y) = X - Y ∧ IntKind.i64.wrap R = R ∧ wrap64 R = R ∧ P ≠ 0 ∧ (P == 0) = false :=
  ⟨IntWalk.i64_in _ (by omega), by unfold wrap64; omega, IntWalk.i64_in _ (by omega), by unfold wrap64; omega, IntWalk.i64_in _ (by omega), by unfold wrap64; omega, IntWalk.i64_in _ (by omega), by unfold wrap64; omega, by omega, beq_eq_false_iff_ne.2 (by omega)⟩
theorem idx_w {N f t : Nat} (hN : N ≤ 8) (hf : f < N) (ht : t < N) : IntKind.i64.wrap ((f * N + t : Nat) : Int) = ((f * N + t : Nat) : Int) ∧ wrap64 ((f * N + t : Nat) : Int) = ((f * N + t : Nat) : Int) := by
  have h2 := cell_lt hf ht
  have h1 : N * N ≤ 8 * 8 := Nat.mul_le_mul hN hN
  generalize f * N + t = z at *
  exact ⟨IntWalk.i64_in _ (by omega), by unfold wrap64; omega⟩
set_option maxRecDepth 100000 in
set_option maxHeartbeats 3200000 in
theorem specTreesIn_r (nodes : Int) (A : Option Addr) (n c : Nat) (xs : List ArcR) (w : World) (h : ArcsAt w A n xs) (hn0 : n ≤ maxLen) :
    Calls Try.prog 15 #[.agg #[.int .i64 nodes, .slice A n c]] w (RetV (.tuple #[.int .i64 (trV nodes xs), .bool (trB nodes xs)]) w) := by
  have HX := Lib.hid h.len
  have hW : Below w.heap.size w (w.alloc (.cells #[.int .i64 nodes, .slice A n c] 31)) := (Below.refl _ _).alloc (Nat.le_refl _) _
  have h3 := h.alloc (.cells #[.int .i64 nodes, .slice A n c] 31)
  have HB := Lib.hid (Blk.new w 31 #[.int .i64 nodes, .slice A n c])
  have hlt0 : w.heap.size < (w.alloc (.cells #[.int .i64 nodes, .slice A n c] 31)).heap.size := by simp
  have HAlt := Lib.hid (fun ad (e : A = some ad) (h0 : 0 < n) => show ad.block < w.heap.size from by
    obtain ⟨ad', e2, h5, _⟩ := h.at_ h0
    rw [e] at e2; injection e2 with e2; subst e2; exact h5)
  clear h
  cases hv : validB nodes xs
  · have HS := Lib.hid (show trB nodes xs = false by unfold trB; rw [hv]; rfl)
    go_enter Try.func15, Try.ntmps15
    go_wp2_with fail
    generalize w.alloc (.cells #[.int .i64 nodes, .slice A n c] 31) = W at *
    refine (l03Is_any _ nodes A n c xs _ HB.out h3 hn0).mono ?_
    rw [hv]
    rintro e w1 ⟨rfl, hd⟩
    go_wp2_with fail
    go_ret2
    exact ⟨ret_IBk (trV_no HS.out).symm HS.out.symm, below_ext hW hW.size hd.below⟩
  · obtain ⟨v0, v1, v2, _⟩ := valid_bd hv
    rw [HX.out] at v2
    obtain ⟨N, rfl⟩ := Int.eq_ofNat_of_zero_le (show 0 ≤ nodes by omega)
    have HV := Lib.hid hv
    by_cases hN8 : 8 < N
    · have HS := Lib.hid (show trB N xs = false by unfold trB; rw [hv, decide_eq_false (by omega)]; rfl)
      have d1 : decide ((N : Int) > 8) = true := decide_eq_true (by omega)
      have d2 : (8 : Int) < (N : Int) := by omega
      go_enter Try.func15, Try.ntmps15
      go_wp2_with fail
      generalize w.alloc (.cells #[.int .i64 N, .slice A n c] 31) = W at *
      refine (l03Is_any _ N A n c xs _ HB.out h3 hn0).mono ?_
      rw [hv]
      rintro e w1 ⟨rfl, hd⟩
      have e1 := hd.below
      have q0 := (HB.out.ext e1).cell 0
      go_wp2_with fail
      go_ret2
      exact ⟨ret_IBk (trV_no HS.out).symm HS.out.symm, below_ext hW hW.size e1⟩
    · have HS := Lib.hid (show trB N xs = true by unfold trB; rw [hv, decide_eq_true (by omega)]; rfl)
      obtain ⟨m, hNm⟩ : ∃ m, N = m + 1 := ⟨N - 1, by omega⟩
      have hm1 : 1 ≤ m := by omega
      have hm7 : m ≤ 7 := by omega
      have HIN := Lib.hid (arcs_inK hv)
      rw [hNm] at HIN
      have HVV := Lib.hid (show trV N xs = bP (lapA xs) m by unfold trV; rw [if_pos HS.out, Int.toNat_natCast, hNm, Nat.add_sub_cancel]; exact (trees_same HIN.out hm1).symm)
      have HOK := Lib.hid (lapA_ok HIN.out (by rw [HX.out]; exact v2))
      rw [HX.out] at HIN
      have hvb := Lib.hid ((valid_bd hv).2.2.2)
      rw [HX.out] at hvb
      have HLA := Lib.hid (show lapA xs = lapS xs n from by funext i j; show lapK xs xs.length _ _ = _; rw [HX.out]; rfl)
      have d1 : decide ((N : Int) > 8) = false := decide_eq_false (by omega)
      have d2 : ¬ (8 : Int) < (N : Int) := by omega
      have hN8' : N ≤ 8 := by omega
      have hsub : (N : Int) - 1 = (m : Int) := by omega
      have HNm := Lib.hid hNm
      have hmm : m * m ≤ 49 := Nat.mul_le_mul hm7 hm7
      have HQ := Lib.hid (show (m : Int) * (m : Int) = ((m * m : Nat) : Int) from by push_cast; rfl)
      have hq1 : (m : Int) * (m : Int) ≤ 49 := by rw [HQ.out]; omega
      have hq2 : 0 ≤ (m : Int) * (m : Int) := by rw [HQ.out]; omega
      clear hNm
      go_enter Try.func15, Try.ntmps15
      go_wp2_with fail
      generalize w.alloc (.cells #[.int .i64 N, .slice A n c] 31) = W at *
      refine (l03Is_any _ N A n c xs _ HB.out h3 hn0).mono ?_
      rw [hv]
      rintro e w1 ⟨rfl, hd⟩
      have e1 := hd.below
      clear hv hd
      have K1 := Lib.hid (HB.out.ext e1)
      have q0 := K1.out.cell 0
      have h4 := h3.below e1
      have hle1 := e1.size
      go_wp2_with (at_make; refine wp_make_ints _ rfl _ _ 26 rfl 2 Try.underlying26 info64 .i64 .i64 _ _ (m * m) rfl rfl (by first | exact HQ.out | omega) (by first | exact HQ.out | omega) (by omega) ?_; intro w2 gJ oJ b2; have p0 := (K1.out.ext b2).cell 0; have p1 := (K1.out.ext b2).cell 1)
      have hJlo : w1.heap.size ≤ gJ := (OwnI.lt oJ rfl).1
      have hJhi : gJ < w2.heap.size := (OwnI.lt oJ rfl).2
      have K2 := Lib.hid (K1.out.ext b2)
      have h5 := h4.below b2
      have HSX := Lib.hid (show ∀ ad, A = some ad → 0 < n → ¬ blk (some ⟨gJ, 0, none⟩) ad.block from fun ad hq hn1 => by
        rintro ⟨z, z1, z2⟩
        injection z1 with z1
        subst z1
        have := HAlt.out ad hq hn1
        have z2 : gJ = ad.block := z2
        omega)
      have HSB := Lib.hid (show ¬ blk (some ⟨gJ, 0, none⟩) w.heap.size from by
        rintro ⟨z, z1, z2⟩
        injection z1 with z1
        subst z1
        have z2 : gJ = w.heap.size := z2
        omega)
      rw [← flatL_zero m] at oJ
      rw [show (fun _ _ => (0 : Int)) = lapS xs 0 from rfl] at oJ
      clear q0 p0 p1 h4
      have p1 := K2.out.cell 1
      go_loopg [6, 30] n (fun r _ iv wr => ∃ k : Nat, r = n - k ∧ k ≤ n ∧ iv = .int .i64 (k : Int) ∧ OwnI 2 w1.heap.size wr (some ⟨gJ, 0, none⟩) (m * m) (m * m) (flatL m (lapS xs k)) ∧ Upd (blk (some ⟨gJ, 0, none⟩)) w2 wr)
      case atStart => exact ⟨0, by omega, by omega, rfl, oJ, Upd.refl _ _⟩
      case round =>
        clear oJ p1
        obtain ⟨k, hr, hk, rfl, oJ, hu⟩ := hrel
        have HR := Lib.hid hr
        clear hr
        obtain ⟨wo, rfl⟩ : ∃ wo : World, wo = wr := ⟨_, rfl⟩
        have K3 := Lib.hid (K2.out.upd hu HSB.out)
        have p0 := K3.out.cell 0
        have p1 := K3.out.cell 1
        by_cases hkn : k < n
        · skip
          --FAST{
          obtain ⟨f1, f2, f3⟩ := HIN.out k hkn
          obtain ⟨⟨a0, _⟩, ⟨b0, _⟩, _⟩ := hvb.out k hkn
          have h6 := h5.updK hu HSX.out
          obtain ⟨ad, rfl, had, k0, k1, _, _⟩ := h6.at_ hkn
          have HFR := Lib.hid (show (xs.getD k default).fr = ((frN xs k : Nat) : Int) from by unfold frN; omega)
          have HTO := Lib.hid (show (xs.getD k default).to_ = ((toN xs k : Nat) : Int) from by unfold toN; omega)
          rw [HFR.out] at k0
          rw [HTO.out] at k1
          have hkk : (k : Int) < (n : Int) := Int.ofNat_lt.2 hkn
          have HBD := Lib.hid (fun i j => show -48 ≤ lapS xs k i j ∧ lapS xs k i j ≤ 48 from by have := lapK_bd xs k (i + 1) (j + 1); unfold lapS; omega)
          clear a0 b0
          generalize xs.getD k default = x at *
          have HFF := Lib.hid (show frN xs k = frN xs k from rfl)
          have HTT := Lib.hid (show toN xs k = toN xs k from rfl)
          generalize hfe : frN xs k = f at *
          generalize hte : toN xs k = t at *
          have HFE := Lib.hid hfe
          have HTE := Lib.hid hte
          clear hfe hte HFF HTT
          cases f with
          | zero =>
            cases t with
            | zero => exact absurd rfl f3
            | succ q =>
              have hqm : q < m := Nat.lt_of_succ_lt_succ f2
              have hs1 : ((0 : Nat) : Int) - 1 = -1 := rfl
              have hs2 : ((q + 1 : Nat) : Int) - 1 = (q : Int) := by omega
              obtain ⟨i1, i2, i3, i4, i5, i6, i7, i8, i9⟩ := idx_k (N := m) (by omega) hqm hqm
              have c1 := OwnI.cell oJ i3
              rw [flatL_get _ hqm hqm] at c1
              have g1 := OwnI.free oJ (q * m + q)
              have o1 := OwnI.set oJ (q * m + q) (lapS xs k q q + 1)
              rw [flatL_set _ _ hqm hqm, flatL_congr (fun a b _ _ => lapS_to HFE.out HTE.out a b)] at o1
              have u1 := hu.setCell (p := ⟨gJ, q * m + q, none⟩) (.inl ⟨_, rfl, rfl⟩) (.int .i64 (lapS xs k q q + 1))
              obtain ⟨y1, y2⟩ := HBD.out q q
              generalize lapS xs k q q = y at *
              generalize q * m + q = x1 at *
              clear oJ hu i4 i5 i8 i9 hq1 hq2 hmm i7
              have i7 : (x1 : Int) < (m : Int) * (m : Int) := HQ.out ▸ i6
              --NOF{
              go_wp2_with fail
              go_roundg (n - (k + 1))
              case measure => rw [HR.out]; exact Nat.sub_lt_sub_left hkn (Nat.lt_succ_self k)
              case rel => exact ⟨k + 1, rfl, hkn, by first | rfl | go_num, o1, u1⟩
              --NOF}
          | succ p =>
            have hpm : p < m := Nat.lt_of_succ_lt_succ f1
            have hs1 : ((p + 1 : Nat) : Int) - 1 = (p : Int) := by omega
            obtain ⟨i1, i2, i3, i4, i5, i6, i7, i8, i9⟩ := idx_k (N := m) (by omega) hpm hpm
            have c1 := OwnI.cell oJ i3
            rw [flatL_get _ hpm hpm] at c1
            have g1 := OwnI.free oJ (p * m + p)
            have o1 := OwnI.set oJ (p * m + p) (lapS xs k p p + 1)
            rw [flatL_set _ _ hpm hpm] at o1
            have u1 := hu.setCell (p := ⟨gJ, p * m + p, none⟩) (.inl ⟨_, rfl, rfl⟩) (.int .i64 (lapS xs k p p + 1))
            cases t with
            | zero =>
              have hs2 : ((0 : Nat) : Int) - 1 = -1 := rfl
              rw [flatL_congr (fun a b _ _ => lapS_fr HFE.out HTE.out a b)] at o1
              obtain ⟨y1, y2⟩ := HBD.out p p
              generalize lapS xs k p p = y at *
              generalize p * m + p = x1 at *
              clear oJ hu i4 i5 i8 i9 hq1 hq2 hmm i7
              have i7 : (x1 : Int) < (m : Int) * (m : Int) := HQ.out ▸ i6
              --NOF{
              go_wp2_with fail
              go_roundg (n - (k + 1))
              case measure => rw [HR.out]; exact Nat.sub_lt_sub_left hkn (Nat.lt_succ_self k)
              case rel => exact ⟨k + 1, rfl, hkn, by first | rfl | go_num, o1, u1⟩
              --NOF}
            | succ q =>
              have hqm : q < m := Nat.lt_of_succ_lt_succ f2
              have hpq : p ≠ q := fun e => f3 (by rw [e])
              have hqp : q ≠ p := fun e => hpq e.symm
              have hs2 : ((q + 1 : Nat) : Int) - 1 = (q : Int) := by omega
              have KA := Lib.hid (K3.out.upd (((Upd.refl (blk (some ⟨gJ, 0, none⟩)) wo).setCell (p := ⟨gJ, p * m + p, none⟩) (.inl ⟨_, rfl, rfl⟩) (.int .i64 (lapS xs k p p + 1)))) HSB.out)
              obtain ⟨j1, j2, j3, j4, j5, j6, j7, j8, j9⟩ := idx_k (N := m) (by omega) hqm hqm
              obtain ⟨k1', k2', k3', k4', k5', k6', k7', _, _⟩ := idx_k (N := m) (by omega) hpm hqm
              obtain ⟨l1', l2', l3', l4', l5', l6', l7', _, _⟩ := idx_k (N := m) (by omega) hqm hpm
              have c2 := OwnI.cell o1 j3
              rw [flatL_get _ hqm hqm, setF_ne (.inl hqp)] at c2
              have g2 := OwnI.free o1 (q * m + q)
              have o2 := OwnI.set o1 (q * m + q) (lapS xs k q q + 1)
              rw [flatL_set _ _ hqm hqm] at o2
              have u2 := u1.setCell (p := ⟨gJ, q * m + q, none⟩) (.inl ⟨_, rfl, rfl⟩) (.int .i64 (lapS xs k q q + 1))
              have c3 := OwnI.cell o2 k3'
              rw [flatL_get _ hpm hqm, setF_ne (.inl hpq), setF_ne (.inr hqp)] at c3
              have g3 := OwnI.free o2 (p * m + q)
              have o3 := OwnI.set o2 (p * m + q) (lapS xs k p q - 1)
              rw [flatL_set _ _ hpm hqm] at o3
              have u3 := u2.setCell (p := ⟨gJ, p * m + q, none⟩) (.inl ⟨_, rfl, rfl⟩) (.int .i64 (lapS xs k p q - 1))
              have c4 := OwnI.cell o3 l3'
              rw [flatL_get _ hqm hpm, setF_ne (.inl hqp), setF_ne (.inr hpq), setF_ne (.inl hqp)] at c4
              have g4 := OwnI.free o3 (q * m + p)
              have o4 := OwnI.set o3 (q * m + p) (lapS xs k q p - 1)
              rw [flatL_set _ _ hqm hpm, flatL_congr (fun a b _ _ => lapS_both HFE.out HTE.out hpq a b)] at o4
              have u4 := u3.setCell (p := ⟨gJ, q * m + p, none⟩) (.inl ⟨_, rfl, rfl⟩) (.int .i64 (lapS xs k q p - 1))
              obtain ⟨y1, y2⟩ := HBD.out p p
              obtain ⟨y3, y4⟩ := HBD.out q q
              obtain ⟨y5, y6⟩ := HBD.out p q
              obtain ⟨y7, y8⟩ := HBD.out q p
              generalize lapS xs k p p = ya at *
              generalize lapS xs k q q = yb at *
              generalize lapS xs k p q = yc at *
              generalize lapS xs k q p = yd at *
              generalize p * m + p = x1 at *
              generalize q * m + q = x2 at *
              generalize p * m + q = x3 at *
              generalize q * m + p = x4 at *
              clear oJ hu o1 u1 o2 u2 o3 u3 hpq hqp i4 i5 i7 i8 i9 j4 j5 j7 j8 j9 k4' k5' k7' l4' l5' l7' hq1 hq2 hmm
              have i7 : (x1 : Int) < (m : Int) * (m : Int) := HQ.out ▸ i6
              have j7 : (x2 : Int) < (m : Int) * (m : Int) := HQ.out ▸ j6
              have k7 : (x3 : Int) < (m : Int) * (m : Int) := HQ.out ▸ k6'
              have l7 : (x4 : Int) < (m : Int) * (m : Int) := HQ.out ▸ l6'
              --NOF{
              go_wp2_with fail
              go_roundg (n - (k + 1))
              case measure => rw [HR.out]; exact Nat.sub_lt_sub_left hkn (Nat.lt_succ_self k)
              case rel => exact ⟨k + 1, rfl, hkn, by first | rfl | go_num, o4, u4⟩
              --NOF}
          --FAST}
        · obtain rfl : n = k := by omega
          rw [← HLA.out] at oJ
          have hbJ := hu.toBelow (B := w1.heap.size) b2.size (fun b hb2 ⟨z, z1, z2⟩ => by
            injection z1 with z1
            subst z1
            have z2 : gJ = b := z2
            omega)
          have hbW := below_ext hW hW.size (ext_trans e1 (b2.trans hbJ))
          have HBW := Lib.hid hbW
          have hszw : w1.heap.size ≤ wo.heap.size := Nat.le_trans b2.size hbJ.size
          have hszv : w.heap.size ≤ w1.heap.size := Nat.le_trans hW.size hle1
          have HSO := Lib.hid (show ∀ b, b < w1.heap.size → ¬ blk (some ⟨gJ, 0, none⟩) b from fun b hb2 ⟨z, z1, z2⟩ => by
            injection z1 with z1
            subst z1
            have z2 : gJ = b := z2
            omega)
          generalize lapA xs = l at *
          clear hu h5 hbW hbJ p1 hm1 hle1
          have hszo : gJ < wo.heap.size := (OwnI.lt oJ rfl).2
          have HF0 := Lib.hid (show ∀ a b, 0 ≤ a → a < m → 0 ≤ b → b < m → l a b = bD l 0 a b from fun a b _ _ _ _ => (bD_zero l a b).symm)
          go_wp2_with fail
          go_loopg [9, 10] m (fun r bv kv wr => ∃ (k : Nat) (f : Nat → Nat → Int), r = m - k ∧ k ≤ m ∧ bv = .int .i64 (bP l k) ∧ kv = .int .i64 (k : Int) ∧ Hid (∀ a, a < k → bP l (a + 1) ≠ 0) ∧ Hid (∀ a b, k ≤ a → a < m → k ≤ b → b < m → f a b = bD l k a b) ∧ OwnI 2 w1.heap.size wr (some ⟨gJ, 0, none⟩) (m * m) (m * m) (flatL m f) ∧ Upd (blk (some ⟨gJ, 0, none⟩)) wo wr)
          case atStart => exact ⟨0, l, rfl, Nat.zero_le _, rfl, rfl, Lib.hid (fun a ha => absurd ha (Nat.not_lt_zero _)), HF0, oJ, Upd.refl _ _⟩
          case round =>
            clear oJ p0
            obtain ⟨k, f, hr, hk, rfl, rfl, HNZ, HF, oJ, hu⟩ := hrel
            have HR := Lib.hid hr
            clear hr
            obtain ⟨wp, rfl⟩ : ∃ wp : World, wp = wr := ⟨_, rfl⟩
            have hp0 := (lap_inv HOK.out.lap k hk HNZ.out).1
            by_cases hkm : k < m
            · have hkk : (k : Int) < (m : Int) := Int.ofNat_lt.2 hkm
              obtain ⟨i1, i2, i3, i4, i5, i6, i7, i8, i9⟩ := idx_k (N := m) (by omega) hkm hkm
              have c1 := OwnI.cell oJ i3
              rw [flatL_get _ hkm hkm, HF.out k k (Nat.le_refl _) hkm (Nat.le_refl _) hkm] at c1
              by_cases hV : bD l k k k = 0
              · have HG := Lib.hid (lap_gone HOK.out.lap hkm HNZ.out hV).2
                rw [hV] at c1
                generalize k * m + k = x1 at *
                clear i4 i5 i7 i8 i9 hq1 hq2 hmm hV hp0
                have i7 : (x1 : Int) < (m : Int) * (m : Int) := HQ.out ▸ i6
                go_wp2_with fail
                go_ret2
                exact ⟨ret_IBk (HVV.out.trans HG.out).symm HS.out.symm, HBW.out.trans ((hu.toBelow (B := w1.heap.size) hszw HSO.out).mono hszv)⟩
              · have d3 : (bD l k k k == 0) = false := beq_eq_false_iff_ne.2 hV
                have HNZ2 := Lib.hid (show ∀ a, a < k + 1 → bP l (a + 1) ≠ 0 from fun a ha => by
                  by_cases e : a = k
                  · rw [e, bP_succ]; exact hV
                  · exact HNZ.out a (Nat.lt_of_le_of_ne (Nat.le_of_lt_succ ha) e))
                have HPV := Lib.hid (piv_facts HOK.out hm7 HNZ.out hkm)
                have HST := Lib.hid (fun i j h1 h2 hi hj => step_facts (k := k) (i := i) (j := j) HOK.out hm7 HNZ2.out h1 h2 hi hj)
                have HF2 := Lib.hid (show ∀ a b, k ≤ a → a < m → k ≤ b → b < m → f a b = mixB l k (k + 1) (k + 1) a b from fun a b h1 h2 h3 h4 => by rw [mixB_start]; exact HF.out a b h1 h2 h3 h4)
                have HKK := Lib.hid (show bP l (k + 1) = bD l k k k from rfl)
                have HP := Lib.hid (show 0 < bP l k from hp0)
                clear hV hp0
                generalize hpk : bP l k = P at *
                have HPK := Lib.hid hpk
                clear hpk
                generalize hvk : bD l k k k = V at *
                have HVK := Lib.hid hvk
                clear hvk
                generalize hx1 : k * m + k = x1 at *
                have HX1 := Lib.hid hx1
                clear hx1
                clear i4 i5 i7 i8 i9 hq1 hq2 hmm
                have i7 : (x1 : Int) < (m : Int) * (m : Int) := HQ.out ▸ i6
                go_wp2_with fail
                go_loopg [11] (m - (k + 1)) (fun r iv wi => ∃ (i : Nat) (f : Nat → Nat → Int), r = m - i ∧ k + 1 ≤ i ∧ i ≤ m ∧ iv = .int .i64 (i : Int) ∧ Hid (∀ a b, k ≤ a → a < m → k ≤ b → b < m → f a b = mixB l k i (k + 1) a b) ∧ OwnI 2 w1.heap.size wi (some ⟨gJ, 0, none⟩) (m * m) (m * m) (flatL m f) ∧ Upd (blk (some ⟨gJ, 0, none⟩)) wo wi)
                case atStart => exact ⟨k + 1, f, rfl, Nat.le_refl _, hkm, by first | rfl | go_num, HF2, oJ, hu⟩
                case round =>
                  clear oJ hu c1 d3 HF HF2
                  obtain ⟨i, f, hr, hi1, him, rfl, HF, oJ, hu⟩ := hrel
                  have HRI := Lib.hid hr
                  clear hr
                  obtain ⟨wi, rfl⟩ : ∃ wi : World, wi = wr := ⟨_, rfl⟩
                  by_cases hilt : i < m
                  · have hii : (i : Int) < (m : Int) := Int.ofNat_lt.2 hilt
                    have HR1 := Lib.hid (show ∀ a b, k ≤ a → a < m → k ≤ b → b < m → f a b = mixB l k i (k + 1) a b from HF.out)
                    clear i1 i2 i6 i7
                    go_wp2_with fail
                    go_loopg [12] (m - (k + 1)) (fun r jv wi => ∃ (j : Nat) (f : Nat → Nat → Int), r = m - j ∧ k + 1 ≤ j ∧ j ≤ m ∧ jv = .int .i64 (j : Int) ∧ Hid (∀ a b, k ≤ a → a < m → k ≤ b → b < m → f a b = mixB l k i j a b) ∧ OwnI 2 w1.heap.size wi (some ⟨gJ, 0, none⟩) (m * m) (m * m) (flatL m f) ∧ Upd (blk (some ⟨gJ, 0, none⟩)) wo wi)
                    case atStart => exact ⟨k + 1, f, rfl, Nat.le_refl _, hkm, by first | rfl | go_num, HR1, oJ, hu⟩
                    case round =>
                      clear oJ hu HR1
                      rename_i f0 _ _
                      obtain ⟨j, f, hr, hj1, hjm, rfl, HF, oJ, hu⟩ := hrel
                      have HRJ := Lib.hid hr
                      clear hr
                      obtain ⟨wj, rfl⟩ : ∃ wj : World, wj = wr := ⟨_, rfl⟩
                      by_cases hjlt : j < m
                      · have hjj : (j : Int) < (m : Int) := Int.ofNat_lt.2 hjlt
                        have hm8 : m ≤ 8 := Nat.le_succ_of_le hm7
                        obtain ⟨X, Y, hX, hY, X1, X2, Y1, Y2, hD, P1, P2, R1, R2⟩ := HST.out i j hi1 hj1 hilt hjlt
                        obtain ⟨m1, m2, m3, m4⟩ := mixB_read (l := l) hi1 hj1
                        have HF4 := Lib.hid (show ∀ a b, k ≤ a → a < m → k ≤ b → b < m → setF f i j (bD l (k + 1) i j) a b = mixB l k i (j + 1) a b from fun a b h1 h2 h3 h4 => by
                          rw [← mixB_set hi1 hj1]
                          unfold setF
                          by_cases e : a = i ∧ b = j
                          · rw [if_pos e, if_pos e]
                          · rw [if_neg e, if_neg e]; exact HF.out a b h1 h2 h3 h4)
                        go_upto_region 30 with (fail)
                        obtain ⟨i1, i2, i30, i4, i5, i6, _, _, _⟩ := idx_k hm8 hilt hjlt
                        obtain ⟨j1, j2, j30, j4, j5, j6, _, _, _⟩ := idx_k hm8 hkm hkm
                        obtain ⟨k1', k2', k30, k4', k5', k6', _, _, _⟩ := idx_k hm8 hilt hkm
                        obtain ⟨l1', l2', l30, l4', l5', l6', _, _, _⟩ := idx_k hm8 hkm hjlt
                        obtain ⟨e1', e2'⟩ := idx_w hm8 hilt hjlt
                        obtain ⟨e3', e4'⟩ := idx_w hm8 hkm hkm
                        obtain ⟨e5', e6'⟩ := idx_w hm8 hilt hkm
                        obtain ⟨e7', e8'⟩ := idx_w hm8 hkm hjlt
                        have c1 := OwnI.cell oJ i30
                        rw [flatL_get _ hilt hjlt, HF.out i j (Nat.le_of_succ_le hi1) hilt (Nat.le_of_succ_le hj1) hjlt, m1] at c1
                        have c2 := OwnI.cell oJ j30
                        rw [flatL_get _ hkm hkm, HF.out k k (Nat.le_refl _) hkm (Nat.le_refl _) hkm, m2, HVK.out] at c2
                        have c3 := OwnI.cell oJ k30
                        rw [flatL_get _ hilt hkm, HF.out i k (Nat.le_of_succ_le hi1) hilt (Nat.le_refl _) hkm, m3] at c3
                        have c4 := OwnI.cell oJ l30
                        rw [flatL_get _ hkm hjlt, HF.out k j (Nat.le_refl _) hkm (Nat.le_of_succ_le hj1) hjlt, m4] at c4
                        have g1 := OwnI.free oJ (i * m + j)
                        have o2 := OwnI.set oJ (i * m + j) (bD l (k + 1) i j)
                        rw [flatL_set _ _ hilt hjlt] at o2
                        have u2 := hu.setCell (p := ⟨gJ, i * m + j, none⟩) (.inl ⟨_, rfl, rfl⟩) (.int .i64 (bD l (k + 1) i j))
                        obtain ⟨w1', w2', w3', w4', w5', w6', w7', w8', w9', w10'⟩ := arith_facts X1 X2 Y1 Y2 P1 P2 R1 R2 hD
                        clear m1 m2 m3 m4 X1 X2 Y1 Y2 R1 R2 hu oJ
                        generalize bD l k i j = va at *
                        generalize bD l k i k = vb at *
                        generalize bD l k k j = vc at *
                        generalize bD l (k + 1) i j = vr at *
                        generalize i * m + j = xa at *
                        generalize k * m + k = xb at *
                        generalize i * m + k = xc at *
                        generalize k * m + j = xd at *
                        have i7 : (xa : Int) < (m : Int) * (m : Int) := HQ.out ▸ i6
                        have j7 : (xb : Int) < (m : Int) * (m : Int) := HQ.out ▸ j6
                        have k7 : (xc : Int) < (m : Int) * (m : Int) := HQ.out ▸ k6'
                        have l7 : (xd : Int) < (m : Int) * (m : Int) := HQ.out ▸ l6'
                        refine wp_region_still_tail 43 (by kernel_rfl) (by kernel_rfl) ?_
                        change wpStill _ _ wj.drew (fun a' => wpList _ _ _ _ a' wj.drew) _ _
                        simp only [List.take_succ_cons, List.take_zero, List.drop_succ_cons, List.drop_zero]
                        repeat still_step
                        refine wpStill_nil ?_
                        clear i1 i2 i4 i5 j1 j2 j4 j5 k1' k2' k4' k5' l1' l2' l4' l5' e1' e2' e3' e4' e5' e6' e7' e8' w1' w2' w3' w4' w5' w6' w7' w8' w9' w10' hX hY hD P1 P2 c2 c3 c4 j6 k6' l6' j7 k7 l7
                        go_wp2_with fail
                        go_roundg (m - (j + 1))
                        case measure => rw [HRJ.out]; exact Nat.sub_lt_sub_left hjlt (Nat.lt_succ_self j)
                        case rel => exact ⟨j + 1, _, rfl, Nat.le_succ_of_le hj1, hjlt, by first | rfl | go_num, HF4, o2.drew, u2.drew⟩
                      · obtain rfl : m = j := Nat.le_antisymm (Nat.le_of_not_lt hjlt) hjm
                        have HF3 := Lib.hid (show ∀ a b, k ≤ a → a < m → k ≤ b → b < m → f a b = mixB l k (i + 1) (k + 1) a b from fun a b h1 h2 h3 h4 => by rw [HF.out a b h1 h2 h3 h4]; exact mixB_row h4)
                        go_wp2_with fail
                        go_roundg (m - (i + 1))
                        case measure => rw [HRI.out]; exact Nat.sub_lt_sub_left hilt (Nat.lt_succ_self i)
                        case rel => exact ⟨i + 1, f, rfl, Nat.le_succ_of_le hi1, hilt, by first | rfl | go_num, HF3, oJ, hu⟩
                  · obtain rfl : m = i := Nat.le_antisymm (Nat.le_of_not_lt hilt) him
                    have c1 := OwnI.cell oJ i3
                    rw [← HX1.out, flatL_get _ hkm hkm, HF.out k k (Nat.le_refl _) hkm (Nat.le_refl _) hkm, (mixB_k l k m (k + 1)).1, HVK.out, HX1.out] at c1
                    have HF3 := Lib.hid (show ∀ a b, k + 1 ≤ a → a < m → k + 1 ≤ b → b < m → f a b = bD l (k + 1) a b from fun a b h1 h2 h3 h4 => by rw [HF.out a b (Nat.le_of_succ_le h1) h2 (Nat.le_of_succ_le h3) h4]; exact mixB_done h2 h1 h3)
                    go_wp2_with fail
                    go_roundg (m - (k + 1))
                    case measure => rw [HR.out]; exact Nat.sub_lt_sub_left hkm (Nat.lt_succ_self k)
                    case rel => exact ⟨k + 1, f, rfl, hkm, by rw [HKK.out], by first | rfl | go_num, HNZ2, HF3, oJ, hu⟩
            · obtain rfl : m = k := Nat.le_antisymm (Nat.le_of_not_lt hkm) hk
              go_wp2_with fail
              go_ret2
              exact ⟨ret_IBk HVV.out.symm HS.out.symm, HBW.out.trans ((hu.toBelow (B := w1.heap.size) hszw HSO.out).mono hszv)⟩
end Go.Proofs.Ytigaopfhjimpmaa
