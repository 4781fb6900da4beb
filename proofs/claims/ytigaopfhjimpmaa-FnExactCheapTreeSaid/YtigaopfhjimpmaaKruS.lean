/- Cheapest trees of the reference: the walk. -/
import Derived.Test.YtigaopfhjimpmaaKruT
namespace Go.Proofs.Ytigaopfhjimpmaa
open Go.RowKit

theorem ArcsAt.updZ {w w' : World} {A : Option Addr} {n : Nat} {xs : List ArcR} {S : Nat → Prop} (h : ArcsAt w A n xs) (hb : Upd S w w') (hS : ∀ ad, A = some ad → 0 < n → ¬ S ad.block) : ArcsAt w' A n xs := by
  cases n with
  | zero => exact ⟨h.1, fun h0 => absurd h0 (by omega)⟩
  | succ n => exact h.upd hb (fun ad ha => hS ad ha (by omega))
theorem best_skip {xs : List ArcR} {H : List Int} {j : Nat} (h : H.getD (frA xs j) 0 = H.getD (toA xs j) 0) : bestA xs H (j + 1) = bestA xs H j := by rw [bestA, if_neg (fun h2 => h2.1 h)]
theorem best_first {xs : List ArcR} {H : List Int} {j : Nat} (h : ¬ H.getD (frA xs j) 0 = H.getD (toA xs j) 0) (hb : bestA xs H j < 0) : bestA xs H (j + 1) = (j : Int) := by rw [bestA, if_pos ⟨h, .inl hb⟩]
theorem best_less {xs : List ArcR} {H : List Int} {j : Nat} (h : ¬ H.getD (frA xs j) 0 = H.getD (toA xs j) 0) (hb : coA xs j < coA xs (bestA xs H j)) : bestA xs H (j + 1) = (j : Int) := by rw [bestA, if_pos ⟨h, .inr hb⟩]
theorem best_not {xs : List ArcR} {H : List Int} {j : Nat} (h1 : ¬ bestA xs H j < 0) (hb : ¬ coA xs j < coA xs (bestA xs H j)) : bestA xs H (j + 1) = bestA xs H j := by rw [bestA, if_neg (fun h2 => by rcases h2.2 with h3 | h3; exact h1 h3; exact hb h3)]
theorem best_rng (xs : List ArcR) (H : List Int) (j : Nat) : bestA xs H j = -1 ∨ ∃ i : Nat, bestA xs H j = (i : Int) ∧ i < j := by
  rcases best_ok (xs := xs) (H := H) j with ⟨h, _⟩ | ⟨i, h, h2, _⟩
  · exact .inl h
  · exact .inr ⟨i, h, h2⟩
set_option maxRecDepth 100000 in
set_option maxHeartbeats 3200000 in
theorem specCheapTree_r (nodes : Int) (A : Option Addr) (n c : Nat) (xs : List ArcR) (w : World) (h : ArcsAt w A n xs) (hn0 : n ≤ maxLen) :
    Calls Try.prog 7 #[.agg #[.int .i64 nodes, .slice A n c]] w (RetLIB 2 (ctL nodes xs) (ctC nodes xs) (ctB nodes xs) w) := by
  have HX := Lib.hid h.len
  have hW : Below w.heap.size w (w.alloc (.cells #[.int .i64 nodes, .slice A n c] 31)) := (Below.refl _ _).alloc (Nat.le_refl _) _
  have h3 := h.alloc (.cells #[.int .i64 nodes, .slice A n c] 31)
  have HB := Lib.hid (Blk.new w 31 #[.int .i64 nodes, .slice A n c])
  have hlt0 : w.heap.size < (w.alloc (.cells #[.int .i64 nodes, .slice A n c] 31)).heap.size := by simp
  have HAlt := Lib.hid (fun ad (e : A = some ad) (h0 : 0 < n) => show ad.block < w.heap.size from by
    obtain ⟨ad', e2, h5, _⟩ := h.at_ h0
    rw [e] at e2; injection e2 with e2; subst e2; exact h5)
  clear h
  cases hv : validB nodes xs
  · have HS := Lib.hid (ctB_no hv)
    go_enter Try.func7, Try.ntmps7
    go_wp2_with fail
    generalize w.alloc (.cells #[.int .i64 nodes, .slice A n c] 31) = W at *
    refine (l03Is_any _ nodes A n c xs _ HB.out h3 hn0).mono ?_
    rw [hv]
    rintro e w1 ⟨rfl, hd⟩
    go_wp2_with fail
    go_ret3
    exact ⟨none, 0, 0, ret_LIBk HS.out.2.2.symm HS.out.1.symm, by rw [HS.out.2.1]; exact OwnI.nil_ _ _ _, below_ext hW hW.size hd.below⟩
  · obtain ⟨v0, v1, v2, vb⟩ := valid_bd hv
    rw [HX.out] at v2 vb
    have HVB := Lib.hid vb
    obtain ⟨N, rfl⟩ := Int.eq_ofNat_of_zero_le (show 0 ≤ nodes by omega)
    have HV := Lib.hid hv
    clear vb
    go_enter Try.func7, Try.ntmps7
    go_wp2_with fail
    generalize w.alloc (.cells #[.int .i64 N, .slice A n c] 31) = W at *
    refine (l03Is_any _ N A n c xs _ HB.out h3 hn0).mono ?_
    rw [hv]
    rintro e w1 ⟨rfl, hd⟩
    have e1 := hd.below
    have h4 := h3.below e1
    have K1 := Lib.hid (HB.out.ext e1)
    have hle1 := e1.size
    clear hv h3 hd
    have he := World.ownsRow_lit (e := 2) (base := w1.heap.size) (size := 1) w1 #[] 0 (Nat.le_refl _) (Nat.zero_le _) rfl
    replace he : OwnI 2 w1.heap.size (w1.alloc (.cells #[] 2)) (some ⟨w1.heap.size, 0, none⟩) 0 0 [] := he
    have hb2 : Below w1.heap.size w1 (w1.alloc (.cells #[] 2)) := (Below.refl _ _).alloc (Nat.le_refl _) _
    have q0 := (K1.out.ext hb2).cell 0
    go_wp2_with fail
    generalize w1.alloc (.cells #[] 2) = w1a at *
    go_loopg [5, 6] N (fun r qv iv wi => ∃ (i : Nat) (Q : Option Addr) (cq : Nat), r = N - i ∧ i ≤ N ∧ qv = .slice Q i cq ∧ iv = .int .i64 i ∧ OwnI 2 w1.heap.size wi Q i cq (seqI 0 i) ∧ Below w1.heap.size w1 wi)
    case atStart => exact ⟨0, _, 0, rfl, Nat.zero_le _, rfl, rfl, he, hb2⟩
    case round =>
      clear he hb2
      obtain ⟨i, Q, cq, hr, hi, rfl, rfl, o, hb⟩ := hrel
      have HR := Lib.hid hr
      clear hr q0
      have q0 := (K1.out.ext hb).cell 0
      by_cases hli : i < N
      · have hli' : (i : Int) < (N : Int) := by omega
        have hsz := hb.size
        have HS := Lib.hid (seqI_snoc i)
        go_wp2_with (at_builtin; refine wp_append_int _ _ rfl _ _ _ rfl 2 w1.heap.size Try.underlying26 info64 Q i cq _ rfl o rfl (by omega) hsz ?_; intro g4 c4 w4 o4 u4 b4 hg4)
        go_roundg (N - (i + 1))
        case measure => rw [HR.out]; omega
        case rel => exact ⟨i + 1, _, c4, rfl, by omega, rfl, by go_num, by rw [HS.out]; exact o4, hb.trans b4⟩
      · obtain rfl : N = i := by omega
        obtain ⟨wo, rfl⟩ : ∃ wo : World, wo = wr := ⟨_, rfl⟩
        obtain ⟨gG, rfl, hGlo, hGhi, _, _⟩ := OwnC.pos o (by omega)
        have h5 := h4.below hb
        have hsz := hb.size
        have he := World.ownsRow_lit (e := 2) (base := wo.heap.size) (size := 1) wo #[] 0 (Nat.le_refl _) (Nat.zero_le _) rfl
        replace he : OwnI 2 wo.heap.size (wo.alloc (.cells #[] 2)) (some ⟨wo.heap.size, 0, none⟩) 0 0 [] := he
        have hb2 : Below wo.heap.size wo (wo.alloc (.cells #[] 2)) := (Below.refl _ _).alloc (Nat.le_refl _) _
        have oG := OwnI.below o hb2
        have hb3 := hb.trans (hb2.mono hsz)
        have K4 := Lib.hid (K1.out.ext hb)
        have h7 := Lib.hid h5
        have HSX := Lib.hid (show ∀ ad, A = some ad → 0 < n → ¬ blk (some ⟨gG, 0, none⟩) ad.block from fun ad hq hn1 => by
          rintro ⟨z, z1, z2⟩
          injection z1 with z1
          subst z1
          have := HAlt.out ad hq hn1
          have z2 : gG = ad.block := z2
          omega)
        have HSB := Lib.hid (show ¬ blk (some ⟨gG, 0, none⟩) w.heap.size from by
          rintro ⟨z, z1, z2⟩
          injection z1 with z1
          subst z1
          have z2 : gG = w.heap.size := z2
          omega)
        have hKL := K1.out.lt
        have HKI := Lib.hid (kru_start (xs := xs) (N := N))
        have hu0 : Upd (blk (some ⟨gG, 0, none⟩)) wo (wo.alloc (.cells #[] 2)) := (Upd.refl _ _).alloc _
        clear o h4 h5
        go_wp2_with fail
        generalize wo.alloc (.cells #[] 2) = wp at *
        clear hb2 q0
        go_loopg [7, 8] n (fun r s7 s8 wr => ∃ (B : List Int) (s : KruS) (H : List Int) (O : Option Addr) (oc : Nat), r = B.length ∧ s7 = .slice O s.out.length oc ∧ s8 = .int .i64 s.c ∧ s.out.length + B.length ≤ n ∧ -1000 * (s.out.length : Int) ≤ s.c ∧ s.c ≤ 1000 * (s.out.length : Int) ∧ Hid (KruI xs N B s.G H) ∧ Hid (kru xs B s = kruO xs N) ∧ OwnI 2 w1.heap.size wr (some ⟨gG, 0, none⟩) N cq H ∧ OwnI 2 wo.heap.size wr O s.out.length oc s.out ∧ Upd (blk (some ⟨gG, 0, none⟩)) wo wr)
        case atStart => exact ⟨ordA xs, ⟨seqI 0 N, [], 0⟩, seqI 0 N, some ⟨wo.heap.size, 0, none⟩, 0, by rw [(ordA_perm xs).length_eq, seqI_len, HX.out], rfl, rfl, by rw [(ordA_perm xs).length_eq, seqI_len, HX.out]; show 0 + n ≤ n; omega, by show _ ≤ (0 : Int); exact Int.le_refl _, by show (0 : Int) ≤ _; exact Int.le_refl _, HKI, Lib.hid rfl, oG, he, hu0⟩
        case round =>
          clear oG he hu0
          obtain ⟨B, s, H, O, oc, hr, rfl, rfl, hsn, hc1, hc2, HK, HE, oG, oO, hu⟩ := hrel
          have HR := Lib.hid hr
          clear hr
          obtain ⟨wl, rfl⟩ : ∃ wl : World, wl = wr := ⟨_, rfl⟩
          have h8 := h7.out.updZ hu HSX.out
          have K5 := Lib.hid (K4.out.upd hu HSB.out)
          have q0 := K5.out.cell 0
          have q1 := K5.out.cell 1
          have HNONE := Lib.hid (kru_none HV.out B s H HK.out)
          have HNEXT := Lib.hid (fun i (hi : bestA xs H xs.length = ((i : Nat) : Int)) => kru_next HV.out B s H i HK.out hi)
          rw [HX.out] at HNONE HNEXT
          have HHL := Lib.hid (show H.length = N from HK.out.same.2.1)
          go_wp2_with fail
          go_loopg [9, 10, 31] n (fun r s9 _ iv wi => ∃ j : Nat, r = n - j ∧ j ≤ n ∧ iv = .int .i64 (j : Int) ∧ s9 = .int .i64 (bestA xs H j) ∧ Drew wl wi)
          case atStart => exact ⟨0, by omega, by omega, rfl, rfl, Drew.refl _⟩
          case round =>
            obtain ⟨j, hr, hj, rfl, rfl, hdr⟩ := hrel
            have HRJ := Lib.hid hr
            have HDR := Lib.hid hdr
            obtain ⟨wq, rfl⟩ : ∃ wq : World, wq = wr := ⟨_, rfl⟩
            have hbq := hdr.below
            have r0 := (K5.out.ext hbq).cell 0
            have r1 := (K5.out.ext hbq).cell 1
            clear hr hdr
            by_cases hjn : j < n
            · have hj' : (j : Int) < (n : Int) := by omega
              obtain ⟨ad, rfl, had, k0, k1, k2, k3⟩ := (h8.below hbq).at_ hjn
              obtain ⟨⟨a0, a1⟩, ⟨b0, b1⟩, _, _, cc0, cc1⟩ := HVB.out j hjn
              have HFR := Lib.hid (show (xs.getD j default).fr = ((frA xs (j : Int) : Nat) : Int) from by unfold frA; rw [Int.toNat_natCast]; omega)
              have HTO := Lib.hid (show (xs.getD j default).to_ = ((toA xs (j : Int) : Nat) : Int) from by unfold toA; rw [Int.toNat_natCast]; omega)
              have HCO := Lib.hid (show coA xs (j : Int) = (xs.getD j default).cost from by unfold coA; rw [Int.toNat_natCast])
              have hfN : frA xs (j : Int) < N := by have := HFR.out; omega
              have htN : toA xs (j : Int) < N := by have := HTO.out; omega
              have HSKIP := Lib.hid (@best_skip xs H j)
              have HFIRST := Lib.hid (@best_first xs H j)
              have HLESS := Lib.hid (@best_less xs H j)
              have HNOT := Lib.hid (@best_not xs H j)
              have hbr := best_rng xs H j
              have H8 := Lib.hid (h8.below hbq)
              generalize xs.getD j default = x at *
              obtain ⟨af, at_, ar, aq⟩ := x
              replace HFR := Lib.hid (show af = ((frA xs (j : Int) : Nat) : Int) from HFR.out)
              replace HTO := Lib.hid (show at_ = ((toA xs (j : Int) : Nat) : Int) from HTO.out)
              replace k0 : wq.cell? _ = some (.int .i64 af) := k0
              replace k1 : wq.cell? _ = some (.int .i64 at_) := k1
              replace k3 : wq.cell? _ = some (.int .i64 aq) := k3
              replace HCO := Lib.hid (show coA xs (j : Int) = aq from HCO.out)
              rw [HFR.out] at k0
              rw [HTO.out] at k1
              rw [HCO.out] at HLESS HNOT
              clear a0 a1 b0 b1 k2 cc0 cc1
              generalize frA xs (j : Int) = f at *
              generalize toA xs (j : Int) = t at *
              have g1 := OwnI.cell (OwnI.below oG hbq) hfN
              have g2 := OwnI.cell (OwnI.below oG hbq) htN
              generalize H.getD f 0 = hf at *
              generalize H.getD t 0 = ht at *
              by_cases hft : hf = ht
              · have d1 : (hf != ht) = false := by rw [hft]; exact bne_self_eq_false _
                have HE1 := Lib.hid (HSKIP.out hft)
                clear hft
                go_wp2_with fail
                go_quiet (fail)
                go_wp2_with fail
                go_roundg (n - (j + 1))
                case measure => rw [HRJ.out]; omega
                case rel => exact ⟨j + 1, rfl, by omega, by go_num, by rw [HE1.out], HDR.out.trans ⟨_, rfl⟩⟩
              · have d1 : (hf != ht) = true := by rw [bne_iff_ne]; exact hft
                rcases hbr with hbr | ⟨i, hbi, hij⟩
                · have HE1 := Lib.hid (HFIRST.out hft (by omega))
                  rw [hbr]
                  clear hft hbr HSKIP HFIRST HLESS HNOT
                  have d2 : decide ((-1 : Int) < 0) = true := rfl
                  go_wp2_with fail
                  go_quiet (fail)
                  go_wp2_with fail
                  go_roundg (n - (j + 1))
                  case measure => rw [HRJ.out]; omega
                  case rel => exact ⟨j + 1, rfl, by omega, by go_num, by rw [HE1.out], HDR.out.trans ⟨_, rfl⟩⟩
                · obtain ⟨ad2, e2, _, _, _, _, m3⟩ := H8.out.at_ (show i < n by omega)
                  cases e2
                  have HCI := Lib.hid (show coA xs (bestA xs H j) = (xs.getD i default).cost from by rw [hbi]; unfold coA; rw [Int.toNat_natCast])
                  rw [HCI.out] at HLESS HNOT
                  rw [hbi]
                  rw [hbi] at HNOT
                  generalize (xs.getD i default).cost = ci at *
                  have hi' : (i : Int) < (n : Int) := by omega
                  have d2 : decide ((i : Int) < 0) = false := decide_eq_false (by omega)
                  have HBI := Lib.hid hbi
                  by_cases hless : aq < ci
                  · have d3 : decide (aq < ci) = true := decide_eq_true hless
                    have HE1 := Lib.hid (HLESS.out hft hless)
                    clear hft hless hbi HSKIP HFIRST HLESS HNOT
                    go_wp2_with fail
                    go_quiet (fail)
                    go_wp2_with fail
                    go_roundg (n - (j + 1))
                    case measure => rw [HRJ.out]; omega
                    case rel => exact ⟨j + 1, rfl, by omega, by go_num, by rw [HE1.out], HDR.out.trans ⟨_, rfl⟩⟩
                  · have d3 : decide (aq < ci) = false := decide_eq_false hless
                    have HE1 := Lib.hid (HNOT.out (by omega) hless)
                    clear hft hless hbi HSKIP HFIRST HLESS HNOT
                    go_wp2_with fail
                    go_quiet (fail)
                    go_wp2_with fail
                    go_roundg (n - (j + 1))
                    case measure => rw [HRJ.out]; omega
                    case rel => exact ⟨j + 1, rfl, by omega, by go_num, by rw [HE1.out], HDR.out.trans ⟨_, rfl⟩⟩
            · obtain rfl : n = j := by omega
              rcases best_rng xs H n with hbi | ⟨i, hbi, hij⟩
              · have HE2 := Lib.hid (show s = kruO xs N from by rw [← HE.out]; exact (HNONE.out (by omega)).symm)
                rw [hbi]
                have d2 : decide ((-1 : Int) < 0) = true := rfl
                have oO2 := OwnI.below oO hbq
                have hwq := (hu.below hbq).toBelow (B := w1.heap.size) hsz (fun b hb2 ⟨z, z1, z2⟩ => by
                  injection z1 with z1
                  subst z1
                  have z2 : gG = b := z2
                  omega)
                have hbW := below_ext hW hW.size (ext_trans e1 (hb.trans hwq))
                have vN : IntKind.i64.wrap ((N : Int) - 1) = (N : Int) - 1 := IntWalk.i64_in _ (by omega)
                have hsl : s.out.length ≤ 48 := by omega
                clear oO oG hbi hu hwq
                by_cases hlen : (s.out.length : Int) = (N : Int) - 1
                · have d1 : ((s.out.length : Int) != (N : Int) - 1) = false := by rw [hlen]; exact bne_self_eq_false _
                  have HB1 := Lib.hid (show ctB N xs = true from by
                    unfold ctB
                    rw [HV.out, Int.toNat_natCast, ← HE2.out, decide_eq_true hlen]; rfl)
                  have HL1 := Lib.hid (show ctL N xs = s.out from by unfold ctL; rw [if_pos HB1.out, Int.toNat_natCast, HE2.out])
                  have HC1 := Lib.hid (show ctC N xs = s.c from by unfold ctC; rw [if_pos HB1.out, Int.toNat_natCast, HE2.out])
                  clear hlen
                  go_wp2_with fail
                  go_ret3
                  exact ⟨_, _, _, ret_LIBk HC1.out.symm HB1.out.symm, by rw [HL1.out]; exact OwnI.low oO2 (by have := hW.size; omega), hbW⟩
                · have d1 : ((s.out.length : Int) != (N : Int) - 1) = true := by rw [bne_iff_ne]; exact hlen
                  have HB1 := Lib.hid (show ctB N xs = false from by
                    unfold ctB
                    rw [HV.out, Int.toNat_natCast, ← HE2.out, decide_eq_false hlen]; rfl)
                  have HL1 := Lib.hid (show ctL N xs = [] from by unfold ctL; rw [HB1.out]; rfl)
                  have HC1 := Lib.hid (show ctC N xs = 0 from by unfold ctC; rw [HB1.out]; rfl)
                  clear hlen
                  go_wp2_with fail
                  go_ret3
                  exact ⟨none, 0, 0, ret_LIBk HC1.out.symm HB1.out.symm, by rw [HL1.out]; exact OwnI.nil_ _ _ _, hbW⟩
              · obtain ⟨_, B', hB', s', ho', hc', he', hK'⟩ := HNEXT.out i hbi
                rw [hbi]
                have HO' := Lib.hid ho'
                have HC' := Lib.hid hc'
                have HE' := Lib.hid (he'.symm.trans HE.out)
                have HK' := Lib.hid hK'
                have hi' : (i : Int) < (n : Int) := by omega
                have d2 : decide ((i : Int) < 0) = false := decide_eq_false (by omega)
                obtain ⟨⟨a0, a1⟩, ⟨b0, b1⟩, _, _, cc0, cc1⟩ := HVB.out i hij
                have HFR := Lib.hid (show (xs.getD i default).fr = ((frA xs (i : Int) : Nat) : Int) from by unfold frA; rw [Int.toNat_natCast]; omega)
                have HTO := Lib.hid (show (xs.getD i default).to_ = ((toA xs (i : Int) : Nat) : Int) from by unfold toA; rw [Int.toNat_natCast]; omega)
                have HCO := Lib.hid (show coA xs (i : Int) = (xs.getD i default).cost from by unfold coA; rw [Int.toNat_natCast])
                have hfN : frA xs (i : Int) < N := by have := HFR.out; omega
                have htN : toA xs (i : Int) < N := by have := HTO.out; omega
                obtain ⟨ad, hAad, _⟩ := h8.at_ hij
                have oG2 := OwnI.below oG hbq
                have oO2 := OwnI.below oO hbq
                have hu2 := hu.below hbq
                have HUP := Lib.hid (fun (W : World) (u : Upd (blk O) wq W) => show Upd (blk (some ⟨gG, 0, none⟩)) wo W from hu2.then u (fun b hb2 hS => by
                  obtain ⟨z, z1, z2⟩ := hS
                  have := (OwnI.lt oO2 z1).1
                  exfalso
                  have z2 : z.block = b := z2
                  omega))
                have HOG4 := Lib.hid (fun (W : World) (u : Upd (blk O) wq W) => OwnI.upd oG2 u (fun ad ha => by
                  cases ha
                  rintro ⟨z, z1, z2⟩
                  have := (OwnI.lt oO2 z1).1
                  have z2 : z.block = gG := z2
                  omega))
                have HF4 := Lib.hid (fun (W : World) (u : Upd (blk O) wq W) => show W.cell? ⟨w.heap.size, 1, none⟩ = some (.slice (some ad) n c) ∧ ArcCells W (ad.add (i * 4)) (xs.getD i default) ∧ W.cell? ⟨gG, toA xs (i : Int), none⟩ = some (.int .i64 (H.getD (toA xs (i : Int)) 0)) ∧ W.cell? ⟨gG, frA xs (i : Int), none⟩ = some (.int .i64 (H.getD (frA xs (i : Int)) 0)) from by
                  obtain ⟨ad2, e2, _, e4⟩ := (h7.out.updZ (HUP.out W u) HSX.out).at_ hij
                  rw [hAad] at e2
                  cases e2
                  exact ⟨by rw [← hAad]; exact ((K4.out.upd (HUP.out W u) HSB.out).cell 1), e4, OwnI.cell (HOG4.out W u) htN, OwnI.cell (HOG4.out W u) hfN⟩)
                subst hAad
                have HJT := Lib.hid (fun (f t : Int) j (hj : j < N) => joinTo_at (G := H) (f := f) (t := t) (j := j) (by rw [HHL.out]; exact hj))
                have HJS := Lib.hid (fun (f t : Int) j (hj : j < N) => joinTo_same (G := H) (f := f) (t := t) (j := j) (by rw [HHL.out]; exact hj))
                generalize xs.getD i default = x at *
                obtain ⟨af, at_, ar, aq⟩ := x
                replace HFR := Lib.hid (show af = ((frA xs (i : Int) : Nat) : Int) from HFR.out)
                replace HTO := Lib.hid (show at_ = ((toA xs (i : Int) : Nat) : Int) from HTO.out)
                replace HCO := Lib.hid (show coA xs (i : Int) = aq from HCO.out)
                replace cc0 : -1000 ≤ aq := cc0
                replace cc1 : aq ≤ 1000 := cc1
                rw [HCO.out] at HC'
                rw [HFR.out, HTO.out] at HF4
                generalize frA xs (i : Int) = f at *
                generalize toA xs (i : Int) = t at *
                generalize hfh : H.getD f 0 = hf at *
                generalize hth : H.getD t 0 = ht at *
                have vc : IntKind.i64.wrap (s.c + aq) = s.c + aq := IntWalk.i64_in _ (by omega)
                have hsz4 := hu2.size
                have ho48 : s.out.length ≤ 48 := by omega
                clear a0 a1 b0 b1 hbi ho' hc' he' hK' hfh hth oO oG hu
                go_wp2_with (at_builtin; refine wp_append_int _ _ rfl _ _ _ rfl 2 wo.heap.size Try.underlying26 info64 O s.out.length oc _ rfl oO2 rfl (by omega) hsz4 ?_; intro g4 c4 w4 o4 u4 b4 hg4; obtain ⟨x1, ⟨x2, x3, x4, x5⟩, x6, x7⟩ := HF4.out w4 u4)
                have oG4 := HOG4.out w4 u4
                have HU4 := Lib.hid (HUP.out w4 u4)
                have hg4lo : wo.heap.size ≤ g4 := (OwnI.lt o4 rfl).1
                have hgne : gG ≠ g4 := by omega
                go_loopg [13, 108] N (fun r _ iv wi => ∃ j : Nat, r = N - j ∧ j ≤ N ∧ iv = .int .i64 (j : Int) ∧ OwnI 2 w1.heap.size wi (some ⟨gG, 0, none⟩) N cq ((H.take j).map (repl ht hf) ++ H.drop j) ∧ Upd (blk (some ⟨gG, 0, none⟩)) w4 wi)
                case atStart => exact ⟨0, by omega, by omega, rfl, by simpa using oG4, Upd.refl _ _⟩
                case round =>
                  clear oG4 x1 x2 x3 x4 x5 x6 x7
                  obtain ⟨j, hr, hj, rfl, o, hu⟩ := hrel
                  have HRJ2 := Lib.hid hr
                  clear hr
                  by_cases hlt : j < N
                  · obtain ⟨s1, s2⟩ := HJT.out ht hf j hlt
                    have HS2 := Lib.hid s2
                    have HSAME := Lib.hid (HJS.out ht hf j hlt)
                    have c1 := OwnI.cell o hlt
                    rw [s1] at c1
                    have f1 := OwnI.free o j
                    clear s1 s2
                    generalize H.getD j 0 = z at *
                    by_cases hz : z = ht
                    · have d1 : (z == ht) = true := by rw [beq_iff_eq]; exact hz
                      have HZ := Lib.hid (show repl ht hf z = hf by unfold repl; rw [if_pos hz])
                      have oS := OwnI.set o j hf
                      have uS := hu.setCell (p := ⟨gG, j, none⟩) (.inl ⟨_, rfl, rfl⟩) (.int .i64 hf)
                      rw [HZ.out] at HS2
                      rw [HS2.out] at oS
                      clear hz o hu
                      go_wp2_with fail
                      go_roundg (N - (j + 1))
                      case measure => rw [HRJ2.out]; omega
                      case rel => exact ⟨j + 1, rfl, by omega, by go_num, oS, uS⟩
                    · have d1 : (z == ht) = false := by rw [beq_eq_false_iff_ne]; exact hz
                      have HZ := Lib.hid (HSAME.out (show repl ht hf z = z by unfold repl; rw [if_neg hz]))
                      clear hz
                      go_wp2_with fail
                      go_roundg (N - (j + 1))
                      case measure => rw [HRJ2.out]; omega
                      case rel => exact ⟨j + 1, rfl, by omega, by go_num, by rw [HZ.out]; exact o, hu⟩
                  · obtain rfl : N = j := by omega
                    rw [List.take_of_length_le (by rw [HHL.out]; exact Nat.le_refl _), List.drop_eq_nil_of_le (by rw [HHL.out]; exact Nat.le_refl _), List.append_nil] at o
                    have o5 := OwnI.upd o4 hu (fun ad ha => by
                      cases ha
                      rintro ⟨z, z1, z2⟩
                      injection z1 with z1
                      subst z1
                      exact hgne z2)
                    have hu5 := HU4.out.trans hu
                    have HOL := Lib.hid (show s'.out.length = s.out.length + 1 from by rw [HO'.out]; simp)
                    clear hu o4
                    go_wp2_with fail
                    go_roundg B'.length
                    case measure => rw [HR.out]; exact hB'
                    case rel => exact ⟨B', s', H.map (repl ht hf), some ⟨g4, 0, none⟩, c4, rfl, by rw [HOL.out], by rw [HC'.out], by rw [HOL.out]; omega, by rw [HOL.out, HC'.out]; omega, by rw [HOL.out, HC'.out]; omega, HK', HE', o, by rw [HO'.out]; simpa using o5, hu5⟩
end Go.Proofs.Ytigaopfhjimpmaa
