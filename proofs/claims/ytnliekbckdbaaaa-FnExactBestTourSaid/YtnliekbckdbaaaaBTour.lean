/- BestTour of the program: the walks. -/
import Derived.Test.YtnliekbckdbaaaaBTourPlain
import Derived.Test.YtnliekbckdbaaaaGrid
namespace Go.Proofs.Ytnliekbckdbaaaa
open Go.RowKit

theorem ret_LIbt {A : Option Addr} {n c : Nat} {i j : Int} (h : i = j) : Ending.returned (.tuple #[.slice A n c, .int .i64 i]) = .returned (.tuple #[.slice A n c, .int .i64 j]) := by rw [h]
theorem beg_rng {N : Nat} {b : List Int} {m at_ f : Nat} (h : BegOk N b m at_ f) : ∀ j, j < b.length → ∃ x : Nat, b.getD j 0 = (x : Int) ∧ x < N := fun j hj => by
  have : b.getD j 0 ∈ b := by simp [List.getD, List.getElem?_eq_getElem hj]
  exact h.rng _ this
/-- a slice that is nil just if its list is empty -/
def NilOk (Q : Option Addr) (n c : Nat) (zs : List Int) : Prop := zs = [] → Q = none ∧ n = 0 ∧ c = 0
theorem upd_ne {acc x : List Int × Int} (h : acc.1 ≠ []) (h2 : ¬ x.2 < acc.2) : upd acc x = acc := by unfold upd; rw [if_neg]; rintro (h3 | h3); exact h h3; exact h2 h3

set_option maxRecDepth 100000 in
set_option maxHeartbeats 3200000 in
theorem bestTour_any (base : Nat) (A : Option Addr) (n c N : Nat) (ws : List Int) (hn : n = N * N) (hN1 : 1 ≤ N) (hN : N ≤ 10) (hcn : cityN n = N) (hw : ∀ j, j < n → 0 ≤ ws.getD j 0 ∧ ws.getD j 0 ≤ 1000) :
    ∀ (f : Nat) (b : List Int) (m at_ : Nat) (acc : List Int × Int) (B : Option Addr) (nb cb : Nat) (Q : Option Addr) (nq cq : Nat) (w : World), BegOk N b m at_ f → IntsAt w A n ws → OwnI 2 base w B nb cb b → OwnI 2 base w Q nq cq acc.1 → NilOk Q nq cq acc.1 → base ≤ w.heap.size →
    Calls Try.prog 51 #[.slice A n c, .slice B nb cb, .slice Q nq cq, .int .i64 acc.2] w fun e w' => ∃ (P : Option Addr) (np cp : Nat), e = .returned (.tuple #[.slice P np cp, .int .i64 (btF ws N f b acc).2]) ∧ OwnI 2 base w' P np cp (btF ws N f b acc).1 ∧ NilOk P np cp (btF ws N f b acc).1 ∧ Below w.heap.size w w' := by
  have HNN := Lib.hid hn
  have HCN := Lib.hid hcn
  have HW := Lib.hid hw
  have hn100 : n ≤ 100 := by rw [hn]; exact Nat.le_trans (Nat.mul_le_mul hN hN) (by omega)
  clear hn hcn hw
  intro f
  induction f with
  | zero =>
    intro b m at_ acc B nb cb Q nq cq w hb h oB oQ hnil hbase
    have HB := Lib.hid hb
    have HL := Lib.hid oB.len
    have HE := Lib.hid (show btF ws N 0 b acc = upd acc (b, longTo ws b N N) from rfl)
    have hnbN : nb = N := by have h1 := hb.len; have h2 := HL.out; omega
    have hbne : b ≠ [] := fun e => by have := hb.pos; rw [e] at this; simp at this
    have HBN := Lib.hid hbne
    clear hb hbne
    subst hnbN
    have HRG := Lib.hid (show ∀ j, j < nb → ∃ x : Nat, b.getD j 0 = (x : Int) ∧ x < nb from fun j hj => beg_rng HB.out j (by rw [HL.out]; exact hj))
    obtain ⟨al, av⟩ := acc
    have oQ : OwnI 2 base w Q nq cq al := oQ
    have hnil : NilOk Q nq cq al := hnil
    go_enter Try.func51, Try.ntmps51
    go_wp2_with fail
    refine (cities_any A n c _ (by omega)).mono ?_
    rw [HCN.out]
    rintro e w1 ⟨rfl, rfl⟩
    go_wp2_with fail
    refine (size_any _ _).mono ?_
    rintro e w1 ⟨rfl, rfl⟩
    go_wp2_with fail
    refine (tourLong_any A n c ws B nb cb b _ h oB.ints HNN.out hN1 hN HW.out HRG.out).mono ?_
    rintro e w1 ⟨rfl, b1⟩
    have oB1 := OwnI.below oB b1
    have oQ1 := OwnI.below oQ b1
    generalize longTo ws b nb nb = lg at *
    by_cases hal : al = []
    · have hnl := fun (w : World) => Lib.run_eql_slice_nil (P := Try.prog) w 22 2 none 0 0 0 0 Try.underlying22
      have HE2 := Lib.hid (show btF ws nb 0 b (al, av) = (b, lg) from by rw [HE.out]; unfold upd; rw [if_pos (.inl hal)])
      obtain ⟨rfl, rfl, rfl⟩ := hnil hal
      clear hal
      go_wp2_with fail
      go_ret2
      exact ⟨B, nb, cb, ret_LIbt (by rw [HE2.out]), by rw [HE2.out]; exact oB1, by rw [HE2.out]; exact fun h => absurd h HBN.out, b1⟩
    · obtain ⟨gq, rfl, _⟩ := oQ1.pos (by rw [← oQ1.len]; exact List.length_pos_iff.2 hal)
      have hnl := fun (w : World) => Lib.run_eql_slice_nil (P := Try.prog) w 22 2 (some ⟨gq, 0, none⟩) nq cq 0 0 Try.underlying22
      by_cases hlt : lg < av
      · have HE2 := Lib.hid (show btF ws nb 0 b (al, av) = (b, lg) from by rw [HE.out]; unfold upd; rw [if_pos (.inr hlt)])
        clear hal
        go_wp2_with fail
        go_ret2
        exact ⟨B, nb, cb, ret_LIbt (by rw [HE2.out]), by rw [HE2.out]; exact oB1, by rw [HE2.out]; exact fun h => absurd h HBN.out, b1⟩
      · have HE2 := Lib.hid (show btF ws nb 0 b (al, av) = (al, av) from by rw [HE.out]; exact upd_ne hal hlt)
        have HAL := Lib.hid hal
        clear hal
        go_wp2_with fail
        go_ret2
        exact ⟨some ⟨gq, 0, none⟩, nq, cq, ret_LIbt (by rw [HE2.out]), by rw [HE2.out]; exact oQ1, by rw [HE2.out]; exact fun h => absurd h HAL.out, b1⟩
  | succ f ih =>
    intro b m at_ acc B nb cb Q nq cq w hb h oB oQ hnil hbase
    have IH := Lib.hid ih
    have HB := Lib.hid hb
    have HL := Lib.hid oB.len
    have hnb : nb + (f + 1) = N := by have h1 := hb.len; have h2 := HL.out; omega
    have hnbN : ((nb : Int) == (N : Int)) = false := by rw [beq_eq_false_iff_ne]; omega
    have HE := Lib.hid (show btLoop (btF ws N f) b (N - 1) 1 acc = btF ws N (f + 1) b acc from rfl)
    have hb0 := Below.refl w.heap.size w
    have HNB := Lib.hid hnb
    have hnb10 : nb ≤ 10 := by omega
    clear hb ih hnb
    obtain ⟨al, av⟩ := acc
    have oQ : OwnI 2 base w Q nq cq al := oQ
    have HNL := Lib.hid (show NilOk Q nq cq al from hnil)
    clear hnil
    go_enter Try.func51, Try.ntmps51
    go_wp2_with fail
    refine (cities_any A n c _ (by omega)).mono ?_
    rw [HCN.out]
    rintro e w1 ⟨rfl, rfl⟩
    go_wp2_with fail
    refine (size_any _ _).mono ?_
    rintro e w1 ⟨rfl, rfl⟩
    go_wp2_with fail
    go_loopg [2, 3, 12] (N - 1) (fun r qv lv cv wi => ∃ (k : Nat) (acc' : List Int × Int) (Q : Option Addr) (nq cq : Nat), r = N - k ∧ 1 ≤ k ∧ k ≤ N ∧ cv = .int .i64 k ∧ qv = .slice Q nq cq ∧ lv = .int .i64 acc'.2 ∧ OwnI 2 base wi Q nq cq acc'.1 ∧ Hid (NilOk Q nq cq acc'.1 ∧ btLoop (btF ws N f) b (N - k) k acc' = btF ws N (f + 1) b (al, av)) ∧ Below w.heap.size w wi)
    case atStart => exact ⟨1, (al, av), Q, nq, cq, rfl, by omega, by omega, rfl, rfl, rfl, oQ, Lib.hid ⟨HNL.out, HE.out⟩, hb0⟩
    case round =>
      clear oQ hb0 HNL HE
      obtain ⟨k, acc', Q, nq, cq, hr, hk1, hkN, rfl, rfl, rfl, oQ, HH, hbw⟩ := hrel
      have HR := Lib.hid hr
      clear hr
      have oBw := OwnI.below oB hbw
      have hw2 := h.below hbw
      have hszw := hbw.size
      by_cases hlt : k < N
      · have HNX := Lib.hid (show btLoop (btF ws N f) b (N - k) k acc' = btLoop (btF ws N f) b (N - (k + 1)) (k + 1) (if hasB b (k : Int) = true then acc' else btF ws N f (b ++ [(k : Int)]) acc') from by
          rw [show N - k = N - (k + 1) + 1 by omega]; rfl)
        cases hhas : hasB b (k : Int)
        · have HE2 := Lib.hid (show btLoop (btF ws N f) b (N - (k + 1)) (k + 1) (btF ws N f (b ++ [(k : Int)]) acc') = btF ws N (f + 1) b (al, av) from by
            have := HNX.out
            rw [hhas, HH.out.2] at this
            exact this.symm)
          have HBS := Lib.hid (beg_snoc HB.out (by omega) (show m.testBit k = true by rw [beg_cand HB.out hk1 hlt, hhas]; rfl))
          have HNQ := Lib.hid HH.out.1
          clear HH HNX
          obtain ⟨wo, rfl⟩ : ∃ wo : World, wo = wr := ⟨_, rfl⟩
          go_wp2_with fail
          refine (has_any B nb cb b k _ oBw.ints (by omega)).mono ?_
          rw [hhas]
          rintro e w1 ⟨rfl, rfl⟩
          clear hhas
          go_wp2_with fail
          refine (copyInts_any B nb cb b _ oBw.ints (by omega)).mono ?_
          rintro e w2 ⟨B2, c2, rfl, o2, b2⟩
          have hs2 := b2.size
          have hbase2 : base ≤ wo.heap.size := Nat.le_trans hbase hszw
          go_wp2_with (at_builtin; (refine wp_append_int _ _ rfl _ _ _ rfl 2 wo.heap.size Try.underlying22 info64 B2 nb c2 _ rfl o2 rfl (by omega) hs2 ?_; intro g5 c5 w6 o6 u6 b6 hg6))
          have hb6 := b2.trans b6
          have oQ6 := OwnI.below oQ hb6
          refine (IH.out (b ++ [(k : Int)]) (clr m k) k acc' (some ⟨g5, 0, none⟩) (nb + 1) c5 Q nq cq w6 HBS.out (hw2.below hb6) (OwnI.low o6 hbase2) oQ6 HNQ.out (Nat.le_trans hbase2 hb6.size)).mono ?_
          rintro e w7 ⟨P, np, cp, rfl, o7, hnp, b7⟩
          have HNP := Lib.hid hnp
          have hb7 := below_ext hbw hszw (ext_trans hb6 b7)
          clear hnp o2 o6 u6 b6 hg6 b2 oQ6 oQ b7 hb6 HBS HNQ oBw hw2
          generalize btF ws N f (b ++ [(k : Int)]) acc' = acc2 at *
          go_wp2_with fail
          go_roundg (N - (k + 1))
          case measure => rw [HR.out]; omega
          case rel => exact ⟨k + 1, acc2, P, np, cp, rfl, by omega, by omega, by go_num, rfl, rfl, o7, Lib.hid ⟨HNP.out, HE2.out⟩, hb7⟩
        · have HE2 := Lib.hid (show btLoop (btF ws N f) b (N - (k + 1)) (k + 1) acc' = btF ws N (f + 1) b (al, av) from by
            have := HNX.out
            rw [hhas, HH.out.2] at this
            exact this.symm)
          have HNQ := Lib.hid HH.out.1
          clear HH HNX
          obtain ⟨wo, rfl⟩ : ∃ wo : World, wo = wr := ⟨_, rfl⟩
          go_wp2_with fail
          refine (has_any B nb cb b k _ oBw.ints (by omega)).mono ?_
          rw [hhas]
          rintro e w1 ⟨rfl, rfl⟩
          clear hhas
          go_wp2_with fail
          go_roundg (N - (k + 1))
          case measure => rw [HR.out]; omega
          case rel => exact ⟨k + 1, acc', Q, nq, cq, rfl, by omega, by omega, by go_num, rfl, rfl, oQ, Lib.hid ⟨HNQ.out, HE2.out⟩, hbw⟩
      · have e : N = k := by omega
        have HE2 := Lib.hid (show acc' = btF ws N (f + 1) b (al, av) from by
          have := HH.out.2
          rw [show N - k = 0 by omega] at this
          exact this)
        have HNQ := Lib.hid HH.out.1
        subst e
        clear HH
        go_wp2_with fail
        go_ret2
        exact ⟨Q, nq, cq, ret_LIbt (by rw [← HE2.out]), by rw [← HE2.out]; exact oQ, by rw [← HE2.out]; exact HNQ.out, hbw⟩
theorem ways_ok {ws : List Int} {N : Nat} (hl : ws.length = N * N) (hw : ∀ j, j < ws.length → 0 ≤ ws.getD j 0 ∧ ws.getD j 0 ≤ 1000) : WaysOk ws N := fun i k hi hk => by
  refine hw (i * N + k) ?_
  rw [hl]
  have : i * N + N ≤ N * N := by
    have := Nat.mul_le_mul_right N (show i + 1 ≤ N by omega)
    rw [Nat.add_mul, Nat.one_mul] at this
    exact this
  omega
def bestTV (ws : List Int) : List Int × Int := if citiesB ws = true then (bestT ws (cityN ws.length).toNat, longTo ws (bestT ws (cityN ws.length).toNat) (cityN ws.length).toNat (cityN ws.length).toNat) else ([], 0)
theorem bestTV_no {ws : List Int} (h : citiesB ws = false) : bestTV ws = ([], 0) := by unfold bestTV; rw [if_neg (by rw [h]; decide)]
theorem bestTV_yes {ws : List Int} {N : Nat} (h : citiesB ws = true) (hN : cityN ws.length = N) : bestTV ws = (bestT ws N, longTo ws (bestT ws N) N N) := by unfold bestTV; rw [if_pos h, hN, Int.toNat_natCast]
theorem greedyF_len {ws : List Int} {N : Nat} : ∀ (f : Nat) (b : List Int) (m at_ : Nat), (greedyF ws N f b m at_).length = b.length + f
  | 0, b, _, _ => rfl
  | f + 1, b, m, at_ => by rw [greedyF, greedyF_len f, List.length_append]; show b.length + 1 + f = _; omega
theorem bestTV_len (ws : List Int) : (bestTV ws).1.length ≤ 1048576 := by
  cases h : citiesB ws
  · rw [bestTV_no h]; simp
  · obtain ⟨N, h1, h2, h3, h4, h5⟩ := cities_bd h
    rw [bestTV_yes h h4]
    show (greedyF ws N (N - 1) [0] (fullM N) 0).length ≤ _
    rw [greedyF_len]; simp; omega
theorem ret_LIBbt {A : Option Addr} {n c : Nat} {i j : Int} {a b : Bool} (h1 : i = j) (h2 : a = b) : Ending.returned (.tuple #[.slice A n c, .int .i64 i, .bool a]) = .returned (.tuple #[.slice A n c, .int .i64 j, .bool b]) := by rw [h1, h2]
set_option maxHeartbeats 1600000 in
theorem implBestTour_r (A : Option Addr) (n c : Nat) (ws : List Int) (w : World) (h : IntsAt w A n ws) (hl : n ≤ 1048576) :
    Calls Try.prog 21 #[.slice A n c] w (RetLIB 2 (bestTV ws).1 (bestTV ws).2 (citiesB ws) w) := by
  have HL := Lib.hid h.len
  cases hc : citiesB ws
  · have HV := Lib.hid (bestTV_no hc)
    go_enter Try.func21, Try.ntmps21
    go_wp2_with fail
    refine (implAreCities_any A n c ws _ h hl).mono ?_
    rw [hc]
    rintro e w1 ⟨rfl, hd⟩
    go_wp2_with fail
    go_ret3
    exact ⟨none, 0, 0, ret_LIBbt (by rw [HV.out]) rfl, by rw [HV.out]; exact OwnI.nil_ _ _ _, hd.below⟩
  · obtain ⟨N, h1, h2, h3, h4, h5⟩ := cities_bd hc
    have HV := Lib.hid ((bestTV_yes hc h4))
    have HN := Lib.hid (show n = N * N by rw [← HL.out]; exact h3)
    have HCN := Lib.hid (show cityN n = N by rw [← HL.out]; exact h4)
    have HW := Lib.hid (show ∀ j, j < n → 0 ≤ ws.getD j 0 ∧ ws.getD j 0 ≤ 1000 from fun j hj => h5 j (by rw [HL.out]; exact hj))
    have HB := Lib.hid (bestT_ok (ways_ok h3 h5) h1 (by omega))
    clear h3 h4 h5
    go_enter Try.func21, Try.ntmps21
    go_wp2_with fail
    refine (implAreCities_any A n c ws _ h hl).mono ?_
    rw [hc]
    rintro e w1 ⟨rfl, hd⟩
    clear hc
    have hbd := hd.below
    have ho : OwnI 2 w.heap.size (w1.alloc (.cells #[.int .i64 0] 2)) (some ⟨w1.heap.size, 0, none⟩) 1 1 [0] := World.ownsRow_lit (e := 2) (base := w.heap.size) (size := 1) w1 #[.int .i64 0] 1 hbd.size (by simp [maxLen]) rfl
    have hb1 := hbd.alloc hbd.size (.cells #[.int .i64 0] 2)
    have hw1 := (h.below hbd).alloc (.cells #[.int .i64 0] 2)
    clear hd hbd
    go_wp2_with fail
    generalize w1.alloc (.cells #[.int .i64 0] 2) = W1 at *
    refine (bestTour_any w.heap.size A n c N ws HN.out h1 h2 HCN.out HW.out (N - 1) [0] (fullM N) 0 ([], 0) _ 1 1 none 0 0 _ (beg_start h1 (by omega)) hw1 ho (OwnI.nil_ _ _ _) (fun _ => ⟨rfl, rfl, rfl⟩) hb1.size).mono ?_
    rw [HB.out]
    rintro e w2 ⟨P, np, cp, rfl, o2, _, b2⟩
    go_wp2_with fail
    go_ret3
    exact ⟨P, np, cp, ret_LIBbt (by rw [HV.out]) rfl, by rw [HV.out]; exact o2, below_ext hb1 hb1.size b2⟩
end Go.Proofs.Ytnliekbckdbaaaa
