/- LeastBins: the reference's walk and the contracts. -/
import Derived.Test.YthhkgeeomhhegaaBins
import Derived.Test.YthhkgeeomhhegaaFirst
namespace Go.Proofs.Ythhkgeeomhhegaa
open Go.RowKit

theorem pow_bdt (n : Nat) (h2 : n ≤ 10) : ((2 ^ n : Nat) : Int) = (2 : Int) ^ n ∧ 1 ≤ 2 ^ n ∧ 2 ^ n ≤ 1024 :=
  ⟨by exact_mod_cast rfl, Nat.two_pow_pos n, Nat.pow_le_pow_right (n := 2) (by omega) h2⟩
theorem lbAt_bd {zs : List Int} {room : Int} (hr : 0 ≤ room) (hf : ∀ j, j < zs.length → zs.getD j 0 ≤ room) (m : Nat) : 0 ≤ lbAt zs room m ∧ lbAt zs room m ≤ zs.length := by
  obtain ⟨k, f, e, _⟩ := lb_sound hr hf m m (Nat.le_refl m)
  refine ⟨by omega, ?_⟩
  by_cases h0 : m = 0
  · subst h0
    show (0 : Int) ≤ _
    omega
  · rw [lbAt_pos (by omega)]
    exact lbP_le _ _ _
theorem lbP_zero {zs : List Int} {room : Int} {V : Nat → Int} {m : Nat} {acc : Int} : ∀ f, lbP zs room V m f 0 acc = acc
  | 0 => rfl
  | f + 1 => by rw [lbP, if_pos rfl]
theorem lbP_step {zs : List Int} {room : Int} {V : Nat → Int} {m p f : Nat} {acc : Int} (hp : 0 < p) (hf : p ≤ f) : ∃ f', f = f' + 1 ∧ p - 1 ≤ f' ∧ lbP zs room V m f p acc = lbP zs room V m f' ((p - 1) &&& m) (if sumTo zs p zs.length ≤ room then min acc (V (m ^^^ p) + 1) else acc) := by
  cases f with
  | zero => omega
  | succ f' => exact ⟨f', rfl, by omega, by rw [lbP, if_neg (by omega)]⟩
def lbM (zs : List Int) (room : Int) (K m : Nat) : List Int := lbTo zs room m ++ List.replicate (K - m) 0
theorem lbM_len (zs : List Int) (room : Int) {K m : Nat} (h : m ≤ K) : (lbM zs room K m).length = K := by
  unfold lbM; rw [List.length_append, lbTo_len, List.length_replicate]; omega
theorem lbM_low {zs : List Int} {room : Int} {K m q : Nat} (h : q < m) : (lbM zs room K m).getD q 0 = (lbTo zs room m).getD q 0 := by
  unfold lbM
  simp only [List.getD]
  rw [List.getElem?_append_left (by rw [lbTo_len]; exact h)]
theorem lbM_set {zs : List Int} {room : Int} {K m : Nat} (h : m < K) : (lbM zs room K m).set m (lbAt zs room m) = lbM zs room K (m + 1) := by
  unfold lbM
  rw [List.set_append_right _ _ (by rw [lbTo_len]; exact Nat.le_refl _), lbTo_len, Nat.sub_self, show K - m = (K - (m + 1)) + 1 by omega, List.replicate_succ, List.set_cons_zero, lbTo, List.append_assoc]
  rfl
theorem lbM_one (zs : List Int) (room : Int) {K : Nat} (h : 1 ≤ K) : lbM zs room K 1 = List.replicate K 0 := by
  unfold lbM
  rw [show lbTo zs room 1 = [0] from rfl, show K = (K - 1) + 1 by omega, List.replicate_succ]
  rfl
theorem l00Min_t (a b : Int) (w : World) : Calls Try.prog 36 #[.int .i64 a, .int .i64 b] w fun e w' => e = .returned (.int .i64 (min a b)) ∧ w' = w := by
  by_cases h : a < b
  · have H := Lib.hid (show min a b = a by omega)
    go_enter Try.func36, Try.ntmps36
    go_wp2
    go_ret
    exact ⟨ret_int H.out.symm, rfl⟩
  · have H := Lib.hid (show min a b = b by omega)
    go_enter Try.func36, Try.ntmps36
    go_wp2
    go_ret
    exact ⟨ret_int H.out.symm, rfl⟩
def leastB (zs : List Int) (room : Int) : Bool := fitB zs room && decide (zs.length ≤ 10)
def leastV (zs : List Int) (room : Int) : Int := if leastB zs room = true then fwF zs room zs.length [] else 0
theorem leastV_no {zs : List Int} {room : Int} (h : leastB zs room = false) : leastV zs room = 0 := by unfold leastV; rw [h]; rfl
theorem leastV_yes {zs : List Int} {room : Int} (h : leastB zs room = true) : leastV zs room = fwF zs room zs.length [] := by unfold leastV; rw [if_pos h]

set_option maxRecDepth 100000 in
set_option maxHeartbeats 3200000 in
theorem specLeastBins_r (A : Option Addr) (n c : Nat) (zs : List Int) (room : Int) (w : World) (h : IntsAt w A n zs) (hl : n ≤ 1048576) :
    Calls Try.prog 14 #[.slice A n c, .int .i64 room] w (RetV (.tuple #[.int .i64 (leastV zs room), .bool (leastB zs room)]) w) := by
  have HL := Lib.hid h.len
  cases hf : fitB zs room
  · have HB := Lib.hid (show leastB zs room = false by unfold leastB; rw [hf]; rfl)
    go_enter Try.func14, Try.ntmps14
    go_wp2_with (go_at_call 34; refine (l04Fits_any _ _ _ zs _ _ h hl).mono ?_; rw [hf]; rintro e w1 ⟨rfl, rfl⟩)
    go_ret2
    exact ⟨ret_IB (leastV_no HB.out).symm HB.out.symm, Below.refl _ _⟩
  · by_cases hn : n ≤ 10
    · have HB := Lib.hid (show leastB zs room = true by unfold leastB; rw [hf, HL.out, decide_eq_true hn]; rfl)
      obtain ⟨hs, hroom, hle⟩ := fitB_iff.1 hf
      obtain ⟨n1, n2, hz⟩ := sizesB_bd hs
      have HZ := Lib.hid hz
      have HLE := Lib.hid hle
      have HBD := Lib.hid (lbAt_bd hroom.1 hle)
      have HV := Lib.hid (show lbAt zs room (2 ^ n - 1) = fwF zs room zs.length [] by rw [← HL.out]; exact bins_same hroom.1 (fun j hj => by have := HZ.out j hj; omega) hle)
      obtain ⟨hP, hP1, hP2⟩ := pow_bdt n hn
      have HP := Lib.hid hP
      rw [HL.out] at n1 n2
      have HSM := Lib.hid (fun (W : World) (h1 : IntsAt W A n zs) => l04Sums_any A n c zs W h1 (by omega) HZ.out)
      clear hs hz hle
      obtain ⟨K, hK⟩ : ∃ K, K = 2 ^ n := ⟨_, rfl⟩
      have HK := Lib.hid hK
      rw [← hK] at hP hP1 hP2 HSM HV
      clear hK hP
      go_enter Try.func14, Try.ntmps14
      go_wp2_with (go_at_call 34; refine (l04Fits_any _ _ _ zs _ _ h hl).mono ?_; rw [hf]; rintro e w1 ⟨rfl, rfl⟩)
      refine (HSM.out _ h).mono ?_
      rintro e w1 ⟨S, ns, cs, rfl, oS, bS⟩
      obtain rfl : ns = K := by rw [← oS.len, sumsL_len]
      obtain ⟨gS, rfl, _, _, _, _⟩ := oS.pos (by omega)
      go_wp2_with (at_make; refine wp_make_ints _ rfl _ _ 22 rfl 2 Try.underlying22 info64 .i64 .i64 _ _ ns rfl rfl rfl rfl (by omega) ?_; intro w2 gB oB bB)
      have hsSB : Sep (some ⟨gS, 0, none⟩) (some ⟨gB, 0, none⟩) := sep_new oS oB
      have oB0 := OwnI.low oB bS.size
      rw [← lbM_one zs room hP1] at oB0
      have oS0 := oS.below bB
      have hb0 := below_ext bS bS.size bB
      clear oB oS bB bS
      go_loopg [8] (ns - 1) (fun r mv wi => ∃ (m : Nat), r = ns - m ∧ 1 ≤ m ∧ m ≤ ns ∧ mv = .int .i64 m ∧ OwnI 2 w.heap.size wi (some ⟨gB, 0, none⟩) ns ns (lbM zs room ns m) ∧ OwnI 2 w.heap.size wi (some ⟨gS, 0, none⟩) ns cs (sumsL zs ns) ∧ Below w.heap.size w wi)
      case atStart => exact ⟨1, rfl, Nat.le_refl _, hP1, rfl, oB0, oS0, hb0⟩
      case round =>
        clear oB0 oS0 hb0
        obtain ⟨m, hr, hm1, hm, rfl, oB, oS, hb⟩ := hrel
        have HR := Lib.hid hr
        clear hr
        have hgB := (OwnI.lt oB rfl).1
        by_cases hlm : m < ns
        · have hlm' : (m : Int) < (ns : Int) := by omega
          have HMS := Lib.hid (lbM_set (zs := zs) (room := room) hlm)
          have HML := Lib.hid (lbM_len zs room (K := ns) hm)
          have HMQ := Lib.hid (fun q (hq : q < m) => show (lbM zs room ns m).getD q 0 = lbAt zs room q by rw [lbM_low hq, lbTo_get m hq])
          have HNW := Lib.hid (show lbP zs room (fun q => (lbTo zs room m).getD q 0) m m m (n : Int) = lbAt zs room m by rw [lbAt_pos (by omega), HL.out])
          have HVQ := Lib.hid (fun q (hq : q < m) => show (fun q => (lbTo zs room m).getD q 0) q = lbAt zs room q from lbTo_get m hq)
          generalize (fun q => (lbTo zs room m).getD q 0) = V at *
          have fm := OwnI.free oB m
          have cm := OwnI.cell oB hlm
          have oS1 := oS.far (p := ⟨gB, m, none⟩) (fun ad had e => hsSB _ ⟨gB, 0, none⟩ had rfl e) (.int .i64 (n : Int))
          have oB1 := OwnI.set oB m (n : Int)
          have hb1 := hb.setCell (p := ⟨gB, m, none⟩) hgB (.int .i64 (n : Int))
          generalize lbM zs room ns m = M at *
          generalize M.getD m 0 = z at *
          go_wp2_with fail
          generalize wr.setCell ⟨gB, m, none⟩ (.int .i64 (n : Int)) = W1 at *
          clear fm cm oB oS hb
          go_loopg [9] (m + 1) (fun r pv wi => ∃ (p f : Nat) (acc : Int), r = p + 1 ∧ p ≤ m ∧ pv = .int .i64 p ∧ Hid (p ≤ f ∧ lbP zs room V m f p acc = lbAt zs room m) ∧ OwnI 2 w.heap.size wi (some ⟨gB, 0, none⟩) ns ns (M.set m acc) ∧ OwnI 2 w.heap.size wi (some ⟨gS, 0, none⟩) ns cs (sumsL zs ns) ∧ Below w.heap.size w wi ∧ Hid (subP p m))
          case atStart => exact ⟨m, m, (n : Int), rfl, Nat.le_refl _, rfl, Lib.hid ⟨Nat.le_refl _, HNW.out⟩, oB1, oS1, hb1, Lib.hid (by unfold subP; rw [Nat.and_self])⟩
          case round =>
            clear oB1 oS1 hb1
            obtain ⟨p, f, acc, hr, hp, rfl, HF, oB, oS, hb, HSP⟩ := hrel
            have HRP := Lib.hid hr
            clear hr
            by_cases hp0 : 0 < p
            · obtain ⟨f', e1, e2, e3⟩ := lbP_step (zs := zs) (room := room) (V := V) (m := m) (acc := acc) hp0 HF.out.1
              have HE3 := Lib.hid e3
              have HE2 := Lib.hid e2
              clear e1 e2 e3
              have hand : bits .and .i64 ((p : Int) - 1) (m : Int) = (((p - 1) &&& m : Nat) : Int) := by
                rw [show (p : Int) - 1 = ((p - 1 : Nat) : Int) by omega]
                exact i64_and_nat (p - 1) m (by omega) (by omega)
              have hv1 : IntKind.i64.wrap ((p : Int) - 1) = (p : Int) - 1 := IntWalk.i64_in _ (by omega)
              have hle2 : (p - 1) &&& m ≤ p - 1 := Nat.and_le_left
              have HS2 := Lib.hid (show subP ((p - 1) &&& m) m by unfold subP; rw [Nat.and_assoc, Nat.and_self])
              have hpn : p < ns := by omega
              have hpn' : (p : Int) < (ns : Int) := by omega
              have cS := OwnI.cell oS hpn
              rw [sumsL_get zs ns p hpn] at cS
              generalize hpm : (p - 1) &&& m = p2 at *
              clear hpm
              generalize sumTo zs p zs.length = sm at *
              by_cases hfit : sm ≤ room
              · have hx : m ^^^ p < m := xor_lt HSP.out hp0
                have HVX := Lib.hid (HVQ.out _ hx)
                have HMX := Lib.hid (HMQ.out _ hx)
                have hxor := i64_xor_nat m p (by omega) (by omega)
                have hne : m ^^^ p ≠ m := by omega
                have cq := OwnI.cell oB (j := m ^^^ p) (by omega)
                rw [getD_set (by rw [HML.out]; exact hlm), if_neg hne, HMX.out] at cq
                have cM := OwnI.cell oB hlm
                rw [getD_set (by rw [HML.out]; exact hlm), if_pos rfl] at cM
                have fM := OwnI.free oB m
                have hbd := HBD.out (m ^^^ p)
                rw [HL.out] at hbd
                have HNX := Lib.hid (show lbP zs room V m f' p2 (min acc (lbAt zs room (m ^^^ p) + 1)) = lbAt zs room m by rw [← HF.out.2, HE3.out, if_pos hfit, HVX.out])
                clear HMX HVX
                generalize lbAt zs room (m ^^^ p) = v at *
                generalize m ^^^ p = q at *
                have hq' : (q : Int) < (ns : Int) := by omega
                have v1 : IntKind.i64.wrap (v + 1) = v + 1 := IntWalk.i64_in _ (by omega)
                have oB2 := OwnI.set oB m (min acc (v + 1))
                rw [List.set_set] at oB2
                have oS2 := oS.far (p := ⟨gB, m, none⟩) (fun ad had e => hsSB _ ⟨gB, 0, none⟩ had rfl e) (.int .i64 (min acc (v + 1)))
                have hb2 := hb.setCell (p := ⟨gB, m, none⟩) hgB (.int .i64 (min acc (v + 1)))
                clear oB oS hb
                go_wp2_with fail
                refine wp_region_still_tail 15 (by kernel_rfl) (by kernel_rfl) ?_
                change wpStill _ _ wr.drew (fun a' => wpList _ _ _ _ a' wr.drew) _ _
                simp only [List.take_succ_cons, List.take_zero, List.drop_succ_cons, List.drop_zero]
                repeat still_step
                still_call (l00Min_t _ _ _)
                repeat still_step
                refine wpStill_nil ?_
                go_wp2_with fail
                go_roundg (p2 + 1)
                case measure => rw [HRP.out]; omega
                case rel => exact ⟨p2, f', _, rfl, by omega, rfl, Lib.hid ⟨by have := HE2.out; omega, HNX.out⟩, oB2.drew, oS2.drew, hb2.drew, HS2⟩
              · have HNX := Lib.hid (show lbP zs room V m f' p2 acc = lbAt zs room m by rw [← HF.out.2, HE3.out, if_neg hfit])
                go_wp2_with fail
                go_roundg (p2 + 1)
                case measure => rw [HRP.out]; omega
                case rel => exact ⟨p2, f', acc, rfl, by omega, rfl, Lib.hid ⟨by have := HE2.out; omega, HNX.out⟩, oB, oS, hb, HS2⟩
            · obtain rfl : p = 0 := by omega
              have HEND := Lib.hid (show acc = lbAt zs room m by rw [← HF.out.2, lbP_zero])
              rw [HEND.out, HMS.out] at oB
              go_wp2_with fail
              go_roundg (ns - (m + 1))
              case measure => rw [HR.out]; omega
              case rel => exact ⟨m + 1, rfl, by omega, by omega, by go_num, oB, oS, hb⟩
        · have e : ns = m := by omega
          subst e
          have hk1 : IntKind.i64.wrap ((ns : Int) - 1) = ((ns - 1 : Nat) : Int) := by rw [show (ns : Int) - 1 = ((ns - 1 : Nat) : Int) by omega]; exact IntWalk.i64_in _ (by omega)
          have hk2 : (ns : Int) - 1 = ((ns - 1 : Nat) : Int) := by omega
          have hk3 : ((ns - 1 : Nat) : Int) < (ns : Int) := by omega
          have cE := OwnI.cell oB (j := ns - 1) (by omega)
          rw [lbM_low (by omega), lbTo_get ns (by omega), HV.out] at cE
          have HVV := Lib.hid (leastV_yes HB.out)
          generalize fwF zs room zs.length [] = z at *
          go_wp2_with fail
          go_ret2
          exact ⟨ret_IB HVV.out.symm HB.out.symm, hb⟩
    · have HB := Lib.hid (show leastB zs room = false by unfold leastB; rw [hf, HL.out, decide_eq_false hn]; rfl)
      go_enter Try.func14, Try.ntmps14
      go_wp2_with (go_at_call 34; refine (l04Fits_any _ _ _ zs _ _ h hl).mono ?_; rw [hf]; rintro e w1 ⟨rfl, rfl⟩)
      go_ret2
      exact ⟨ret_IB (leastV_no HB.out).symm HB.out.symm, Below.refl _ _⟩
end Go.Proofs.Ythhkgeeomhhegaa
