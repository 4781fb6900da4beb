/- RootTree of the program: the walk (written by gen_root.py). -/
import Derived.Test.YtigaopfhjimpmaaDoorJ2
import Derived.Test.YtigaopfhjimpmaaDoorZGrid
import Derived.Deep.RegionHeld3
namespace Go.Proofs.YtigaopfhjimpmaaDoor
open Go.RowKit

theorem ret_LIr {A : Option Addr} {n c : Nat} {i j : Int} (h : i = j) : Ending.returned (.tuple #[.slice A n c, .int .i64 i]) = .returned (.tuple #[.slice A n c, .int .i64 j]) := by rw [h]
/-- a slice that is nil just if its list is empty -/
def NilR (Q : Option Addr) (n c : Nat) (zs : List Int) : Prop := zs = [] → Q = none ∧ n = 0 ∧ c = 0
theorem updGr {w w' : World} {A : Option Addr} {n c : Nat} (hg : w.grownBy w' (Value.slice A n c).ownBlock) : Upd (blk A) w w' := (Upd.refl _ _).grown hg (by
  intro k hk
  cases A with
  | none => cases hk
  | some ad => injection hk with hk; exact .inl ⟨ad, rfl, hk⟩)
theorem own_snocr {T base n c : Nat} {w : World} {A : Option Addr} {zs : List Int} {x : Int} (h : w.ownsRow base T 1 (.slice A n c) n (zs.map (Value.int .i64) ++ [.int .i64 x])) : OwnI T base w A n c (zs ++ [x]) := by
  unfold OwnI
  rw [List.map_append]
  exact h
theorem leafR_no {xs : List ArcR} {N r : Nat} {zs : List Int} {st : List Int × Int} (h : rootedR xs zs r N N = false) : leafR xs N r zs st = st := by
  unfold leafR
  rw [if_neg (fun hh => by rw [h] at hh; cases hh.1)]
theorem rootedR_step {xs : List ArcR} {zs : List Int} {r N k : Nat} (h : rootedR xs zs r N k = true) (h2 : reachR xs zs r N k = true) : rootedR xs zs r N (k + 1) = true := by
  rw [rootedR, h, h2]; rfl

set_option maxRecDepth 100000 in
set_option maxHeartbeats 3200000 in
theorem rootTree_any (base : Nat) (A : Option Addr) (n c : Nat) (xs : List ArcR) (N r : Nat) (hx : xs.length = n) (hn : n ≤ 48) (hN2 : 2 ≤ N) (hN : N ≤ 6) (hr : r < N)
    (hv : ∀ k, k < n → (0 ≤ (xs.getD k default).fr ∧ (xs.getD k default).fr < N) ∧ (-1000 ≤ (xs.getD k default).cost ∧ (xs.getD k default).cost ≤ 1000)) :
    ∀ (f : Nat) (zs : List Int) (st : List Int × Int) (B : Option Addr) (nb cb : Nat) (D : Option Addr) (nd cd : Nat) (w : World), ArcsAt w A n xs → OwnI 2 base w B nb cb zs → OwnI 2 base w D nd cd st.1 → NilR D nd cd st.1 → base ≤ w.heap.size → nb + f = N → ChR xs r zs → StR N st →
    Calls Tryd.prog 41 #[.agg #[.int .i64 N, .slice A n c], .int .i64 r, .slice B nb cb, .slice D nd cd, .int .i64 st.2] w fun e w' => ∃ (P : Option Addr) (np cp : Nat), e = .returned (.tuple #[.slice P np cp, .int .i64 (rtF xs N r f zs st).2]) ∧ OwnI 2 base w' P np cp (rtF xs N r f zs st).1 ∧ NilR P np cp (rtF xs N r f zs st).1 ∧ Below w.heap.size w w' := by
  have HX := Lib.hid hx
  have HV := Lib.hid hv
  have HCO := Lib.hid (show ∀ k, k < xs.length → -1000 ≤ (xs.getD k default).cost ∧ (xs.getD k default).cost ≤ 1000 from fun k hk => (HV.out k (by rw [← HX.out]; exact hk)).2)
  have HPR := Lib.hid (fun (zs : List Int) => rprev_lt (xs := xs) (zs := zs) (r := r) (N := N) (fun k hk => (HV.out k (by rw [← HX.out]; exact hk)).1) (by omega))
  obtain ⟨i0, hi0, hz0, hz1, hz2⟩ := info_parts info64
  clear hx hv
  intro f
  induction f with
  | zero =>
    intro zs st B nb cb D nd cd w hNw oBw oQ hnil hbase hnb hch hst
    have HCH := Lib.hid hch
    have HL := Lib.hid oBw.len
    have HE := Lib.hid (show rtF xs N r 0 zs st = leafR xs N r zs st from rfl)
    obtain rfl : nb = N := by omega
    have HNQ := Lib.hid hnil
    have HCB := Lib.hid (costR_bd (xs := xs) (zs := zs) (fun k hk => by rcases HCH.out k hk with ⟨_, h2⟩ | ⟨_, _, h2⟩ <;> omega) HCO.out)
    have HRS := Lib.hid (fun k (hk : k < nb) => reachR_more (xs := xs) (zs := zs) (r := r) (HPR.out zs) hk)
    clear hch hst hnb hnil
    have hB0 : 0 < nb := by omega
    obtain ⟨gB, rfl, _⟩ := oBw.pos hB0
    obtain ⟨sl, sv⟩ := st
    have oQ : OwnI 2 base w D nd cd sl := oQ
    have KX := Lib.hid (Blk.new w 31 #[.int .i64 nb, .slice A n c])
    have hW : Below w.heap.size w (w.alloc (.cells #[.int .i64 nb, .slice A n c] 31)) := (Below.refl _ _).alloc (Nat.le_refl _) _
    have hA := hNw.alloc (.cells #[.int .i64 nb, .slice A n c] 31)
    have oB1 := OwnI.alloc oBw (.cells #[.int .i64 nb, .slice A n c] 31)
    have oQ1 := OwnI.alloc oQ (.cells #[.int .i64 nb, .slice A n c] 31)
    clear hNw oBw oQ
    go_enter Tryd.func41, Tryd.ntmps41
    go_wp2_with fail
    generalize w.alloc (.cells #[.int .i64 nb, .slice A n c] 31) = W at *
    refine (size_any _ _).mono ?_
    rintro e w1 ⟨rfl, rfl⟩
    have p0 := KX.out.cell 0
    have hnn : ((nb : Int) == (nb : Int)) = true := by simp
    go_wp2_with fail
    clear p0
    go_loopg [13, 29] nb (fun rr cv kv wi => ∃ (k : Nat), rr = nb - k ∧ k ≤ nb ∧ kv = .int .i64 k ∧ cv = .int .i64 (costR xs zs k) ∧ Hid (rootedR xs zs r nb k = true) ∧ Drew W wi)
    case atStart => exact ⟨0, rfl, Nat.zero_le _, rfl, rfl, Lib.hid rfl, Drew.refl _⟩
    case round =>
      obtain ⟨k, hrr, hk, rfl, rfl, HRK, q, rfl⟩ := hrel
      have HR := Lib.hid hrr
      clear hrr
      have p0 := (KX.out.drewN q).cell 0
      have p1 := (KX.out.drewN q).cell 1
      have oB2 := OwnI.drewN oB1 q
      have oQ2 := OwnI.drewN oQ1 q
      have hA2 := hA.drewN q
      have hW2 := below_drewN hW q
      have hd2 : Drew W (W.drewN q) := ⟨q, rfl⟩
      obtain ⟨wo, hwo⟩ : ∃ wo : World, wo = W.drewN q := ⟨_, rfl⟩
      rw [← hwo] at p0 p1 oB2 oQ2 hA2 hW2 hd2 ⊢
      have HWO := Lib.hid hwo
      clear hwo
      by_cases hlk : k < nb
      · have hlk' : (k : Int) < (nb : Int) := by omega
        have cB := OwnI.cell oB2 hlk
        have HCS := Lib.hid (show costR xs zs (k + 1) = if zs.getD k 0 < 0 then costR xs zs k else costR xs zs k + (xs.getD (zs.getD k 0).toNat default).cost from rfl)
        have hcb := HCB.out k (by rw [HL.out]; omega)
        rcases HCH.out k (by rw [HL.out]; exact hlk) with ⟨e1, e2⟩ | ⟨e1, e2, e3⟩
        · have HCS2 := Lib.hid (show costR xs zs (k + 1) = costR xs zs k by rw [HCS.out, e2]; rfl)
          have HRN := Lib.hid (rootedR_step HRK.out (show reachR xs zs r nb k = true from (reachR_iff _ _).2 ⟨0, by omega, e1⟩))
          rw [e2] at cB
          clear e1 e2
          generalize costR xs zs k = cst at *
          go_wp2_with fail
          go_roundg (nb - (k + 1))
          case measure => rw [HR.out]; omega
          case rel => exact ⟨k + 1, rfl, by omega, by go_num, by rw [HCS2.out], HRN, hd2⟩
        · obtain ⟨i, hi⟩ := Int.eq_ofNat_of_zero_le e2
          rw [hi] at cB e3
          have hi2 : i < n := by rw [← HX.out]; omega
          have hi2' : (i : Int) < (n : Int) := by omega
          obtain ⟨ad, rfl, _, ca⟩ := hA2.at_ hi2
          have c3 := ca.2.2.2
          have HCS2 := Lib.hid (show costR xs zs (k + 1) = costR xs zs k + (xs.getD i default).cost by rw [HCS.out, hi, if_neg (by omega), Int.toNat_natCast])
          have hco := (HV.out i hi2).2
          have hkr : ((k : Int) != (r : Int)) = true := by rw [bne_iff_ne]; omega
          clear ca e1 e2 hi
          generalize (xs.getD i default).cost = q3 at *
          generalize costR xs zs k = cst at *
          have hni : ¬ (i : Int) < 0 := by omega
          go_wp2_with fail
          clear cB c3
          go_loopg [16, 17] (nb + 2) (fun rr av sv wi => ∃ (s a : Nat), rr = nb + 2 - s ∧ s ≤ nb + 1 ∧ a < nb ∧ av = .int .i64 a ∧ sv = .int .i64 s ∧ Hid (reachR xs zs r (nb + 1 - s) a = reachR xs zs r nb k) ∧ Drew wo wi)
          case atStart => exact ⟨0, k, rfl, Nat.zero_le _, hlk, rfl, rfl, Lib.hid (HRS.out k hlk), Drew.refl _⟩
          case round =>
            obtain ⟨s, a, hrr, hs, ha, rfl, rfl, HRE, q2, rfl⟩ := hrel
            have HR2 := Lib.hid hrr
            clear hrr
            have p0 : (wo.drewN q2).cell? ⟨w.heap.size, 0, none⟩ = some (.int .i64 nb) := p0
            have p1 : (wo.drewN q2).cell? ⟨w.heap.size, 1, none⟩ = some (.slice (some ad) n c) := p1
            have cBa : (wo.drewN q2).cell? ⟨gB, a, none⟩ = some (.int .i64 (zs.getD a 0)) := OwnI.cell oB2 ha
            have ha' : (a : Int) < (nb : Int) := by omega
            have hd3 : Drew wo (wo.drewN q2) := ⟨q2, rfl⟩
            have oQ3 := OwnI.drewN oQ2 q2
            have hA3 := hA2.drewN q2
            have hW3 := below_drewN hW2 q2
            generalize wo.drewN q2 = W3 at *
            by_cases har : a = r
            · have HRR := Lib.hid (rootedR_step HRK.out (show reachR xs zs r nb k = true by rw [← HRE.out]; exact (reachR_iff _ _).2 ⟨0, by omega, har⟩))
              subst har
              have hd0 : ((a : Int) != (a : Int)) = false := by simp
              clear cBa
              go_wp2_with fail
              go_roundg (nb - (k + 1))
              case measure => rw [HR.out]; omega
              case rel => exact ⟨k + 1, rfl, by omega, by go_num, by rw [HCS2.out], HRR, hd2.trans hd3⟩
            · have hd0 : ((a : Int) != (r : Int)) = true := by rw [bne_iff_ne]; omega
              by_cases hsN : s ≤ nb
              · have HNX := Lib.hid (show reachR xs zs r (nb + 1 - (s + 1)) (rprev xs zs a) = reachR xs zs r nb k by rw [← HRE.out, show nb + 1 - s = (nb + 1 - (s + 1)) + 1 by omega, reachR, if_neg har])
                have hpl := HPR.out zs a ha
                rcases HCH.out a (by rw [HL.out]; exact ha) with ⟨e1, _⟩ | ⟨_, e2, e3⟩
                · exact absurd e1 har
                · obtain ⟨i2, hi⟩ := Int.eq_ofNat_of_zero_le e2
                  have hi3 : i2 < n := by rw [← HX.out]; omega
                  have hi3' : (i2 : Int) < (n : Int) := by omega
                  obtain ⟨ad', hA', _, ca⟩ := hA3.at_ hi3
                  injection hA' with hA'
                  subst hA'
                  have c0 : W3.cell? (ad.add (i2 * 4)) = some (.int .i64 (xs.getD i2 default).fr) := ca.1
                  have hfr := (HV.out i2 hi3).1
                  have HRP := Lib.hid (show (xs.getD i2 default).fr = (rprev xs zs a : Int) by unfold rprev; rw [hi, Int.toNat_natCast]; omega)
                  rw [HRP.out] at c0
                  rw [hi] at cBa
                  have hsN' : (s : Int) ≤ (nb : Int) := by omega
                  clear ca e2 e3 hi hfr
                  generalize rprev xs zs a = a2 at *
                  go_wp2_with fail
                  go_quiet (fail)
                  go_wp2_with fail
                  go_roundg (nb + 2 - (s + 1))
                  case measure => rw [HR2.out]; omega
                  case rel => exact ⟨s + 1, a2, rfl, by omega, hpl, rfl, by go_num, HNX, hd3.step _⟩
              · have HNO := Lib.hid (show reachR xs zs r nb k = false by rw [← HRE.out, show nb + 1 - s = 0 by omega, reachR]; exact decide_eq_false har)
                have HLF := Lib.hid (leafR_no (st := (sl, sv)) (rootedR_no hlk HNO.out nb hlk))
                have hsN' : ¬ (s : Int) ≤ (nb : Int) := by omega
                clear cBa
                go_wp2_with fail
                go_ret2
                exact ⟨D, nd, cd, ret_LIr (by rw [HE.out, HLF.out]), by rw [HE.out, HLF.out]; exact oQ3, by rw [HE.out, HLF.out]; exact HNQ.out, hW3⟩
      · obtain rfl : nb = k := by omega
        have HZN := Lib.hid (show zs ≠ [] from fun e => by have := HL.out; rw [e] at this; simp at this; omega)
        by_cases hal : sl = []
        · have hnl := fun (w : World) => Lib.run_eql_slice_nil (P := Tryd.prog) w 26 2 none 0 0 0 0 Tryd.underlying26
          have HLF := Lib.hid (show leafR xs nb r zs (sl, sv) = (zs, costR xs zs nb) by unfold leafR; rw [if_pos ⟨HRK.out, .inl (by rw [hal]; rfl)⟩])
          obtain ⟨rfl, rfl, rfl⟩ := HNQ.out hal
          clear hal
          generalize costR xs zs nb = cst at *
          go_wp2_with fail
          go_ret2
          exact ⟨some ⟨gB, 0, none⟩, nb, cb, ret_LIr (by rw [HE.out, HLF.out]), by rw [HE.out, HLF.out]; exact oB2, by rw [HE.out, HLF.out]; exact fun h => absurd h HZN.out, hW2⟩
        · obtain ⟨gq, rfl, _⟩ := oQ2.pos (by rw [← oQ2.len]; exact List.length_pos_iff.2 hal)
          have hnl := fun (w : World) => Lib.run_eql_slice_nil (P := Tryd.prog) w 26 2 (some ⟨gq, 0, none⟩) nd cd 0 0 Tryd.underlying26
          by_cases hlt : costR xs zs nb < sv
          · have HLF := Lib.hid (show leafR xs nb r zs (sl, sv) = (zs, costR xs zs nb) by unfold leafR; rw [if_pos ⟨HRK.out, .inr hlt⟩])
            clear hal
            generalize costR xs zs nb = cst at *
            go_wp2_with fail
            go_ret2
            exact ⟨some ⟨gB, 0, none⟩, nb, cb, ret_LIr (by rw [HE.out, HLF.out]), by rw [HE.out, HLF.out]; exact oB2, by rw [HE.out, HLF.out]; exact fun h => absurd h HZN.out, hW2⟩
          · have HLF := Lib.hid (show leafR xs nb r zs (sl, sv) = (sl, sv) by
              unfold leafR
              rw [if_neg]
              rintro ⟨_, h2 | h2⟩
              · exact hal (List.eq_nil_of_length_eq_zero h2)
              · exact hlt h2)
            have HAL := Lib.hid hal
            clear hal
            generalize costR xs zs nb = cst at *
            go_wp2_with fail
            go_ret2
            exact ⟨some ⟨gq, 0, none⟩, nd, cd, ret_LIr (by rw [HE.out, HLF.out]), by rw [HE.out, HLF.out]; exact oQ2, by rw [HE.out, HLF.out]; exact HNQ.out, hW2⟩
  | succ f ih =>
    intro zs st B nb cb D nd cd w hNw oBw oQ hnil hbase hnb hch hst
    have IH := Lib.hid ih
    have HCH := Lib.hid hch
    have HL := Lib.hid oBw.len
    have HST0 := Lib.hid hst
    have HNQ0 := Lib.hid hnil
    have KX0 := Lib.hid (Blk.new w 31 #[.int .i64 N, .slice A n c])
    have hW : Below w.heap.size w (w.alloc (.cells #[.int .i64 N, .slice A n c] 31)) := (Below.refl _ _).alloc (Nat.le_refl _) _
    have hA := hNw.alloc (.cells #[.int .i64 N, .slice A n c] 31)
    have oB1 := OwnI.alloc oBw (.cells #[.int .i64 N, .slice A n c] 31)
    have oQ1 := OwnI.alloc oQ (.cells #[.int .i64 N, .slice A n c] 31)
    have hnn : ((nb : Int) == (N : Int)) = false := by rw [beq_eq_false_iff_ne]; omega
    clear ih hch hst hnil hNw oBw oQ
    go_enter Tryd.func41, Tryd.ntmps41
    go_wp2_with fail
    generalize w.alloc (.cells #[.int .i64 N, .slice A n c] 31) = W at *
    refine (size_any _ _).mono ?_
    rintro e w1 ⟨rfl, rfl⟩
    have p0 := KX0.out.cell 0
    by_cases hroot : nb = r
    · have HE := Lib.hid (show rtF xs N r (f + 1) zs st = rtF xs N r f (zs ++ [-1]) st by rw [rtF, if_pos (by rw [HL.out]; exact hroot)])
      have HCS := Lib.hid (HCH.out.root (by rw [HL.out]; exact hroot))
      have hrr : ((nb : Int) == (r : Int)) = true := by rw [beq_iff_eq]; omega
      clear hroot
      go_wp2_with fail
      clear p0
      have oBw := oB1
      have oQ := oQ1
      have hNw := hA
      have KX := KX0
      have HST := HST0
      have HNQ := HNQ0
      have HBS := Lib.hid (show base ≤ W.heap.size from Nat.le_trans hbase hW.size)
      clear oB1 oQ1 hA
      have hbC0 : Below W.heap.size W W.drew := Below.drew (Below.refl W.heap.size W)
      have hbA : Below W.heap.size W (W.alloc (.cells #[.int .i64 (-1)] 2)).drew := ((Below.refl W.heap.size W).alloc (Nat.le_refl _) _).drew
      have HBC := Lib.hid (oBw.ints.drew)
      have HBA := Lib.hid (oBw.ints.alloc (.cells #[.int .i64 (-1)] 2)).drew
      have HKA := Lib.hid (Blk.new W 2 #[.int .i64 (-1)]).drew
      have HKC := Lib.hid (fun (W' : World) (hW : Below W.heap.size W W') => (show W'.cell? ⟨w.heap.size, 0, none⟩ = some (.int .i64 N) ∧ W'.cell? ⟨w.heap.size, 1, none⟩ = some (.slice A n c) from ⟨(KX.out.ext hW).cell 0, (KX.out.ext hW).cell 1⟩))
      have HBW := Lib.hid oBw
      have HQW := Lib.hid oQ
      have HNW := Lib.hid hNw
      obtain ⟨k0, k1⟩ := HKC.out _ hbC0
      obtain ⟨k2, k3⟩ := HKC.out _ hbA
      clear oBw oQ hNw
      go_region_held3 (fun w' => w'.cell? ⟨w.heap.size, 0, none⟩ = some (.int .i64 N) ∧ w'.cell? ⟨w.heap.size, 1, none⟩ = some (.slice A n c))
        (first
          | exact ⟨by assumption, by assumption⟩)
        (first
          | (go_at_call 53; refine (copyInts_any B nb cb zs _ HBC.out (by omega)).mono ?_; rintro e w7 ⟨B2, c2, rfl, o2, b2⟩; obtain ⟨q2, q3⟩ := HKC.out w7 (ext_trans hbC0 b2); have HO2 := Lib.hid (OwnI.low o2 (Nat.le_refl W.heap.size)); have HB2 := Lib.hid (ext_trans hbC0 b2); obtain ⟨q4, q5⟩ := HKC.out (w7.alloc (.cells #[.int .i64 (-1)] 2)) ((ext_trans hbC0 b2).alloc ((ext_trans hbC0 b2).size) _); clear o2 b2)
          | (go_at_call 53; refine (copyInts_any B nb cb zs _ HBA.out (by omega)).mono ?_; rintro e w7 ⟨B2, c2, rfl, o2, b2⟩; obtain ⟨q2, q3⟩ := HKC.out w7 (below_ext hbA hbA.size b2); have HO2 := Lib.hid (OwnI.low o2 hbA.size); have HB2 := Lib.hid (below_ext hbA hbA.size b2); have HKE := Lib.hid (HKA.out.ext b2); clear o2 b2)
          | (go_at_call 41; refine (IH.out (zs ++ [-1]) st (some ⟨gg5, 0, none⟩) (nb + 1) cap5 D nd cd _ (HNW.out.below HB5.out) (OwnI.low HO5.out HBS.out) (OwnI.below HQW.out HB5.out) HNQ.out (Nat.le_trans HBS.out HB5.out.size) (by omega) HCS.out HST.out).mono ?_; rintro e w8 ⟨P, np, cp, rfl, o8, hnp8, b8⟩; obtain ⟨q6, q7⟩ := HKC.out w8 (ext_trans HB5.out b8); have HB8 := Lib.hid (ext_trans HB5.out b8); have HO8 := Lib.hid o8; have HN8 := Lib.hid hnp8; clear b8 o8 hnp8)
          | (refine step_append_lies _ (by rfl) _ _ _ (by rfl) W.heap.size 2 i0 _ 1 8 Tryd.underlying26 hi0 hz0 hz1 hz2 rfl (by omega) (.slice B2 nb c2) nb (zs.map (Value.int .i64)) (by rfl) (World.ownsRow.alloc HO2.out _) ⟨w7.heap.size, 0, none⟩ 1 1 [.int .i64 (-1)] (by rfl) (by rfl) (World.news_of_block (cs := #[.int .i64 (-1)]) (t := 2) (fr := (0, 0)) (heap_alloc_new w7 _)) (by simp [Value.oneCell']) (by omega) (by unfold maxLen; omega) (by omega) (by have := HB2.out.size; simp; omega) (w7.heap.size + 1) (by simp) ?_; intro gg5 cap5 w5 hown5 hgrow hat5 hlt5; have HB5 := Lib.hid (below_blk (HB2.out.alloc HB2.out.size _) (HB2.out.alloc HB2.out.size _).size (updGr hgrow) (HO2.out.alloc _) (Nat.le_refl _)); have HO5 := Lib.hid (own_snocr hown5); obtain ⟨q4, q5⟩ := HKC.out w5 HB5.out; clear hown5 hgrow hat5 hlt5)
          | (refine step_append_lies _ (by rfl) _ _ _ (by rfl) W.heap.size 2 i0 _ 1 8 Tryd.underlying26 hi0 hz0 hz1 hz2 rfl (by omega) (.slice B2 nb c2) nb (zs.map (Value.int .i64)) (by rfl) HO2.out ⟨W.heap.size, 0, none⟩ 1 1 [.int .i64 (-1)] (by rfl) (by rfl) (World.news_of_block (cs := #[.int .i64 (-1)]) (t := 2) (fr := (0, 0)) HKE.out) (by simp [Value.oneCell']) (by omega) (by unfold maxLen; omega) (by omega) (by have := HB2.out.size; omega) w7.heap.size rfl ?_; intro gg5 cap5 w5 hown5 hgrow hat5 hlt5; have HB5 := Lib.hid (below_blk HB2.out HB2.out.size (updGr hgrow) HO2.out (Nat.le_refl _)); have HO5 := Lib.hid (own_snocr hown5); obtain ⟨q4, q5⟩ := HKC.out w5 HB5.out; clear hown5 hgrow hat5 hlt5))
      all_goals
        go_wp2_with fail
        go_ret2
        exact ⟨P, np, cp, ret_LIr (by rw [HE.out]), by rw [HE.out]; exact HO8.out, by rw [HE.out]; exact HN8.out, below_ext hW hW.size HB8.out⟩
    · have HE := Lib.hid (show rtF xs N r (f + 1) zs st = rtTo xs nb (rtF xs N r f) zs st n by rw [rtF, if_neg (by rw [HL.out]; exact hroot), HL.out, HX.out])
      have HOK := Lib.hid (fun (i : Nat) (st' : List Int × Int) (hi : i < n) (h : StR N st') => rtF_ok HCO.out f (zs ++ [(i : Int)]) st' (by rw [List.length_append, List.length_singleton, HL.out]; omega) (HCH.out.arc (by rw [HL.out]; exact hroot) (by rw [HX.out]; exact hi)) h)
      have HRO := Lib.hid hroot
      have hrr : ((nb : Int) == (r : Int)) = false := by rw [beq_eq_false_iff_ne]; omega
      have p1 := KX0.out.cell 1
      have hbw0 := Below.refl W.heap.size W
      clear hroot
      go_wp2_with fail
      clear p0 p1
      go_loopg [3, 4, 99] n (fun rr dv lv kv wi => ∃ (k : Nat) (st' : List Int × Int) (D : Option Addr) (nd cd : Nat), rr = n - k ∧ k ≤ n ∧ kv = .int .i64 k ∧ dv = .slice D nd cd ∧ lv = .int .i64 st'.2 ∧ OwnI 2 base wi D nd cd st'.1 ∧ Hid (NilR D nd cd st'.1 ∧ st' = rtTo xs nb (rtF xs N r f) zs st k ∧ StR N st') ∧ Below W.heap.size W wi)
      case atStart => exact ⟨0, st, D, nd, cd, rfl, Nat.zero_le _, rfl, rfl, rfl, oQ1, Lib.hid ⟨HNQ0.out, rfl, HST0.out⟩, hbw0⟩
      case round =>
        clear oQ1 hbw0
        obtain ⟨k, st', D, nd, cd, hrr2, hk, rfl, rfl, rfl, oQ, HH, hbw⟩ := hrel
        have HR := Lib.hid hrr2
        clear hrr2
        by_cases hlk : k < n
        · have hlk' : (k : Int) < (n : Int) := by omega
          obtain ⟨ad, rfl, _, c0, c1, c2, c3⟩ := (hA.below hbw).at_ hlk
          have p1 := (KX0.out.ext hbw).cell 1
          have HNX := Lib.hid (show rtTo xs nb (rtF xs N r f) zs st (k + 1) = if (xs.getD k default).to_ = (nb : Int) then rtF xs N r f (zs ++ [(k : Int)]) st' else st' by rw [rtTo, ← HH.out.2.1])
          have HOKk := Lib.hid (HOK.out k st' hlk HH.out.2.2)
          generalize xs.getD k default = x at *
          obtain ⟨af, at_, ar, aq⟩ := x
          have ka := Blk.new wr 42 #[.int .i64 af, .int .i64 at_, .int .i64 ar, .int .i64 aq]
          have e1 := ka.cell 1
          have hbW := hbw.alloc hbw.size (.cells #[.int .i64 af, .int .i64 at_, .int .i64 ar, .int .i64 aq] 42)
          have oQW := OwnI.alloc oQ (.cells #[.int .i64 af, .int .i64 at_, .int .i64 ar, .int .i64 aq] 42)
          clear oQ hbw
          by_cases hto : at_ = (nb : Int)
          · have htt : (at_ == (nb : Int)) = true := by rw [beq_iff_eq]; exact hto
            have HNX2 := Lib.hid (show rtTo xs nb (rtF xs N r f) zs st (k + 1) = rtF xs N r f (zs ++ [(k : Int)]) st' by rw [HNX.out]; exact if_pos hto)
            clear hto ka
            go_wp2_with fail
            generalize wr.alloc (.cells #[.int .i64 af, .int .i64 at_, .int .i64 ar, .int .i64 aq] 42) = W1 at *
            clear c0 c1 c2 c3 p1 e1
            have oBw := OwnI.below oB1 hbW
            have oQ := oQW
            have hNw := hA.below hbW
            have KX := Lib.hid (KX0.out.ext hbW)
            have HST := Lib.hid HH.out.2.2
            have HNQ := Lib.hid HH.out.1
            have HBS := Lib.hid (show base ≤ W1.heap.size from Nat.le_trans hbase (Nat.le_trans hW.size hbW.size))
            have HCS := Lib.hid (HCH.out.arc (i := k) (by rw [HL.out]; exact HRO.out) (by rw [HX.out]; exact hlk))
            clear oQW
            have hbC0 : Below W1.heap.size W1 W1.drew := Below.drew (Below.refl W1.heap.size W1)
            have hbA : Below W1.heap.size W1 (W1.alloc (.cells #[.int .i64 ((k : Int))] 2)).drew := ((Below.refl W1.heap.size W1).alloc (Nat.le_refl _) _).drew
            have HBC := Lib.hid (oBw.ints.drew)
            have HBA := Lib.hid (oBw.ints.alloc (.cells #[.int .i64 ((k : Int))] 2)).drew
            have HKA := Lib.hid (Blk.new W1 2 #[.int .i64 ((k : Int))]).drew
            have HKC := Lib.hid (fun (W' : World) (hW : Below W1.heap.size W1 W') => (show W'.cell? ⟨w.heap.size, 0, none⟩ = some (.int .i64 N) ∧ W'.cell? ⟨w.heap.size, 1, none⟩ = some (.slice (some ad) n c) from ⟨(KX.out.ext hW).cell 0, (KX.out.ext hW).cell 1⟩))
            have HBW := Lib.hid oBw
            have HQW := Lib.hid oQ
            have HNW := Lib.hid hNw
            obtain ⟨k0, k1⟩ := HKC.out _ hbC0
            obtain ⟨k2, k3⟩ := HKC.out _ hbA
            clear oBw oQ hNw
            go_region_held3 (fun w' => w'.cell? ⟨w.heap.size, 0, none⟩ = some (.int .i64 N) ∧ w'.cell? ⟨w.heap.size, 1, none⟩ = some (.slice (some ad) n c))
              (first
                | exact ⟨by assumption, by assumption⟩)
              (first
                | (go_at_call 53; refine (copyInts_any B nb cb zs _ HBC.out (by omega)).mono ?_; rintro e w7 ⟨B2, c2, rfl, o2, b2⟩; obtain ⟨q2, q3⟩ := HKC.out w7 (ext_trans hbC0 b2); have HO2 := Lib.hid (OwnI.low o2 (Nat.le_refl W1.heap.size)); have HB2 := Lib.hid (ext_trans hbC0 b2); obtain ⟨q4, q5⟩ := HKC.out (w7.alloc (.cells #[.int .i64 ((k : Int))] 2)) ((ext_trans hbC0 b2).alloc ((ext_trans hbC0 b2).size) _); clear o2 b2)
                | (go_at_call 53; refine (copyInts_any B nb cb zs _ HBA.out (by omega)).mono ?_; rintro e w7 ⟨B2, c2, rfl, o2, b2⟩; obtain ⟨q2, q3⟩ := HKC.out w7 (below_ext hbA hbA.size b2); have HO2 := Lib.hid (OwnI.low o2 hbA.size); have HB2 := Lib.hid (below_ext hbA hbA.size b2); have HKE := Lib.hid (HKA.out.ext b2); clear o2 b2)
                | (go_at_call 41; refine (IH.out (zs ++ [(k : Int)]) st' (some ⟨gg5, 0, none⟩) (nb + 1) cap5 D nd cd _ (HNW.out.below HB5.out) (OwnI.low HO5.out HBS.out) (OwnI.below HQW.out HB5.out) HNQ.out (Nat.le_trans HBS.out HB5.out.size) (by omega) HCS.out HST.out).mono ?_; rintro e w8 ⟨P, np, cp, rfl, o8, hnp8, b8⟩; obtain ⟨q6, q7⟩ := HKC.out w8 (ext_trans HB5.out b8); have HB8 := Lib.hid (ext_trans HB5.out b8); have HO8 := Lib.hid o8; have HN8 := Lib.hid hnp8; clear b8 o8 hnp8)
                | (refine step_append_lies _ (by rfl) _ _ _ (by rfl) W1.heap.size 2 i0 _ 1 8 Tryd.underlying26 hi0 hz0 hz1 hz2 rfl (by omega) (.slice B2 nb c2) nb (zs.map (Value.int .i64)) (by rfl) (World.ownsRow.alloc HO2.out _) ⟨w7.heap.size, 0, none⟩ 1 1 [.int .i64 ((k : Int))] (by rfl) (by rfl) (World.news_of_block (cs := #[.int .i64 ((k : Int))]) (t := 2) (fr := (0, 0)) (heap_alloc_new w7 _)) (by simp [Value.oneCell']) (by omega) (by unfold maxLen; omega) (by omega) (by have := HB2.out.size; simp; omega) (w7.heap.size + 1) (by simp) ?_; intro gg5 cap5 w5 hown5 hgrow hat5 hlt5; have HB5 := Lib.hid (below_blk (HB2.out.alloc HB2.out.size _) (HB2.out.alloc HB2.out.size _).size (updGr hgrow) (HO2.out.alloc _) (Nat.le_refl _)); have HO5 := Lib.hid (own_snocr hown5); obtain ⟨q4, q5⟩ := HKC.out w5 HB5.out; clear hown5 hgrow hat5 hlt5)
                | (refine step_append_lies _ (by rfl) _ _ _ (by rfl) W1.heap.size 2 i0 _ 1 8 Tryd.underlying26 hi0 hz0 hz1 hz2 rfl (by omega) (.slice B2 nb c2) nb (zs.map (Value.int .i64)) (by rfl) HO2.out ⟨W1.heap.size, 0, none⟩ 1 1 [.int .i64 ((k : Int))] (by rfl) (by rfl) (World.news_of_block (cs := #[.int .i64 ((k : Int))]) (t := 2) (fr := (0, 0)) HKE.out) (by simp [Value.oneCell']) (by omega) (by unfold maxLen; omega) (by omega) (by have := HB2.out.size; omega) w7.heap.size rfl ?_; intro gg5 cap5 w5 hown5 hgrow hat5 hlt5; have HB5 := Lib.hid (below_blk HB2.out HB2.out.size (updGr hgrow) HO2.out (Nat.le_refl _)); have HO5 := Lib.hid (own_snocr hown5); obtain ⟨q4, q5⟩ := HKC.out w5 HB5.out; clear hown5 hgrow hat5 hlt5))
            all_goals
              generalize hst2 : rtF xs N r f (zs ++ [(k : Int)]) st' = st2 at *
              have HST2 := Lib.hid hst2
              clear hst2
              go_wp2_with fail
              go_roundg (n - (k + 1))
              case measure => rw [HR.out]; omega
              case rel => exact ⟨k + 1, st2, P, np, cp, rfl, by omega, by go_num, rfl, rfl, HO8.out, Lib.hid ⟨HN8.out, HNX2.out.symm, HOKk.out⟩, below_ext hbW hbW.size HB8.out⟩
          · have htt : (at_ == (nb : Int)) = false := by rw [beq_eq_false_iff_ne]; exact hto
            have HNX2 := Lib.hid (show rtTo xs nb (rtF xs N r f) zs st (k + 1) = st' by rw [HNX.out]; exact if_neg hto)
            clear hto ka
            go_wp2_with fail
            go_roundg (n - (k + 1))
            case measure => rw [HR.out]; omega
            case rel => exact ⟨k + 1, st', D, nd, cd, rfl, by omega, by go_num, rfl, rfl, oQW, Lib.hid ⟨HH.out.1, HNX2.out.symm, HH.out.2.2⟩, hbW⟩
        · obtain rfl : n = k := by omega
          have HE2 := Lib.hid (show rtF xs N r (f + 1) zs st = st' by rw [HE.out, ← HH.out.2.1])
          go_wp2_with fail
          go_ret2
          exact ⟨D, nd, cd, ret_LIr (by rw [HE2.out]), by rw [HE2.out]; exact oQ, by rw [HE2.out]; exact HH.out.1, below_ext hW hW.size hbw⟩
end Go.Proofs.YtigaopfhjimpmaaDoor
