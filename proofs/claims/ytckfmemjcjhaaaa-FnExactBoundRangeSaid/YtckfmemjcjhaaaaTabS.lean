/- The table of rows: the reference's walk (written by gen_tabs.py). -/
import Derived.Test.YtckfmemjcjhaaaaTabPlain
import Derived.Deep.RegionLaw
import Derived.Deep.AppendLies
namespace Go.Proofs.Ytckfmemjcjhaaaa
open Go.RowKit

set_option maxRecDepth 100000 in
set_option maxHeartbeats 2000000 in
theorem l02TableOf_any (gr : Nat) (V m : Nat) (A : Option Addr) (n c : Nat) (ns : List Nat) (B : Option Addr) (d : Nat) (bs : List Nat) (G : Option Addr) (p g : Nat) (gs : List Nat) (w : World) (KX : Blk w gr 43 #[.int .i64 V, .slice A n c, .slice B m d, .slice G p g]) (hN : FltsAt w A n ns) (hB : FltsAt w B m bs) (hG : FltsAt w G p gs) (hV : 1 ≤ V ∧ V ≤ 8) (hm : 1 ≤ m ∧ m ≤ 8) (hn : n = V * m) (hp : p = V) :
    Calls Try.prog 55 #[.pointer (some ⟨gr, 0, none⟩)] w fun e w' => ∃ (N : Option Addr) (nn cn : Nat) (Q : Option Addr) (cq : Nat), e = .returned (.agg #[.int .i64 V, .slice N nn cn, .slice Q m cq]) ∧ OwnF 34 w.heap.size w' N nn cn (tabT V m ns bs gs (m + 1)) ∧ OwnI 2 w.heap.size w' Q m cq (seqI V m) ∧ Below w.heap.size w w' := by
  have HNL := Lib.hid hn
  have HPL := Lib.hid hp
  obtain ⟨i0, hi0, hz0, hz1, hz2⟩ := info_parts infoF
  obtain ⟨j0, hj0, hw0, hw1, hw2⟩ := info_parts info64
  obtain ⟨hV1, hV8⟩ := hV
  obtain ⟨hm1, hm8⟩ := hm
  have HNA := Lib.hid hN
  have HBA := Lib.hid hB
  have HGA := Lib.hid hG
  have HKX := Lib.hid KX
  have hgr := KX.lt
  obtain ⟨W0, hW0⟩ : ∃ W0, W0 = (w.alloc (.cells #[.int .i64 0, .slice none 0 0, .slice none 0 0] 27)).alloc (.cells #[.int .i64 V, .slice none 0 0, .slice none 0 0] 27) := ⟨_, rfl⟩
  have hW : Below w.heap.size w W0 := by rw [hW0]; exact ((Below.refl _ _).alloc (Nat.le_refl _) _).alloc (by simp) _
  have k1 : Blk W0 w.heap.size 27 #[.int .i64 0, .slice none 0 0, .slice none 0 0] := by rw [hW0]; exact (Blk.new w _ _).alloc _
  have k2 : Blk W0 (w.heap.size + 1) 27 #[.int .i64 V, .slice none 0 0, .slice none 0 0] := by
    rw [hW0]
    have h := Blk.new (w.alloc (.cells #[.int .i64 0, .slice none 0 0, .slice none 0 0] 27)) 27 #[.int .i64 V, .slice none 0 0, .slice none 0 0]
    simp only [World.size_alloc] at h
    exact h
  have hWs : W0.heap.size = w.heap.size + 2 := by rw [hW0]; simp
  obtain ⟨gO, hgO⟩ : ∃ gO, gO = w.heap.size + 1 := ⟨_, rfl⟩
  have hst0 : TabSt gO V W0 none 0 0 (tabT V m ns bs gs 0) none 0 0 (seqI V 0) := ⟨by rw [hgO]; exact k2, OwnF.nil_ _ _ _, OwnI.nil_ _ _ _⟩
  have q2 := (KX.ext ((Below.refl w.heap.size w).alloc (Nat.le_refl _) (.cells #[.int .i64 0, .slice none 0 0, .slice none 0 0] 27))).cell 2
  have q0 := (KX.ext ((Below.refl w.heap.size w).alloc (Nat.le_refl _) (.cells #[.int .i64 0, .slice none 0 0, .slice none 0 0] 27))).cell 0
  have HW0 := Lib.hid hW0
  have HK1 := Lib.hid k1
  have HGO := Lib.hid hgO
  have hb0 : Below gO W0 W0 := Below.refl _ _
  have HKW := Lib.hid (fun (W : World) (hb : Below gO W0 W) => show Blk W gr 43 #[.int .i64 V, .slice A n c, .slice B m d, .slice G p g] from (HKX.out.ext hW).below hb (by omega))
  have HBW := Lib.hid (fun (W : World) (hb : Below gO W0 W) => show Below w.heap.size w W from hW.trans (hb.mono (by omega)))
  have hg1 : w.heap.size < gO := by omega
  have hg2 : gO < W0.heap.size := by omega
  clear hn hp hN hB hG KX k1 k2 hW0 hgO hWs
  go_enter Try.func55, Try.ntmps55
  go_wp2_with fail
  rw [← HW0.out, ← HGO.out]
  clear q0 q2 HW0
  go_loopg [5] (m + 1) (fun r iv wi => ∃ (i : Nat) (N : Option Addr) (nn cn : Nat) (Q : Option Addr) (qn cq : Nat), r = m + 1 - i ∧ i ≤ m + 1 ∧ iv = .int .i64 i ∧ Hid (qn = min i m) ∧ TabSt gO V wi N nn cn (tabT V m ns bs gs i) Q qn cq (seqI V qn) ∧ Below gO W0 wi)
  case atStart => exact ⟨0, _, _, _, _, _, _, rfl, Nat.zero_le _, rfl, Lib.hid (by omega), hst0, hb0⟩
  case round =>
    clear hst0 hb0
    obtain ⟨i, N, nn, cn, Q, qn, cq, hr, hi, rfl, HQN, st, hbw⟩ := hrel
    have HR := Lib.hid hr
    clear hr
    by_cases hlt : i < m + 1
    · have hlt' : (i : Int) ≤ (m : Int) := by omega
      have HT := Lib.hid (show tabT V m ns bs gs (i + 1) = tabT V m ns bs gs i ++ upV V m ns gs i V ++ upU i m ++ [cellL m bs i] from by rw [tabT, rowT, List.append_assoc, List.append_assoc, List.append_assoc])
      have HLT := Lib.hid (tabT_le (V := V) (ns := ns) (bs := bs) (gs := gs) hV8 hm8 (show i ≤ 9 by omega))
      have st0 : TabSt gO V wr N nn cn (tabT V m ns bs gs i ++ upV V m ns gs i 0) Q qn cq (seqI V qn) := by
        show TabSt gO V wr N nn cn (tabT V m ns bs gs i ++ []) Q qn cq (seqI V qn)
        rw [List.append_nil]; exact st
      generalize tabT V m ns bs gs i = T0 at *
      obtain ⟨wo, rfl⟩ : ∃ wo : World, wo = wr := ⟨_, rfl⟩
      clear st
      go_wp2_with fail
      go_loopg [6] V (fun r kv wi => ∃ (k : Nat) (N : Option Addr) (nn cn : Nat), r = V - k ∧ k ≤ V ∧ kv = .int .i64 k ∧ TabSt gO V wi N nn cn (T0 ++ upV V m ns gs i k) Q qn cq (seqI V qn) ∧ Below gO W0 wi)
      case atStart => exact ⟨0, _, _, _, rfl, Nat.zero_le _, rfl, st0, hbw⟩
      case round =>
        clear st0 hbw
        obtain ⟨k, N, nn, cn, hr, hk, rfl, st, hbw⟩ := hrel
        have HR2 := Lib.hid hr
        clear hr
        have HST := Lib.hid st
        have hnn : nn ≤ 200 := by have := st.oN.len; have := HLT.out; rw [List.length_append, upV_len] at *; omega
        clear st
        have r0 := (HKW.out wr hbw).cell 0
        by_cases hlk : k < V
        · have hlk' : (k : Int) < (V : Int) := by omega
          have HSN := Lib.hid (show T0 ++ upV V m ns gs i (k + 1) = (T0 ++ upV V m ns gs i k) ++ [cellV V m ns gs i k] by rw [upV_succ, List.append_assoc])
          generalize T0 ++ upV V m ns gs i k = NUMS at *
          by_cases him : i < m
          · have him' : (i : Int) < (m : Int) := by omega
            have HCV := Lib.hid (show cellV V m ns gs i k = ns.getD (i * V + k) 0 from if_pos him)
            rw [HCV.out] at HSN
            have hidx : i * V + k < n := by
              rw [HNL.out]
              have : i * V + V ≤ m * V := by rw [← Nat.succ_mul]; exact Nat.mul_le_mul_right V him
              rw [Nat.mul_comm V m]
              omega
            have hn64 : n ≤ 64 := by rw [HNL.out]; exact Nat.mul_le_mul hV8 hm8
            obtain ⟨ad, rfl, _, cx⟩ := (HNA.out.below (HBW.out wr hbw)).at_ hidx
            obtain ⟨P, hP⟩ : ∃ P : Nat, i * V = P := ⟨_, rfl⟩
            have hmul : (i : Int) * (V : Int) = (P : Int) := by rw [← hP]; push_cast; rfl
            rw [hP] at hidx cx HSN
            have hidx' : (P : Int) + (k : Int) < (n : Int) := by omega
            have hw1 : IntKind.i64.wrap (P : Int) = (P : Int) := IntWalk.i64_in _ (by omega)
            have hw2 : IntKind.i64.wrap ((P : Int) + (k : Int)) = (P : Int) + (k : Int) := IntWalk.i64_in _ (by omega)
            have hnn0 : (0 : Int) ≤ (P : Int) + (k : Int) := by omega
            have htn : ((P : Int) + (k : Int)).toNat = P + k := by omega
            have HHP := Lib.hid hP
            clear hP
            generalize ns.getD (P + k) 0 = x at *
            have x1 : wr.drew.cell? (ad.add (P + k)) = some (.float .f32 x) := cx
            have r1 : wr.drew.cell? ⟨gr, 1, none⟩ = some (.slice (some ad) n c) := ((HKW.out wr hbw).cell 1).trans rfl
            have r2 : wr.drew.cell? ⟨gr, 0, none⟩ = some (.int .i64 V) := ((HKW.out wr hbw).cell 0).trans rfl
            clear cx
            go_upto_region 10 with (fail)
            clear r0
            have st1 := HST.out.drewN 1
            have st2 : TabSt gO V (wr.alloc (.cells #[.float .f32 (x)] 34)).drew N nn cn (NUMS) Q qn cq (seqI V qn) := (HST.out.alloc (.cells #[.float .f32 (x)] 34)).drewN 1
            have o1 : wr.drew.cell? ⟨gO, 1, none⟩ = some (.slice N nn cn) := (st1.k.cell 1).trans rfl
            have o2 : (wr.alloc (.cells #[.float .f32 (x)] 34)).cell? ⟨gO, 1, none⟩ = some (.slice N nn cn) := (st2.k.cell 1).trans rfl
            have hszO : gO + 1 ≤ wr.heap.size := HST.out.k.lt
            have HS2 := Lib.hid st2
            clear st1 st2
            go_region_law ((refine step_append_lies _ (by rfl) _ _ _ (by rfl) (gO + 1) 34 i0 _ 1 4 Try.underlying22 hi0 hz0 hz1 hz2 rfl (by omega) (.slice N nn cn) nn (List.map (Value.float .f32) (NUMS)) (by rfl) HS2.out.oN ⟨wr.heap.size, 0, none⟩ 1 1 [.float .f32 (x)] (by rfl) (by rfl) (World.news_of_block (cs := #[.float .f32 (x)]) (t := 34) (fr := (0, 0)) (heap_alloc_new wr _)) (by simp [Value.oneCell']) (by omega) (by unfold maxLen; omega) (by omega) (by simp; omega) (wr.heap.size + 1) (by simp) ?_; intro gg5 cap5 w5 hown5 hgrow hat5 hlt5; obtain ⟨s1, s2⟩ := HS2.out.boxFree (updGF hgrow) 1; have HST5 := Lib.hid (HS2.out.numsTo (own_snocF hown5) (updGF hgrow)); have HU5 := Lib.hid (updGF hgrow); clear hown5 hgrow hat5 hlt5))
            all_goals
              have hb5 : Below gO W0 (w5.setCell ⟨gO, 1, none⟩ (.slice (some ⟨gg5, 0, none⟩) (nn + 1) cap5)) := (below_app ((hbw.alloc (Nat.le_of_succ_le hszO) (.cells #[.float .f32 (x)] 34)).drew) (by simp; omega) HU5.out (show OwnC 34 (gO + 1) 1 _ N nn cn (List.map (Value.float .f32) (NUMS)) from HS2.out.oN) (by omega)).setCell (p := ⟨gO, 1, none⟩) (Nat.le_refl _) _
              go_wp2_with fail
              go_roundg (V - (k + 1))
              case measure => rw [HR2.out]; omega
              case rel => exact ⟨k + 1, _, _, _, rfl, by omega, by go_num, by rw [HSN.out]; exact HST5.out, hb5⟩
          · have him' : ¬ (i : Int) < (m : Int) := by omega
            have HCV := Lib.hid (show cellV V m ns gs i k = Op.negFloat .f32 (gs.getD k 0) from if_neg (fun h => him (by omega)))
            rw [HCV.out] at HSN
            obtain ⟨ad, rfl, _, cx⟩ := (HGA.out.below (HBW.out wr hbw)).at_ (k := k) (by rw [HPL.out]; exact hlk)
            have hkp : (k : Int) < (p : Int) := by have := HPL.out; omega
            have hp8 : p ≤ 8 := by rw [HPL.out]; exact hV8
            have hneg := fun (w : World) (b : Nat) => run_neg_f (P := Try.prog) w b
            generalize gs.getD k 0 = x at *
            have x1 : wr.drew.cell? (ad.add k) = some (.float .f32 x) := cx
            have r1 : wr.drew.cell? ⟨gr, 3, none⟩ = some (.slice (some ad) p g) := ((HKW.out wr hbw).cell 3).trans rfl
            clear cx
            go_upto_region 11 with (fail)
            clear r0
            have st1 := HST.out.drewN 1
            have st2 : TabSt gO V (wr.alloc (.cells #[.float .f32 (Op.negFloat .f32 x)] 34)).drew N nn cn (NUMS) Q qn cq (seqI V qn) := (HST.out.alloc (.cells #[.float .f32 (Op.negFloat .f32 x)] 34)).drewN 1
            have o1 : wr.drew.cell? ⟨gO, 1, none⟩ = some (.slice N nn cn) := (st1.k.cell 1).trans rfl
            have o2 : (wr.alloc (.cells #[.float .f32 (Op.negFloat .f32 x)] 34)).cell? ⟨gO, 1, none⟩ = some (.slice N nn cn) := (st2.k.cell 1).trans rfl
            have hszO : gO + 1 ≤ wr.heap.size := HST.out.k.lt
            have HS2 := Lib.hid st2
            clear st1 st2
            go_region_law ((refine step_append_lies _ (by rfl) _ _ _ (by rfl) (gO + 1) 34 i0 _ 1 4 Try.underlying22 hi0 hz0 hz1 hz2 rfl (by omega) (.slice N nn cn) nn (List.map (Value.float .f32) (NUMS)) (by rfl) HS2.out.oN ⟨wr.heap.size, 0, none⟩ 1 1 [.float .f32 (Op.negFloat .f32 x)] (by rfl) (by rfl) (World.news_of_block (cs := #[.float .f32 (Op.negFloat .f32 x)]) (t := 34) (fr := (0, 0)) (heap_alloc_new wr _)) (by simp [Value.oneCell']) (by omega) (by unfold maxLen; omega) (by omega) (by simp; omega) (wr.heap.size + 1) (by simp) ?_; intro gg5 cap5 w5 hown5 hgrow hat5 hlt5; obtain ⟨s1, s2⟩ := HS2.out.boxFree (updGF hgrow) 1; have HST5 := Lib.hid (HS2.out.numsTo (own_snocF hown5) (updGF hgrow)); have HU5 := Lib.hid (updGF hgrow); clear hown5 hgrow hat5 hlt5))
            all_goals
              have hb5 : Below gO W0 (w5.setCell ⟨gO, 1, none⟩ (.slice (some ⟨gg5, 0, none⟩) (nn + 1) cap5)) := (below_app ((hbw.alloc (Nat.le_of_succ_le hszO) (.cells #[.float .f32 (Op.negFloat .f32 x)] 34)).drew) (by simp; omega) HU5.out (show OwnC 34 (gO + 1) 1 _ N nn cn (List.map (Value.float .f32) (NUMS)) from HS2.out.oN) (by omega)).setCell (p := ⟨gO, 1, none⟩) (Nat.le_refl _) _
              go_wp2_with fail
              go_roundg (V - (k + 1))
              case measure => rw [HR2.out]; omega
              case rel => exact ⟨k + 1, _, _, _, rfl, by omega, by go_num, by rw [HSN.out]; exact HST5.out, hb5⟩
        · obtain rfl : V = k := by omega
          have HTV := Lib.hid (show T0 ++ upV V m ns gs i V ++ upU i 0 = T0 ++ upV V m ns gs i V from List.append_nil _)
          have stU : TabSt gO V wr N nn cn (T0 ++ upV V m ns gs i V ++ upU i 0) Q qn cq (seqI V qn) := by rw [HTV.out]; exact HST.out
          have HLU := Lib.hid (show (T0 ++ upV V m ns gs i V).length ≤ 170 by rw [List.length_append, upV_len]; have := HLT.out; omega)
          have HTT := HT
          generalize T0 ++ upV V m ns gs i V = T1 at *
          clear HST HTV
          obtain ⟨wo2, rfl⟩ : ∃ wo2 : World, wo2 = wr := ⟨_, rfl⟩
          go_wp2_with fail
          clear r0
          go_loopg [7] m (fun r kv wi => ∃ (k : Nat) (N : Option Addr) (nn cn : Nat), r = m - k ∧ k ≤ m ∧ kv = .int .i64 k ∧ TabSt gO V wi N nn cn (T1 ++ upU i k) Q qn cq (seqI V qn) ∧ Below gO W0 wi)
          case atStart => exact ⟨0, _, _, _, rfl, Nat.zero_le _, rfl, stU, hbw⟩
          case round =>
            clear stU hbw
            obtain ⟨k, N, nn, cn, hr, hk, rfl, st, hbw⟩ := hrel
            have HR3 := Lib.hid hr
            clear hr
            have HST := Lib.hid st
            have hnn : nn ≤ 200 := by have := st.oN.len; have := HLU.out; rw [List.length_append, upU_len] at *; omega
            clear st
            by_cases hlk : k < m
            · have hlk' : (k : Int) < (m : Int) := by omega
              have HSN := Lib.hid (show T1 ++ upU i (k + 1) = (T1 ++ upU i k) ++ [cellU i k] by rw [upU_succ, List.append_assoc])
              generalize T1 ++ upU i k = NUMS at *
              have o1 : wr.cell? ⟨gO, 1, none⟩ = some (.slice N nn cn) := (HST.out.k.cell 1).trans rfl
              have hszO : gO + 1 ≤ wr.heap.size := HST.out.k.lt
              by_cases hki : k = i
              · have HCU := Lib.hid (show cellU i k = 1065353216 from if_pos hki)
                have hd : ((k : Int) == (i : Int)) = true := by rw [hki]; simp
                rw [HCU.out] at HSN
                clear hki
                have o2 : (wr.alloc (.cells #[.float .f32 1065353216] 34)).cell? ⟨gO, 1, none⟩ = some (.slice N nn cn) := ((HST.out.alloc _).k.cell 1).trans rfl
                go_wp2_with (at_builtin; refine wp_append_flt _ 1065353216 rfl _ _ _ rfl 34 (gO + 1) Try.underlying22 infoF N nn cn NUMS rfl HST.out.oN rfl (by omega) hszO ?_; intro g5 c5 w5 o5 u5 b5 _; obtain ⟨s1, s2⟩ := HST.out.boxFree u5 1; have HST5 := Lib.hid (HST.out.numsTo o5 u5); have hb5 := (below_app hbw (Nat.le_of_succ_le hszO) u5 (show OwnC 34 (gO + 1) 1 _ N nn cn (List.map (Value.float .f32) NUMS) from HST.out.oN) (Nat.le_succ gO)).setCell (p := ⟨gO, 1, none⟩) (Nat.le_refl _) (.slice (some ⟨g5, 0, none⟩) (nn + 1) c5); clear o5 u5 b5)
                go_roundg (m - (k + 1))
                case measure => rw [HR3.out]; omega
                case rel => exact ⟨k + 1, _, _, _, rfl, by omega, by go_num, by rw [HSN.out]; exact HST5.out, hb5⟩
              · have HCU := Lib.hid (show cellU i k = 0 from if_neg hki)
                have hd : ((k : Int) == (i : Int)) = false := by rw [beq_eq_false_iff_ne]; omega
                rw [HCU.out] at HSN
                clear hki
                go_wp2_with (at_builtin; refine wp_append_flt _ 0 rfl _ _ _ rfl 34 (gO + 1) Try.underlying22 infoF N nn cn NUMS rfl HST.out.oN rfl (by omega) hszO ?_; intro g5 c5 w5 o5 u5 b5 _; obtain ⟨s1, s2⟩ := HST.out.boxFree u5 1; have HST5 := Lib.hid (HST.out.numsTo o5 u5); have hb5 := (below_app hbw (Nat.le_of_succ_le hszO) u5 (show OwnC 34 (gO + 1) 1 _ N nn cn (List.map (Value.float .f32) NUMS) from HST.out.oN) (Nat.le_succ gO)).setCell (p := ⟨gO, 1, none⟩) (Nat.le_refl _) (.slice (some ⟨g5, 0, none⟩) (nn + 1) c5); clear o5 u5 b5)
                go_roundg (m - (k + 1))
                case measure => rw [HR3.out]; omega
                case rel => exact ⟨k + 1, _, _, _, rfl, by omega, by go_num, by rw [HSN.out]; exact HST5.out, hb5⟩
            · obtain rfl : m = k := by omega
              have hqs : qn ≤ 9 := by have := HQN.out; omega
              generalize hT2 : T1 ++ upU i m = NUMS at *
              have HT2 := Lib.hid hT2
              clear hT2
              by_cases him : i < m
              · have him' : (i : Int) < (m : Int) := by omega
                have HCL := Lib.hid (show tabT V m ns bs gs (i + 1) = NUMS ++ [bs.getD i 0] by rw [HTT.out]; unfold cellL; rw [if_pos him])
                have HQ2 := Lib.hid (show qn = i by have := HQN.out; omega)
                obtain ⟨ad, rfl, _, cx⟩ := (HBA.out.below (HBW.out wr hbw)).at_ him
                generalize bs.getD i 0 = x at *
                have x1 : wr.drew.cell? (ad.add i) = some (.float .f32 x) := cx
                have r1 : wr.drew.cell? ⟨gr, 2, none⟩ = some (.slice (some ad) m d) := ((HKW.out wr hbw).cell 2).trans rfl
                clear cx
                go_upto_region 20 with (fail)
                go_cut [] (fun wx => ∃ (N' : Option Addr) (nn' cn' : Nat), TabSt gO V wx N' nn' cn' (NUMS ++ [x]) Q qn cq (seqI V qn) ∧ Below gO W0 wx)
                case first =>
                  have st1 := HST.out.drewN 1
                  have st2 : TabSt gO V (wr.alloc (.cells #[.float .f32 (x)] 34)).drew N nn cn (NUMS) Q qn cq (seqI V qn) := (HST.out.alloc (.cells #[.float .f32 (x)] 34)).drewN 1
                  have o1 : wr.drew.cell? ⟨gO, 1, none⟩ = some (.slice N nn cn) := (st1.k.cell 1).trans rfl
                  have o2 : (wr.alloc (.cells #[.float .f32 (x)] 34)).cell? ⟨gO, 1, none⟩ = some (.slice N nn cn) := (st2.k.cell 1).trans rfl
                  have hszO : gO + 1 ≤ wr.heap.size := HST.out.k.lt
                  have HS2 := Lib.hid st2
                  clear st1 st2
                  go_region_law ((refine step_append_lies _ (by rfl) _ _ _ (by rfl) (gO + 1) 34 i0 _ 1 4 Try.underlying22 hi0 hz0 hz1 hz2 rfl (by omega) (.slice N nn cn) nn (List.map (Value.float .f32) (NUMS)) (by rfl) HS2.out.oN ⟨wr.heap.size, 0, none⟩ 1 1 [.float .f32 (x)] (by rfl) (by rfl) (World.news_of_block (cs := #[.float .f32 (x)]) (t := 34) (fr := (0, 0)) (heap_alloc_new wr _)) (by simp [Value.oneCell']) (by omega) (by unfold maxLen; omega) (by omega) (by simp; omega) (wr.heap.size + 1) (by simp) ?_; intro gg5 cap5 w5 hown5 hgrow hat5 hlt5; obtain ⟨s1, s2⟩ := HS2.out.boxFree (updGF hgrow) 1; have HST5 := Lib.hid (HS2.out.numsTo (own_snocF hown5) (updGF hgrow)); have HU5 := Lib.hid (updGF hgrow); clear hown5 hgrow hat5 hlt5))
                  all_goals
                    have hb5 : Below gO W0 (w5.setCell ⟨gO, 1, none⟩ (.slice (some ⟨gg5, 0, none⟩) (nn + 1) cap5)) := (below_app ((hbw.alloc (Nat.le_of_succ_le hszO) (.cells #[.float .f32 (x)] 34)).drew) (by simp; omega) HU5.out (show OwnC 34 (gO + 1) 1 _ N nn cn (List.map (Value.float .f32) (NUMS)) from HS2.out.oN) (by omega)).setCell (p := ⟨gO, 1, none⟩) (Nat.le_refl _) _
                    go_wp2_with fail
                    go_meet
                    exact ⟨_, _, _, HST5.out, hb5⟩
                case rest =>
                  obtain ⟨N', nn', cn', st6, hb6⟩ := hcut
                  clear x1 r1
                  have HST6 := Lib.hid st6
                  clear st6
                  have r2 : wc.drew.cell? ⟨gr, 0, none⟩ = some (.int .i64 V) := ((HKW.out wc hb6).cell 0).trans rfl
                  have hwVi : IntKind.i64.wrap ((V : Int) + (i : Int)) = (V : Int) + (i : Int) := IntWalk.i64_in _ (by omega)
                  have o1 : wc.drew.cell? ⟨gO, 2, none⟩ = some (.slice Q qn cq) := (HST6.out.k.cell 2).trans rfl
                  have o2 : (wc.alloc (.cells #[.int .i64 ((V : Int) + (i : Int))] 2)).cell? ⟨gO, 2, none⟩ = some (.slice Q qn cq) := ((HST6.out.alloc _).k.cell 2).trans rfl
                  have hszO : gO + 1 ≤ wc.heap.size := HST6.out.k.lt
                  have HS2 := Lib.hid (show TabSt gO V (wc.alloc (.cells #[.int .i64 ((V : Int) + (i : Int))] 2)).drew N' nn' cn' (NUMS ++ [x]) Q qn cq (seqI V qn) from (HST6.out.alloc _).drewN 1)
                  have HSQ := Lib.hid (show seqI V qn ++ [(V : Int) + (i : Int)] = seqI V (qn + 1) by rw [HQ2.out]; simp [seqI, List.range_succ])
                  go_upto_region 21 with (fail)
                  go_region_law ((refine step_append_lies _ (by rfl) _ _ _ (by rfl) (gO + 1) 2 j0 _ 1 8 Try.underlying23 hj0 hw0 hw1 hw2 rfl (by omega) (.slice Q qn cq) qn ((seqI V qn).map (Value.int .i64)) (by rfl) HS2.out.oQ ⟨wc.heap.size, 0, none⟩ 1 1 [.int .i64 ((V : Int) + (i : Int))] (by rfl) (by rfl) (World.news_of_block (cs := #[.int .i64 ((V : Int) + (i : Int))]) (t := 2) (fr := (0, 0)) (heap_alloc_new wc _)) (by simp [Value.oneCell']) (by omega) (by unfold maxLen; omega) (by omega) (by simp; omega) (wc.heap.size + 1) (by simp) ?_; intro gg5 cap5 w5 hown5 hgrow hat5 hlt5; obtain ⟨s1, s2⟩ := HS2.out.boxFreeQ (updGF hgrow) 2; have HST5 := Lib.hid (HS2.out.basTo (own_snocI hown5) (updGF hgrow)); have HU5 := Lib.hid (updGF hgrow); clear hown5 hgrow hat5 hlt5))
                  all_goals
                    have hb5 : Below gO W0 (w5.setCell ⟨gO, 2, none⟩ (.slice (some ⟨gg5, 0, none⟩) (qn + 1) cap5)) := (below_app ((hb6.alloc (Nat.le_of_succ_le hszO) (.cells #[.int .i64 ((V : Int) + (i : Int))] 2)).drew) (by simp; omega) HU5.out (show OwnC 2 (gO + 1) 1 _ Q qn cq ((seqI V qn).map (Value.int .i64)) from HS2.out.oQ) (by omega)).setCell (p := ⟨gO, 2, none⟩) (Nat.le_refl _) _
                    have HST7 := HST5.out
                    rw [HSQ.out, ← HCL.out] at HST7
                    go_wp2_with fail
                    go_roundg (m + 1 - (i + 1))
                    case measure => rw [HR.out]; omega
                    case rel => exact ⟨i + 1, _, _, _, _, _, _, rfl, by omega, by go_num, Lib.hid (by have := HQ2.out; omega), HST7, hb5⟩
              · have him' : ¬ (i : Int) < (m : Int) := by omega
                have HCL := Lib.hid (show tabT V m ns bs gs (i + 1) = NUMS ++ [0] by rw [HTT.out]; unfold cellL; rw [if_neg him])
                have HQ2 := Lib.hid (show qn = min (i + 1) m by have := HQN.out; omega)
                have o1 : wr.cell? ⟨gO, 1, none⟩ = some (.slice N nn cn) := (HST.out.k.cell 1).trans rfl
                have hszO : gO + 1 ≤ wr.heap.size := HST.out.k.lt
                go_wp2_with (at_builtin; refine wp_append_flt _ 0 rfl _ _ _ rfl 34 (gO + 1) Try.underlying22 infoF N nn cn NUMS rfl HST.out.oN rfl (by omega) hszO ?_; intro g5 c5 w5 o5 u5 b5 _; obtain ⟨s1, s2⟩ := HST.out.boxFree u5 1; have HST5 := Lib.hid (HST.out.numsTo o5 u5); have hb5 := (below_app hbw (Nat.le_of_succ_le hszO) u5 (show OwnC 34 (gO + 1) 1 _ N nn cn (List.map (Value.float .f32) NUMS) from HST.out.oN) (Nat.le_succ gO)).setCell (p := ⟨gO, 1, none⟩) (Nat.le_refl _) (.slice (some ⟨g5, 0, none⟩) (nn + 1) c5); clear o5 u5 b5)
                have HST7 := HST5.out
                rw [← HCL.out] at HST7
                go_roundg (m + 1 - (i + 1))
                case measure => rw [HR.out]; omega
                case rel => exact ⟨i + 1, _, _, _, _, _, _, rfl, by omega, by go_num, HQ2, HST7, hb5⟩
    · obtain rfl : i = m + 1 := by omega
      have HQ2 := Lib.hid (show qn = m by have := HQN.out; omega)
      have hlt' : ¬ ((m + 1 : Nat) : Int) ≤ (m : Int) := by omega
      have HST := Lib.hid st
      have y0 := st.k.cell 0
      have y1 := st.k.cell 1
      have y2 := st.k.cell 2
      have K1w := HK1.out.below hbw hg1
      have x0 := K1w.cell 0
      have x1 := K1w.cell 1
      have x2 := K1w.cell 2
      have fx0 := K1w.free 0
      have fx1 := K1w.free 1
      have fx2 := K1w.free 2
      have HU := Lib.hid (fun (w' : World) (hu : Upd (fun k => k = w.heap.size) wr w') => show OwnF 34 w.heap.size w' N nn cn (tabT V m ns bs gs (m + 1)) ∧ OwnI 2 w.heap.size w' Q qn cq (seqI V qn) ∧ Below w.heap.size w w' from
        ⟨((HST.out.oN).keep (fun ad h1 h2 => hu.block _ h2 (fun e => by have := (HST.out.oN.lt h1).1; omega))).low (by omega), (OwnI.upd (HST.out.oQ) hu (fun ad ha e => by have := (HST.out.oQ.lt ha).1; omega)).low (by omega), (HBW.out wr hbw).trans (hu.toBelow (HBW.out wr hbw).size (fun k hk e => by omega))⟩)
      clear st K1w
      go_wp2_with fail
      refine bodyPost_ret (v := .agg #[.int .i64 V, .slice N nn cn, .slice Q qn cq]) (by simp [results, Try.results55, go_sem, x0, x1, x2]) rfl ?_
      rw [HQ2.out] at HU
      exact ⟨N, nn, cn, Q, cq, by rw [HQ2.out], HU.out _ ((((Upd.refl (fun k => k = w.heap.size) _).setCell (p := ⟨w.heap.size, 0, none⟩) (.inl rfl) _).setCell (p := ⟨w.heap.size, 1, none⟩) (.inl rfl) _).setCell (p := ⟨w.heap.size, 2, none⟩) (.inl rfl) _)⟩
end Go.Proofs.Ytckfmemjcjhaaaa
