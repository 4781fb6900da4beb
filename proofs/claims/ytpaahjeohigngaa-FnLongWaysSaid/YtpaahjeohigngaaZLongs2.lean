/- LeastLongs of the program: the walk. -/
import Derived.Test.YtpaahjeohigngaaJ5
namespace Go.Proofs.Ytpaahjeohigngaa
open Go.RowKit

def zero3 : LinkR → Int := fun _ => 0
theorem zeros_rep (N : Nat) : (madeCells (Value.int .i64 0).cells (N * 1)).toList = (List.replicate N (0 : Int)).map (Value.int .i64) := by
  show (madeCells #[Value.int .i64 0] (N * 1)).toList = _
  rw [toList_madeCells_one]; simp

set_option maxRecDepth 100000 in
set_option maxHeartbeats 6400000 in
theorem implLeastLongs_r (nodes : Int) (A : Option Addr) (n c : Nat) (xs : List ArcR) (f : Int) (w : World) (h : ArcsAt w A n xs) (hn0 : n ≤ maxLen) :
    Calls Try.prog 12 #[.agg #[.int .i64 nodes, .slice A n c], .int .i64 f] w (RetLB 2 (longsV nodes xs f) (longsB nodes xs f) w) := by
  have HX := Lib.hid h.len
  have hW : Below w.heap.size w (w.alloc (.cells #[.int .i64 nodes, .slice A n c] 26)) := (Below.refl _ _).alloc (Nat.le_refl _) _
  have h3 := h.alloc (.cells #[.int .i64 nodes, .slice A n c] 26)
  have HB := Lib.hid (Blk.new w 26 #[.int .i64 nodes, .slice A n c])
  have hlt0 : w.heap.size < (w.alloc (.cells #[.int .i64 nodes, .slice A n c] 26)).heap.size := by simp
  clear h
  cases hv : validB nodes xs
  · have HS := Lib.hid (show longsB nodes xs f = false by simp [longsB, hv])
    have HV := Lib.hid (longsV_no HS.out)
    go_enter Try.func12, Try.ntmps12
    go_wp2_with fail
    generalize w.alloc (.cells #[.int .i64 nodes, .slice A n c] 26) = W at *
    refine (implValidNet_r nodes A n c xs _ h3 hn0).mono ?_
    rw [hv]
    rintro e w1 ⟨rfl, e1⟩
    go_wp2_with fail
    go_ret2
    exact ⟨none, 0, 0, ret_LBc HS.out.symm, by rw [HV.out]; exact OwnI.nil_ _ _ _, below_ext hW hW.size e1⟩
  · obtain ⟨n0, n1, n2, _⟩ := valid_bd hv
    rw [HX.out] at n2
    cases hin : inB f 0 (nodes - 1)
    · have HS := Lib.hid (show longsB nodes xs f = false by simp [longsB, hin])
      have HV := Lib.hid (longsV_no HS.out)
      go_enter Try.func12, Try.ntmps12
      go_wp2_with fail
      generalize w.alloc (.cells #[.int .i64 nodes, .slice A n c] 26) = W at *
      refine (implValidNet_r nodes A n c xs _ h3 hn0).mono ?_
      rw [hv]
      rintro e w1 ⟨rfl, e1⟩
      have q0 := (HB.out.ext e1).cell 0
      have q1 := (HB.out.ext e1).cell 1
      go_wp2_with fail
      refine (isNode_any nodes f _ _ (by omega) (by omega)).mono ?_
      rw [hin]
      rintro e w2 ⟨rfl, e2⟩
      go_wp2_with fail
      go_ret2
      exact ⟨none, 0, 0, ret_LBc HS.out.symm, by rw [HV.out]; exact OwnI.nil_ _ _ _, below_ext hW hW.size (ext_trans e1 e2)⟩
    · obtain ⟨N, rfl⟩ := Int.eq_ofNat_of_zero_le (show 0 ≤ nodes by omega)
      obtain ⟨f0, f1⟩ := inB_iff.1 hin
      obtain ⟨F, rfl⟩ := Int.eq_ofNat_of_zero_le f0
      have hF : F < N := by omega
      have HS := Lib.hid (show longsB N xs F = costsTo xs n by unfold longsB; rw [hv, hin, HX.out]; rfl)
      have HH := Lib.hid (fun hc => longs_hyps (N := N) HX.out hv hc)
      have HLL := Lib.hid (show (longLs xs).length = n by simp [longLs, HX.out])
      go_enter Try.func12, Try.ntmps12
      go_wp2_with fail
      generalize w.alloc (.cells #[.int .i64 N, .slice A n c] 26) = W at *
      refine (implValidNet_r N A n c xs _ h3 hn0).mono ?_
      rw [hv]
      rintro e w1 ⟨rfl, e1⟩
      have q0 := (HB.out.ext e1).cell 0
      have q1 := (HB.out.ext e1).cell 1
      go_wp2_with fail
      refine (isNode_any N F _ _ (by omega) (by omega)).mono ?_
      rw [hin]
      rintro e w2 ⟨rfl, e2⟩
      replace e2 := ext_trans e1 e2
      clear q0 q1 e1 hin hv f0 f1
      have q1 := (HB.out.ext e2).cell 1
      go_wp2_with fail
      clear q1
      go_loopg [6, 25] n (fun r av iv wr => ∃ (k : Nat) (L : Option Addr) (q : Nat), r = n - k ∧ k ≤ n ∧ iv = .int .i64 k ∧ av = .slice L k q ∧ OwnC 59 W.heap.size 6 wr L k q (flatV (cellsG zero3 zero3 zero3) ((longLs xs).take k)) ∧ Below W.heap.size W wr ∧ Hid (costsTo xs k = true))
      case atStart => exact ⟨0, none, 0, rfl, by omega, rfl, rfl, OwnC.nil_ _ _ _ _, e2, Lib.hid rfl⟩
      case round =>
        clear e2
        obtain ⟨k, L, q, hr, hk, rfl, rfl, ol, hbw, hall⟩ := hrel
        have HR := Lib.hid hr
        clear hr
        by_cases hlt : k < n
        · obtain ⟨ad, rfl, had, c0, c1, c2, c3⟩ := (h3.below hbw).at_ hlt
          have HSU := Lib.hid (costsTo_succ xs k)
          have HST := Lib.hid (@costsTo_stop xs k)
          have HTK := Lib.hid (longLs_take HX.out hlt)
          generalize xs.getD k default = x at *
          obtain ⟨af, at_, ar, aq⟩ := x
          have ka := Blk.new wr 34 #[.int .i64 af, .int .i64 at_, .int .i64 ar, .int .i64 aq]
          have hd2 := hbw.alloc hbw.size (.cells #[.int .i64 af, .int .i64 at_, .int .i64 ar, .int .i64 aq] 34)
          have ol2 := OwnC.alloc ol (.cells #[.int .i64 af, .int .i64 at_, .int .i64 ar, .int .i64 aq] 34)
          have s0 := ka.cell 0
          have s1 := ka.cell 1
          have s3 := ka.cell 3
          have hsz := ka.lt
          clear ka
          by_cases hcost : 0 ≤ aq
          · have HE := Lib.hid (show costsTo xs (k + 1) = true by rw [HSU.out, hall.out]; exact decide_eq_true hcost)
            clear hbw ol
            go_upto_region 9 with (fail)
            generalize wr.alloc (.cells #[.int .i64 af, .int .i64 at_, .int .i64 ar, .int .i64 aq] 34) = W1 at *
            have hsz1 := hd2.alloc hd2.size (.cells #[.int .i64 0, .int .i64 0, .int .i64 af, .int .i64 at_, .int .i64 0, .int .i64 aq] 59)
            have hszz := hsz1.size
            go_wp2_with (at_builtin; go_must (refine wp_append_cells _ rfl _ _ _ rfl 59 W.heap.size Try.underlying57 _ 6 48 infoLk rfl (by decide) (by decide) (by decide) L k q _ rfl (OwnC.alloc ol2 _) _ 1 1 [.int .i64 0, .int .i64 0, .int .i64 af, .int .i64 at_, .int .i64 0, .int .i64 aq] rfl rfl (src_one (w := W1) (T := 59) (cs := #[.int .i64 0, .int .i64 0, .int .i64 af, .int .i64 at_, .int .i64 0, .int .i64 aq]) 1 (by decide)) (by simp [Value.oneCell']) (by omega) hszz ?_; intro A5 c5 w6 o6 u6 b6 hg6))
            have o7 : OwnC 59 W.heap.size 6 w6 A5 (k + 1) c5 (flatV (cellsG zero3 zero3 zero3) ((longLs xs).take (k + 1))) := by
              rw [HTK.out, ← flatV_append, flatV_one]
              exact o6
            go_roundg (n - (k + 1))
            case measure => rw [HR.out]; omega
            case rel => exact ⟨k + 1, A5, c5, rfl, by omega, by go_num, rfl, o7, hsz1.trans b6, HE⟩
          · have HE := Lib.hid (show costsTo xs n = false by rw [show n = k + 1 + (n - (k + 1)) from by omega]; exact HST.out hcost _)
            have hS2 := Lib.hid (HS.out.trans HE.out)
            have hV2 := Lib.hid (longsV_no hS2.out)
            go_wp2_with fail
            go_ret2
            exact ⟨none, 0, 0, ret_LBc hS2.out.symm, by rw [hV2.out]; exact OwnI.nil_ _ _ _, below_ext hW hW.size hd2⟩
        · have e : k = n := by omega
          subst e
          have HS2 := Lib.hid (HS.out.trans hall.out)
          obtain ⟨hc, hx, hlo, hlc⟩ := HH.out hall.out
          have hv2 := longsV_yes HS2.out
          rw [Int.toNat_natCast, Int.toNat_natCast, ← rounds_settled hc hx hF] at hv2
          have HV2 := Lib.hid hv2
          have HREL := Lib.hid (rel_r hc hx (rel_start (xs := xs) hF (List.replicate N (-1)) (-1)) N)
          have HSD := Lib.hid (rounds_ok hc hx hF N).1
          have HLO := Lib.hid hlo
          have HLC := Lib.hid hlc
          have hall2 : (longLs xs).take k = longLs xs := List.take_of_length_le (by rw [HLL.out]; exact Nat.le_refl _)
          rw [hall2] at ol
          obtain ⟨i0, hi0, hz0, hz1, hz2⟩ := info_parts infoLk
          obtain ⟨j0, hj0, hw0, hw1, hw2⟩ := info_parts infoB1
          obtain ⟨l0, hl0, hy0, hy1, hy2⟩ := info_parts info64
          have hmk1 := fun (w : World) => run_make (P := Try.prog) w 29 2 l0 _ Try.underlying29 hl0 hy0 .i64 .i64 (N : Int) (N : Int) (by omega) (Int.le_refl _) (by rw [hy2]; omega) (by omega)
          have hmk2 := fun (w : World) => run_make (P := Try.prog) w 60 4 j0 _ Try.underlying60 hj0 hw0 .i64 .i64 (N : Int) (N : Int) (by omega) (Int.le_refl _) (by rw [hw2]; omega) (by omega)
          have hmk3 := fun (w : World) => run_make (P := Try.prog) w 57 59 i0 _ Try.underlying57 hi0 hz0 .i64 .i64 (N : Int) (N : Int) (by omega) (Int.le_refl _) (by rw [hz2]; omega) (by omega)
          simp only [Int.toNat_natCast, hz1, hw1, hy1] at hmk1 hmk2 hmk3
          have z1 := zeros_rep N
          have z2 := bools_rep N
          have z3 := zero6_rep N
          generalize madeCells (Value.agg #[.int .i64 0, .int .i64 0, .int .i64 0, .int .i64 0, .int .i64 0, .int .i64 0]).cells (N * 6) = M3 at *
          generalize madeCells (Value.bool false).cells (N * 1) = M2 at *
          generalize madeCells (Value.int .i64 0).cells (N * 1) = M1 at *
          have hbx : Blk wr w.heap.size 26 #[.int .i64 N, .slice A k c] := HB.out.below hbw hlt0
          have q0 := hbx.cell 0
          have pa := (hbx.alloc (.cells M1 2)).cell 0
          have pb := (hbx.alloc (.cells M2 4)).cell 0
          have HBX := Lib.hid hbx
          have HK3 := Lib.hid hmk3
          clear hc hx hlo hlc hall2 hv2 hbx hmk3
          go_wp2_with fail
          go_cut [9, 10] (fun s9 s10 wx => ∃ (g1 g2 : Nat), s9 = .slice (some ⟨g1, 0, none⟩) N N ∧ s10 = .slice (some ⟨g2, 0, none⟩) N N ∧ OwnC 2 wr.heap.size 1 wx (some ⟨g1, 0, none⟩) N N M1.toList ∧ OwnC 4 wr.heap.size 1 wx (some ⟨g2, 0, none⟩) N N M2.toList ∧ g1 ≠ g2 ∧ Below wr.heap.size wr wx)
          case first =>
            go_region
            all_goals
              go_wp2_with fail
              go_meet
              have hx : M1.size = N * 1 := by have := congrArg List.length z1; simpa using this
              have hy : M2.size = N * 1 := by have := congrArg List.length z2; simpa using this
              first
                | exact ⟨wr.heap.size, wr.heap.size + 1, rfl, rfl, OwnC.drew (OwnC.alloc (World.ownsRow_lit (e := 2) (base := wr.heap.size) (size := 1) wr M1 N (Nat.le_refl _) (by unfold maxLen; omega) hx) _), OwnC.drew (by have h := World.ownsRow_lit (e := 4) (base := wr.heap.size) (size := 1) (wr.alloc (.cells M1 2)) M2 N (by simp) (by unfold maxLen; omega) hy; rw [World.size_alloc] at h; exact h), by omega, (((Below.refl _ _).alloc (Nat.le_refl _) _).alloc (by simp) _).drew⟩
                | exact ⟨wr.heap.size + 1, wr.heap.size, rfl, rfl, OwnC.drew (by have h := World.ownsRow_lit (e := 2) (base := wr.heap.size) (size := 1) (wr.alloc (.cells M2 4)) M1 N (by simp) (by unfold maxLen; omega) hx; rw [World.size_alloc] at h; exact h), OwnC.drew (OwnC.alloc (World.ownsRow_lit (e := 4) (base := wr.heap.size) (size := 1) wr M2 N (Nat.le_refl _) (by unfold maxLen; omega) hy) _), by omega, (((Below.refl _ _).alloc (Nat.le_refl _) _).alloc (by simp) _).drew⟩
          case rest =>
            obtain ⟨g1, g2, rfl, rfl, o1, o2, hg12, hbx⟩ := hcut
            rw [z1] at o1
            rw [z2] at o2
            have o1' : OwnI 2 wr.heap.size wc (some ⟨g1, 0, none⟩) N N (List.replicate N 0) := o1
            have hset := OwnC.set o2 F (.bool true)
            have hfr := OwnC.free o2 F
            have hcF := OwnC.cell o2 (j := F) (by omega)
            have hg1 := (OwnI.lt o1' rfl).1
            have hg2 := (OwnC.lt o2 rfl).1
            have hFN : (F : Int) < (N : Int) := by omega
            have o1'' := OwnI.far o1' (p := ⟨g2, F, none⟩) (fun ad ha => by injection ha with ha; subst ha; exact hg12) (.bool true)
            have hbx2 := hbx.setCell (p := ⟨g2, F, none⟩) hg2 (.bool true)
            simp [hF] at hcF
            have hbox3 := HBX.out.ext hbx2
            have ol3 := OwnC.below ol hbx2
            have hLb := Lib.hid (fun ad (ha : L = some ad) => (OwnC.lt ol ha).2)
            have HBX2 := Lib.hid hbx2
            have HLT := Lib.hid (show w.heap.size < wr.heap.size from Nat.lt_of_lt_of_le hlt0 hbw.size)
            clear o1 o1' o2 hbx hbx2 q0 pa pb hmk1 hmk2 ol
            go_upto_region 13 with (fail)
            generalize wc.setCell ⟨g2, F, none⟩ (.bool true) = W3 at *
            have q0 := hbox3.cell 0
            have q2 := (hbox3.alloc (.cells M3 59)).cell 0
            have hmk3 := HK3.out
            have hx3 : M3.size = N * 6 := by have := congrArg List.length z3; rw [flatV_len _ 6 (fun _ => rfl)] at this; simpa using this
            have hW3 := HBX2.out.size
            have o3 : OwnC 59 wr.heap.size 6 (W3.alloc (.cells M3 59)) (some ⟨W3.heap.size, 0, none⟩) N N (flatV (lastG zero3 zero3 zero3 (longLs xs)) (List.replicate N (-1))) := by
              have h := World.ownsRow_lit (e := 59) (base := wr.heap.size) (size := 6) W3 M3 N hW3 (by unfold maxLen; omega) hx3
              rw [z3, flatV_congr (f := fun _ => zero6) (g := lastG zero3 zero3 zero3 (longLs xs)) (ys := List.replicate N (-1)) (by simp [lastG])] at h
              exact h
            have HO3 := Lib.hid o3
            have HO1 := Lib.hid (OwnI.alloc o1'' (.cells M3 59))
            have HO2 := Lib.hid (OwnC.alloc hset (.cells M3 59))
            have HOL := Lib.hid (OwnC.alloc ol3 (.cells M3 59))
            have HBX4 := Lib.hid (hbox3.alloc (.cells M3 59))
            have hl1 := (OwnI.lt o1'' rfl).2
            have hl2 := (OwnC.lt hset rfl).2
            have hg1' : wr.heap.size ≤ g1 := hg1
            have hg2' : wr.heap.size ≤ g2 := hg2
            have hs0 : LeastOk N ⟨List.replicate N 0, (List.replicate N false).set F true, List.replicate N (-1), -1⟩ 0 := ⟨by simp, by simp, by simp, fun v hv => by
              show -0 ≤ (List.replicate N (0 : Int)).getD v 0 ∧ (List.replicate N (0 : Int)).getD v 0 ≤ 0
              simp [List.getD, hv]⟩
            have HS0 := Lib.hid hs0
            have HKM := Lib.hid (show ((List.replicate N false).set F true).map Value.bool = (List.replicate N (Value.bool false)).set F (.bool true) by simp)
            clear hs0 hbox3 o1'' hset ol3 o3
            go_region_held3 (fun w' => w'.cell? ⟨w.heap.size, 0, none⟩ = some (.int .i64 N))
              (first
                | exact q0
                | exact q2
                | exact q4)
              (first
                | (go_at_call 34; refine (least_any zero3 zero3 zero3 wr.heap.size _ g1 g2 W3.heap.size N N L k q (longLs xs) ⟨List.replicate N 0, (List.replicate N false).set F true, List.replicate N (-1), -1⟩ _ (by omega) (by omega) HLO.out HLC.out HLL.out (by omega) HS0.out (OwnC.drew HOL.out) (fun ad ha => by have := hLb.out ad ha; exact ⟨by omega, by omega, by omega⟩) hg12 (by have : g1 < W3.heap.size := hl1; omega) (by have : g2 < W3.heap.size := hl2; omega) (OwnI.drew HO1.out) (by rw [HKM.out]; exact OwnC.drew HO2.out) (OwnC.drew HO3.out)).mono ?_; rintro e w13 ⟨rfl, oD, oK, oB, u13⟩; have q4 : w13.cell? ⟨w.heap.size, 0, none⟩ = some (.int .i64 N) := (HBX4.out.drew.upd u13 (by have := HLT.out; rintro (e | e | e) <;> omega)).cell 0; have HOD := Lib.hid oD; have HOK := Lib.hid oK; have HU := Lib.hid u13; clear oD oK oB u13))
            all_goals
              clear q0 q2 q4
              have hREL := HREL.out
              have oD := HOD.out
              have oK := HOK.out
              have hbz : Below wr.heap.size wr w13 := below_ext (HBX2.out.trans (((Below.refl _ W3).alloc hW3 _).drew)) (Nat.le_trans hW3 (by simp)) (Below.refl _ _) |>.trans (HU.out.toBelow (Nat.le_trans hW3 (by simp)) fun x hx hy => by rcases hy with e | e | e <;> omega)
              have hUN := Lib.hid (unTo_all hREL HSD.out)
              have HRELh := Lib.hid hREL
              generalize leastR (longLs xs) _ N = st at *
              rw [← unTo_zero st] at oD
              have HBZ := Lib.hid hbz
              clear hREL hbz
              go_wp2_with fail
              go_loopg [63] N (fun r iv wi => ∃ (j : Nat), r = N - j ∧ j ≤ N ∧ iv = .int .i64 j ∧ OwnI 2 wr.heap.size wi (some ⟨g1, 0, none⟩) N N (unTo st j) ∧ OwnC 4 wr.heap.size 1 wi (some ⟨g2, 0, none⟩) N N (st.k.map Value.bool) ∧ Below wr.heap.size wr wi)
              case atStart => exact ⟨0, rfl, by omega, rfl, oD, oK, HBZ.out⟩
              case round =>
                clear oD oK
                obtain ⟨j, hr, hj, rfl, oD, oK, hbj⟩ := hrel
                have HR := Lib.hid hr
                clear hr
                by_cases hlj : j < N
                · have hck := OwnC.cell oK (j := j) (by omega)
                  rw [boolsC_get HRELh.out.kl hlj] at hck
                  cases hkj : st.k.getD j false
                  · rw [hkj] at hck
                    have HE := Lib.hid (unTo_set (s := st) (j := j) (by rw [HRELh.out.dl]; exact hlj) hkj)
                    have hfr := OwnI.free oD j
                    have hcj := OwnI.cell oD hlj
                    have oD2 := OwnI.set oD j (-1)
                    rw [HE.out] at oD2
                    have oK2 := OwnC.far oK (p := ⟨g1, j, none⟩) (fun ad ha => by injection ha with ha; subst ha; exact fun e => hg12 e.symm) (.int .i64 (-1))
                    have hbj2 := hbj.setCell (p := ⟨g1, j, none⟩) hg1' (.int .i64 (-1))
                    clear hkj
                    go_wp2_with fail
                    go_roundg (N - (j + 1))
                    case measure => rw [HR.out]; omega
                    case rel => exact ⟨j + 1, rfl, by omega, by go_num, oD2, oK2, hbj2⟩
                  · rw [hkj] at hck
                    have HE := Lib.hid (unTo_keep (s := st) (j := j) hkj)
                    rw [← HE.out] at oD
                    clear hkj
                    go_wp2_with fail
                    go_roundg (N - (j + 1))
                    case measure => rw [HR.out]; omega
                    case rel => exact ⟨j + 1, rfl, by omega, by go_num, oD, oK, hbj⟩
                · have e : N = j := by omega
                  subst e
                  rw [hUN.out] at oD
                  go_wp2_with fail
                  go_ret2
                  exact ⟨_, N, N, ret_LBc HS2.out.symm, by rw [HV2.out]; exact OwnI.low oD (Nat.le_trans hW.size hbw.size), below_ext hW hW.size (ext_trans hbw hbj)⟩
end Go.Proofs.Ytpaahjeohigngaa
