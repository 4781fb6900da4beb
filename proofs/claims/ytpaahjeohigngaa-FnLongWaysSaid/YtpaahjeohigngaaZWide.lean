/- WideWay of the program: the walk. -/
import Derived.Test.YtpaahjeohigngaaJ3
import Derived.Test.YtpaahjeohigngaaZGreat2
import Derived.Test.YtpaahjeohigngaaZReverse
namespace Go.Proofs.Ytpaahjeohigngaa
open Go.RowKit

theorem wideB_no {nodes : Int} {xs : List ArcR} {a b : Int} (h : wideB nodes xs a b = false) : wideV nodes xs a b = ([], 0) := by unfold wideV; rw [if_neg (by rw [h]; decide)]
theorem ret_LIBw {A : Option Addr} {n c : Nat} {i j : Int} {a b : Bool} (h1 : i = j) (h2 : a = b) : Ending.returned (.tuple #[.slice A n c, .int .i64 i, .bool a]) = .returned (.tuple #[.slice A n c, .int .i64 j, .bool b]) := by rw [h1, h2]
/-- which nodes are settled, as cells -/
def setB (T : List Nat) : List Value := T.map fun t => Value.bool (decide (t ≠ 0))
theorem setB_get {T : List Nat} {v N : Nat} (hl : T.length = N) (h : v < N) : (setB T)[v]? = some (.bool (decide (T.getD v 0 ≠ 0))) := by
  unfold setB
  simp [List.getD, List.getElem?_eq_getElem (show v < T.length by omega)]
theorem setB_set {T : List Nat} {v k : Nat} : (setB T).set v (.bool true) = setB (T.set v (k + 1)) := by
  unfold setB
  rw [List.map_set]
  rfl
theorem setB_zero (N : Nat) : setB (List.replicate N 0) = List.replicate N (.bool false) := by simp [setB]
theorem fillW_set {N k : Nat} {a b : Int} (h : k < N) : (List.replicate k a ++ List.replicate (N - k) b).set k a = List.replicate (k + 1) a ++ List.replicate (N - (k + 1)) b := by
  rw [List.set_append_right _ _ (by simp)]
  simp only [List.length_replicate, Nat.sub_self]
  rw [show N - k = N - (k + 1) + 1 by omega, List.replicate_succ, List.set_cons_zero, List.replicate_succ' (n := k), List.append_assoc]
  rfl
theorem zerosW_rep (N : Nat) : (madeCells (Value.int .i64 0).cells (N * 1)).toList = (List.replicate N (0 : Int)).map (Value.int .i64) := by
  show (madeCells #[Value.int .i64 0] (N * 1)).toList = _
  rw [toList_madeCells_one]; simp
theorem net_ok {nodes : Int} {xs : List ArcR} {N : Nat} (hN : nodes = N) (h : validB nodes xs = true) : NetOk xs N := fun j hj => by
  obtain ⟨_, _, _, hb⟩ := valid_bd h
  obtain ⟨h1, h2, _, h4, _⟩ := hb j hj
  subst hN
  exact ⟨h1, h2, h4⟩
theorem pick_skip1 {s : WideS} {i : Nat} (h : s.T.getD i 0 ≠ 0) : pickTo s (i + 1) = pickTo s i := by
  rw [pickTo, if_neg]; unfold wideGo; rw [decide_eq_false h]; simp
theorem pick_skip2 {s : WideS} {i : Nat} (h : ¬ 0 ≤ s.W.getD i 0) : pickTo s (i + 1) = pickTo s i := by
  rw [pickTo, if_neg]; unfold wideGo; rw [decide_eq_false h]; simp
theorem pick_skip3 {s : WideS} {i : Nat} (h : ¬ pickTo s i < 0) (h2 : ¬ s.W.getD (pickTo s i).toNat 0 < s.W.getD i 0) : pickTo s (i + 1) = pickTo s i := by
  rw [pickTo, if_neg]; unfold wideGo; rw [decide_eq_false h, decide_eq_false h2]; simp
theorem pick_take {s : WideS} {i : Nat} (h : s.T.getD i 0 = 0) (h0 : 0 ≤ s.W.getD i 0) (h2 : pickTo s i < 0 ∨ s.W.getD (pickTo s i).toNat 0 < s.W.getD i 0) : pickTo s (i + 1) = i := by
  rw [pickTo, if_pos]; unfold wideGo
  rw [decide_eq_true h, decide_eq_true h0, Bool.true_and, Bool.true_and, Bool.or_eq_true, decide_eq_true_eq, decide_eq_true_eq]
  exact h2
theorem wide_no1 {xs : List ArcR} {u j : Nat} {s : WideS} (h : (xs.getD j default).fr ≠ (u : Int)) : wideOne xs u s j = s := by unfold wideOne; rw [if_neg (fun h1 => h h1.1)]
theorem wide_no2 {xs : List ArcR} {u j : Nat} {s : WideS} (h : ¬ s.W.getD (xs.getD j default).to_.toNat 0 < min (s.W.getD u 0) (xs.getD j default).room) : wideOne xs u s j = s := by unfold wideOne; rw [if_neg (fun h1 => h h1.2)]
theorem wide_yes {xs : List ArcR} {u j : Nat} {s : WideS} (h1 : (xs.getD j default).fr = (u : Int)) (h : s.W.getD (xs.getD j default).to_.toNat 0 < min (s.W.getD u 0) (xs.getD j default).room) : wideOne xs u s j = { s with W := s.W.set (xs.getD j default).to_.toNat (min (s.W.getD u 0) (xs.getD j default).room), B := s.B.set (xs.getD j default).to_.toNat j } := by unfold wideOne; rw [if_pos ⟨h1, h⟩]

set_option maxRecDepth 100000 in
set_option maxHeartbeats 6400000 in
theorem implWideWay_r (nodes : Int) (A : Option Addr) (n c : Nat) (xs : List ArcR) (a b : Int) (w : World) (h : ArcsAt w A n xs) (hn0 : n ≤ maxLen) :
    Calls Try.prog 15 #[.agg #[.int .i64 nodes, .slice A n c], .int .i64 a, .int .i64 b] w (RetLIB 2 (wideV nodes xs a b).1 (wideV nodes xs a b).2 (wideB nodes xs a b) w) := by
  have HX := Lib.hid h.len
  have hW : Below w.heap.size w (w.alloc (.cells #[.int .i64 nodes, .slice A n c] 26)) := (Below.refl _ _).alloc (Nat.le_refl _) _
  have h3 := h.alloc (.cells #[.int .i64 nodes, .slice A n c] 26)
  have HB := Lib.hid (Blk.new w 26 #[.int .i64 nodes, .slice A n c])
  have hlt0 : w.heap.size < (w.alloc (.cells #[.int .i64 nodes, .slice A n c] 26)).heap.size := by simp
  clear h
  cases he : endsB nodes xs a b
  · have HS := Lib.hid (show wideB nodes xs a b = false by unfold wideB; rw [he]; rfl)
    have HV := Lib.hid (wideB_no HS.out)
    go_enter Try.func15, Try.ntmps15
    go_wp2_with fail
    generalize w.alloc (.cells #[.int .i64 nodes, .slice A n c] 26) = W at *
    refine (areEnds_any nodes A n c xs a b _ h3 hn0).mono ?_
    rw [he]
    rintro e w1 ⟨rfl, e1⟩
    go_wp2_with fail
    go_ret3
    exact ⟨none, 0, 0, ret_LIBw (by rw [HV.out]) HS.out.symm, by rw [HV.out]; exact OwnI.nil_ _ _ _, below_ext hW hW.size e1⟩
  · obtain ⟨N, F, t, rfl, rfl, rfl, hF, ht, htF, hv⟩ := ends_bd he
    obtain ⟨v0, v1, v2, _⟩ := valid_bd hv
    rw [HX.out] at v2
    have HS := Lib.hid (show wideB N xs F t = decide (0 ≤ (wideR xs N F N).W.getD t 0) by unfold wideB; rw [he, Int.toNat_natCast, Int.toNat_natCast, Int.toNat_natCast]; rfl)
    have HV := Lib.hid (show wideV N xs F t = if wideB N xs F t = true then ((wback xs (wideR xs N F N) t (wayP xs N F t)).reverse, (wideR xs N F N).W.getD t 0) else ([], 0) by unfold wideV; rw [Int.toNat_natCast, Int.toNat_natCast, Int.toNat_natCast])
    have HNO := Lib.hid (net_ok (N := N) rfl hv)
    have HARCS := Lib.hid h3
    go_enter Try.func15, Try.ntmps15
    go_wp2_with fail
    generalize w.alloc (.cells #[.int .i64 N, .slice A n c] 26) = W at *
    refine (areEnds_any N A n c xs F t _ h3 hn0).mono ?_
    rw [he]
    rintro e w1 ⟨rfl, e1⟩
    clear he hv h3
    have KX := Lib.hid (HB.out.ext e1)
    have hs1 := e1.size
    obtain ⟨l0, hl0, hy0, hy1, hy2⟩ := info_parts info64
    obtain ⟨j0, hj0, hw0, hw1, hw2⟩ := info_parts infoB1
    have hmk1 := fun (w : World) => run_make (P := Try.prog) w 29 2 l0 _ Try.underlying29 hl0 hy0 .i64 .i64 (N : Int) (N : Int) (by omega) (Int.le_refl _) (by rw [hy2]; omega) (by omega)
    have hmk2 := fun (w : World) => run_make (P := Try.prog) w 60 4 j0 _ Try.underlying60 hj0 hw0 .i64 .i64 (N : Int) (N : Int) (by omega) (Int.le_refl _) (by rw [hw2]; omega) (by omega)
    simp only [Int.toNat_natCast, hw1, hy1] at hmk1 hmk2
    have HZ1 := Lib.hid (zerosW_rep N)
    have HZ2 := Lib.hid (bools_rep N)
    generalize madeCells (Value.int .i64 0).cells (N * 1) = M1 at *
    generalize madeCells (Value.bool false).cells (N * 1) = M3 at *
    have q0 := KX.out.cell 0
    have pa := (KX.out.alloc (.cells M1 2)).cell 0
    have pb := (KX.out.alloc (.cells M3 4)).cell 0
    have pc := ((KX.out.alloc (.cells M1 2)).alloc (.cells M1 2)).cell 0
    have pd := ((KX.out.alloc (.cells M1 2)).alloc (.cells M3 4)).cell 0
    have pe := ((KX.out.alloc (.cells M3 4)).alloc (.cells M1 2)).cell 0
    go_wp2_with fail
    go_cut [9, 10, 11] (fun s9 s10 s11 wx => ∃ (g1 g2 g3 : Nat), s9 = .slice (some ⟨g1, 0, none⟩) N N ∧ s10 = .slice (some ⟨g2, 0, none⟩) N N ∧ s11 = .slice (some ⟨g3, 0, none⟩) N N ∧ OwnI 2 w1.heap.size wx (some ⟨g1, 0, none⟩) N N (List.replicate N 0) ∧ OwnI 2 w1.heap.size wx (some ⟨g2, 0, none⟩) N N (List.replicate N 0) ∧ OwnC 4 w1.heap.size 1 wx (some ⟨g3, 0, none⟩) N N (setB (List.replicate N 0)) ∧ g1 ≠ g2 ∧ g1 ≠ g3 ∧ g2 ≠ g3 ∧ Below w1.heap.size w1 wx)
    case first =>
      have hx : M1.size = N * 1 := by have := congrArg List.length HZ1.out; simpa using this
      have hy : M3.size = N * 1 := by have := congrArg List.length HZ2.out; simpa using this
      have HO := Lib.hid (fun (W' : World) (hs : w1.heap.size ≤ W'.heap.size) => (show OwnI 2 w1.heap.size (W'.alloc (.cells M1 2)) (some ⟨W'.heap.size, 0, none⟩) N N (List.replicate N 0) from by
        have h := World.ownsRow_lit (e := 2) (base := w1.heap.size) (size := 1) W' M1 N hs (by unfold maxLen; omega) hx
        rw [HZ1.out] at h
        exact h))
      have HP := Lib.hid (fun (W' : World) (hs : w1.heap.size ≤ W'.heap.size) => (show OwnC 4 w1.heap.size 1 (W'.alloc (.cells M3 4)) (some ⟨W'.heap.size, 0, none⟩) N N (setB (List.replicate N 0)) from by
        have h := World.ownsRow_lit (e := 4) (base := w1.heap.size) (size := 1) W' M3 N hs (by unfold maxLen; omega) hy
        rw [HZ2.out] at h
        rw [setB_zero]
        exact h))
      have HO2 := Lib.hid (fun (o : Obj) => (show OwnI 2 w1.heap.size ((w1.alloc o).alloc (.cells M1 2)) (some ⟨w1.heap.size + 1, 0, none⟩) N N (List.replicate N 0) from by
        have h := HO.out (w1.alloc o) (by simp)
        rw [World.size_alloc] at h; exact h))
      have HO3 := Lib.hid (fun (o o' : Obj) => (show OwnI 2 w1.heap.size (((w1.alloc o).alloc o').alloc (.cells M1 2)) (some ⟨w1.heap.size + 1 + 1, 0, none⟩) N N (List.replicate N 0) from by
        have h := HO.out ((w1.alloc o).alloc o') (by simp; omega)
        rw [World.size_alloc, World.size_alloc] at h; exact h))
      have HP2 := Lib.hid (fun (o : Obj) => (show OwnC 4 w1.heap.size 1 ((w1.alloc o).alloc (.cells M3 4)) (some ⟨w1.heap.size + 1, 0, none⟩) N N (setB (List.replicate N 0)) from by
        have h := HP.out (w1.alloc o) (by simp)
        rw [World.size_alloc] at h; exact h))
      have HP3 := Lib.hid (fun (o o' : Obj) => (show OwnC 4 w1.heap.size 1 (((w1.alloc o).alloc o').alloc (.cells M3 4)) (some ⟨w1.heap.size + 1 + 1, 0, none⟩) N N (setB (List.replicate N 0)) from by
        have h := HP.out ((w1.alloc o).alloc o') (by simp; omega)
        rw [World.size_alloc, World.size_alloc] at h; exact h))
      have HBL := Lib.hid (fun (o o' o'' : Obj) => ((((Below.refl w1.heap.size w1).alloc (Nat.le_refl _) o).alloc (by simp) o').alloc (by simp; omega) o'').drew)
      clear hx hy
      go_region
      all_goals
        go_wp2_with fail
        go_meet
        first
          | exact ⟨w1.heap.size, w1.heap.size + 1, w1.heap.size + 1 + 1, rfl, rfl, rfl, OwnI.drew (OwnI.alloc (OwnI.alloc (HO.out w1 (Nat.le_refl _)) _) _), OwnI.drew (OwnI.alloc (HO2.out _) _), OwnC.drew (HP3.out _ _), by omega, by omega, by omega, HBL.out _ _ _⟩
          | exact ⟨w1.heap.size + 1, w1.heap.size, w1.heap.size + 1 + 1, rfl, rfl, rfl, OwnI.drew (OwnI.alloc (HO2.out _) _), OwnI.drew (OwnI.alloc (OwnI.alloc (HO.out w1 (Nat.le_refl _)) _) _), OwnC.drew (HP3.out _ _), by omega, by omega, by omega, HBL.out _ _ _⟩
          | exact ⟨w1.heap.size, w1.heap.size + 1 + 1, w1.heap.size + 1, rfl, rfl, rfl, OwnI.drew (OwnI.alloc (OwnI.alloc (HO.out w1 (Nat.le_refl _)) _) _), OwnI.drew (HO3.out _ _), OwnC.drew (OwnC.alloc (HP2.out _) _), by omega, by omega, by omega, HBL.out _ _ _⟩
          | exact ⟨w1.heap.size + 1 + 1, w1.heap.size, w1.heap.size + 1, rfl, rfl, rfl, OwnI.drew (HO3.out _ _), OwnI.drew (OwnI.alloc (OwnI.alloc (HO.out w1 (Nat.le_refl _)) _) _), OwnC.drew (OwnC.alloc (HP2.out _) _), by omega, by omega, by omega, HBL.out _ _ _⟩
          | exact ⟨w1.heap.size + 1, w1.heap.size + 1 + 1, w1.heap.size, rfl, rfl, rfl, OwnI.drew (OwnI.alloc (HO2.out _) _), OwnI.drew (HO3.out _ _), OwnC.drew (OwnC.alloc (OwnC.alloc (HP.out w1 (Nat.le_refl _)) _) _), by omega, by omega, by omega, HBL.out _ _ _⟩
          | exact ⟨w1.heap.size + 1 + 1, w1.heap.size + 1, w1.heap.size, rfl, rfl, rfl, OwnI.drew (HO3.out _ _), OwnI.drew (OwnI.alloc (HO2.out _) _), OwnC.drew (OwnC.alloc (OwnC.alloc (HP.out w1 (Nat.le_refl _)) _) _), by omega, by omega, by omega, HBL.out _ _ _⟩
    case rest =>
      obtain ⟨g1, g2, g3, rfl, rfl, rfl, o1, o2, o3, h12, h13, h23, hbx⟩ := hcut
      have hg1w : w1.heap.size ≤ g1 := (OwnI.lt o1 rfl).1
      have hg2w : w1.heap.size ≤ g2 := (OwnI.lt o2 rfl).1
      have hg3w : w1.heap.size ≤ g3 := (OwnC.lt o3 rfl).1
      have HF0 := Lib.hid (show List.replicate N (0 : Int) = List.replicate 0 (-1) ++ List.replicate (N - 0) 0 by simp)
      rw [HF0.out] at o1
      clear q0 pa pb pc pd pe hmk1 hmk2 HZ1 HZ2 hl0 hy0 hy1 hy2 hj0 hw0 hw1 hw2
      go_wp2_with fail
      go_loopg [37] N (fun r iv wi => ∃ (k : Nat), r = N - k ∧ k ≤ N ∧ iv = .int .i64 k ∧ OwnI 2 w1.heap.size wi (some ⟨g1, 0, none⟩) N N (List.replicate k (-1) ++ List.replicate (N - k) 0) ∧ OwnI 2 w1.heap.size wi (some ⟨g2, 0, none⟩) N N (List.replicate N 0) ∧ OwnC 4 w1.heap.size 1 wi (some ⟨g3, 0, none⟩) N N (setB (List.replicate N 0)) ∧ Below w1.heap.size w1 wi)
      case atStart => exact ⟨0, rfl, by omega, rfl, o1, by rw [← HF0.out] at o1; exact o2, o3, hbx⟩
      case round =>
        clear o1 o2 o3 hbx
        obtain ⟨k, hr, hk, rfl, o1, o2, o3, hbw⟩ := hrel
        have HR := Lib.hid hr
        clear hr
        by_cases hlt : k < N
        · have f1 := OwnI.free o1 k
          have c1 := OwnI.cell o1 hlt
          have o1S := OwnI.set o1 k (-1)
          rw [fillW_set hlt] at o1S
          have o2S := OwnI.far o2 (p := ⟨g1, k, none⟩) (fun ad ha => by injection ha with ha; subst ha; exact fun e => h12 e.symm) (.int .i64 (-1))
          have o3S := OwnC.far o3 (p := ⟨g1, k, none⟩) (fun ad ha => by injection ha with ha; subst ha; exact fun e => h13 e.symm) (.int .i64 (-1))
          have bS := hbw.setCell (p := ⟨g1, k, none⟩) hg1w (.int .i64 (-1))
          clear o1 o2 o3 hbw
          generalize (List.replicate k (-1 : Int) ++ List.replicate (N - k) 0).getD k 0 = z at *
          go_wp2_with fail
          go_roundg (N - (k + 1))
          case measure => rw [HR.out]; omega
          case rel => exact ⟨k + 1, rfl, by omega, by go_num, o1S, o2S, o3S, bS⟩
        · have e : N = k := by omega
          subst e
          rw [Nat.sub_self, List.replicate_zero, List.append_nil] at o1
          have f1 := OwnI.free o1 F
          have c1 := OwnI.cell o1 hF
          have o1S : OwnI 2 w1.heap.size (wr.setCell ⟨g1, F, none⟩ (.int .i64 1000001)) (some ⟨g1, 0, none⟩) N N (wideR xs N F 0).W := OwnI.set o1 F 1000001
          have o2S : OwnI 2 w1.heap.size (wr.setCell ⟨g1, F, none⟩ (.int .i64 1000001)) (some ⟨g2, 0, none⟩) N N (wideR xs N F 0).B := OwnI.far o2 (p := ⟨g1, F, none⟩) (fun ad ha => by injection ha with ha; subst ha; exact fun e => h12 e.symm) (.int .i64 1000001)
          have o3S : OwnC 4 w1.heap.size 1 (wr.setCell ⟨g1, F, none⟩ (.int .i64 1000001)) (some ⟨g3, 0, none⟩) N N (setB (wideR xs N F 0).T) := OwnC.far o3 (p := ⟨g1, F, none⟩) (fun ad ha => by injection ha with ha; subst ha; exact fun e => h13 e.symm) (.int .i64 1000001)
          have bS := hbw.setCell (p := ⟨g1, F, none⟩) hg1w (.int .i64 1000001)
          have HC0 := Lib.hid (show (wideR xs N F 0).T.count 0 + 0 = N by simp [wideR, wide0])
          have v1' : (F : Int) < (N : Int) := by omega
          clear o1 o2 o3 hbw
          generalize (List.replicate N (-1 : Int)).getD F 0 = z at *
          obtain ⟨wm, rfl⟩ : ∃ wm : World, wm = wr := ⟨_, rfl⟩
          go_upto_region 10 with (fail)
          generalize wm.setCell ⟨g1, F, none⟩ (.int .i64 1000001) = W2 at *
          clear f1 c1
          go_loopg [13] N (fun r v13 wi => ∃ (k : Nat) (u13 : Value), r = N - k ∧ k ≤ N ∧ v13 = u13 ∧ OwnI 2 w1.heap.size wi (some ⟨g1, 0, none⟩) N N (wideR xs N F k).W ∧ OwnI 2 w1.heap.size wi (some ⟨g2, 0, none⟩) N N (wideR xs N F k).B ∧ OwnC 4 w1.heap.size 1 wi (some ⟨g3, 0, none⟩) N N (setB (wideR xs N F k).T) ∧ Below w1.heap.size w1 wi ∧ Hid ((wideR xs N F k).T.count 0 + k = N))
          case atStart => exact ⟨0, _, rfl, by omega, rfl, o1S, o2S, o3S, bS, HC0⟩
          case round =>
            clear o1S o2S o3S bS HC0
            obtain ⟨k, u13, hr, hk, rfl, o1, o2, o3, hbw, HCN⟩ := hrel
            have HR := Lib.hid hr
            clear hr
            have hOK := wideR_ok HNO.out hF k
            have HPK := Lib.hid (fun i => pick_ok (s := wideR xs N F k) i)
            have HCT := Lib.hid (fun hp => wideR_count HNO.out hF HCN.out hp)
            have HST := Lib.hid (fun hp => wideR_stay (xs := xs) (N := N) (F := F) (k := k) hp (N - k))
            rw [show k + (N - k) = N by omega] at HST
            have HWY := Lib.hid (fun hp h0 => way_all HNO.out hF hk hp ht h0)
            have HNX := Lib.hid (fun hp => (show wideR xs N F (k + 1) = wideTo xs (pickTo (wideR xs N F k) N).toNat { wideR xs N F k with T := (wideR xs N F k).T.set (pickTo (wideR xs N F k) N).toNat (k + 1) } xs.length from if_neg hp))
            have HOK := Lib.hid hOK
            clear hOK
            generalize hs0 : wideR xs N F k = s at *
            have HS0 := Lib.hid hs0
            clear hs0
            obtain ⟨wo, rfl⟩ : ∃ wo : World, wo = wr := ⟨_, rfl⟩
            go_wp2_with fail
            go_loop [13, 49] (fun pv iv => ∃ (i : Nat), i ≤ N ∧ iv = .int .i64 i ∧ pv = .int .i64 (pickTo s i)) (fun _ iv => N - (intOf iv).toNat)
            case atStart => exact ⟨0, by omega, rfl, rfl⟩
            case round =>
              obtain ⟨i, hi, rfl, rfl⟩ := hrel
              by_cases hlt : i < N
              · have c1 := OwnI.cell o1 hlt
                have c3 := OwnC.cell o3 (j := i) (by omega)
                rw [setB_get HOK.out.tl hlt] at c3
                have v1 : (i : Int) < (N : Int) := by omega
                by_cases hT : s.T.getD i 0 = 0
                · rw [decide_eq_false (show ¬ s.T.getD i 0 ≠ 0 from fun h => h hT)] at c3
                  by_cases h0 : 0 ≤ s.W.getD i 0
                  · have d0 : decide (s.W.getD i 0 ≥ 0) = true := decide_eq_true h0
                    rcases HPK.out i with hp | ⟨v, p1, p2, p3, p4, p5⟩
                    · have HE := Lib.hid (pick_take hT h0 (.inl (by rw [hp]; omega)))
                      rw [hp]
                      clear hp hT
                      go_wp2_with fail
                      go_round
                      case rel => exact ⟨i + 1, by omega, by go_num, by rw [HE.out]⟩
                      case measure => simp [intOf]; omega
                    · have cv := OwnI.cell o1 (show v < N by omega)
                      have v2 : (v : Int) < (N : Int) := by omega
                      have v3 : 0 ≤ (v : Int) := by omega
                      have d1 : decide ((v : Int) < 0) = false := decide_eq_false (by omega)
                      by_cases hgt : s.W.getD v 0 < s.W.getD i 0
                      · have HE := Lib.hid (pick_take hT h0 (.inr (by rw [p1, Int.toNat_natCast]; exact hgt)))
                        rw [p1]
                        clear p1 hT p5 p3 p4
                        generalize s.W.getD v 0 = wv at *
                        generalize s.W.getD i 0 = wi at *
                        go_wp2_with fail
                        go_round
                        case rel => exact ⟨i + 1, by omega, by go_num, by rw [HE.out]⟩
                        case measure => simp [intOf]; omega
                      · have HE := Lib.hid ((pick_skip3 (by rw [p1]; omega) (by rw [p1, Int.toNat_natCast]; exact hgt)).trans p1)
                        rw [p1]
                        clear p1 hT p5 p3 p4
                        generalize s.W.getD v 0 = wv at *
                        generalize s.W.getD i 0 = wi at *
                        go_wp2_with fail
                        go_round
                        case rel => exact ⟨i + 1, by omega, by go_num, by rw [HE.out]⟩
                        case measure => simp [intOf]; omega
                  · have HE := Lib.hid (pick_skip2 h0)
                    have d0 : decide (s.W.getD i 0 ≥ 0) = false := decide_eq_false h0
                    clear hT
                    generalize s.W.getD i 0 = wi at *
                    generalize pickTo s i = pv at *
                    go_wp2_with fail
                    go_round
                    case rel => exact ⟨i + 1, by omega, by go_num, by rw [HE.out]⟩
                    case measure => simp [intOf]; omega
                · have HE := Lib.hid (pick_skip1 hT)
                  rw [decide_eq_true hT] at c3
                  clear hT
                  generalize s.W.getD i 0 = wi at *
                  generalize pickTo s i = pv at *
                  go_wp2_with fail
                  go_round
                  case rel => exact ⟨i + 1, by omega, by go_num, by rw [HE.out]⟩
                  case measure => simp [intOf]; omega
              · have e : N = i := by omega
                subst e
                rcases HPK.out N with hp | ⟨v, p1, p2, p3, p4, p5⟩
                · have HST2 := Lib.hid (HST.out (by rw [hp]; omega))
                  have HP := Lib.hid hp
                  rw [hp]
                  have ct := OwnI.cell o1 ht
                  have v1 : (t : Int) < (N : Int) := by omega
                  have HS2 := Lib.hid (show wideB N xs F t = decide (0 ≤ s.W.getD t 0) from by rw [HS.out, HST2.out])
                  by_cases h0 : 0 ≤ s.W.getD t 0
                  · have HS3 := Lib.hid (show wideB N xs F t = true from HS2.out.trans (decide_eq_true h0))
                    have hV1 := HV.out.trans (if_pos HS3.out)
                    obtain ⟨p, hwy⟩ := HWY.out (by omega) h0
                    have hwy2 : WayOk xs N F t (wideR xs N F N) p := by rw [HST2.out]; exact hwy
                    rw [wayP_ok hwy2, HST2.out] at hV1
                    have HV2 := Lib.hid hV1
                    have hpN := hwy.le
                    have HAT := Lib.hid hwy.at_
                    have HNE := Lib.hid hwy.ne
                    have d0 : decide (s.W.getD t 0 < 0) = false := decide_eq_false (by omega)
                    have HBL := Lib.hid HOK.out.bl
                    have HOW := Lib.hid o1
                    clear hp hV1 hwy hwy2 HWY HPK HCT HST HNX HOK
                    generalize hwt : s.W.getD t 0 = wt at *
                    have HWT := Lib.hid hwt
                    clear hwt
                    obtain ⟨wz, rfl⟩ : ∃ wz : World, wz = wo := ⟨_, rfl⟩
                    go_wp2_with fail
                    go_loopg [19, 20] p (fun r bv av wi => ∃ (j : Nat) (Q : Option Addr) (cq : Nat), r = p - j ∧ j ≤ p ∧ bv = .slice Q j cq ∧ av = .int .i64 ((wchain xs s t j : Nat) : Int) ∧ OwnI 2 wz.heap.size wi Q j cq (wback xs s t j) ∧ Below wz.heap.size wz wi)
                    case atStart => exact ⟨0, none, 0, rfl, by omega, rfl, rfl, OwnI.nil_ _ _ _, Below.refl _ _⟩
                    case round =>
                      obtain ⟨j, Q, cq, hr, hj, rfl, rfl, oq, hbz⟩ := hrel
                      have HR2 := Lib.hid hr
                      clear hr
                      have hszz := hbz.size
                      by_cases hlj : j < p
                      · obtain ⟨n1, n2, bb, n3, n4, n5, _⟩ := HNE.out j hlj
                        have HBK := Lib.hid (wback_succ xs s t j)
                        have cb := OwnI.cell (OwnI.below o2 hbz) n2
                        obtain ⟨ad, hA, had, c0, c1, c2, c3⟩ := (((HARCS.out.below e1).below hbw).below hbz).at_ (show bb < n by rw [← HX.out]; exact n4)
                        subst hA
                        rw [n5] at c0
                        rw [n3] at cb HBK
                        have HN5 := Lib.hid n5
                        have HN3 := Lib.hid n3
                        generalize hy2 : wchain xs s t (j + 1) = y2 at *
                        have HY2 := Lib.hid hy2
                        clear hy2
                        generalize wchain xs s t j = y at *
                        have hfb : ((y : Int) != (F : Int)) = true := by rw [bne_iff_ne]; omega
                        have v2 : (y : Int) < (N : Int) := by omega
                        have v3 : (bb : Int) < (n : Int) := by have := HX.out; omega
                        have kx := (KX.out.ext hbw).ext hbz
                        clear c1 c2 c3 n3 n5 n1
                        have hjn : j + 1 ≤ 16 := by omega
                        go_upto_region 31 with (at_builtin; (refine wp_append_int _ _ rfl _ _ _ rfl 2 wz.heap.size Try.underlying29 info64 Q j cq _ rfl oq rfl (by omega) hszz ?_; intro g5 c5 w6 o6 u6 b6 hg6))
                        have hb6 := hbz.trans b6
                        have q1 := ((KX.out.ext hbw).ext hb6).cell 1
                        have HB6 := Lib.hid hb6
                        obtain ⟨ad6, hA6, had6, c6, _⟩ := (((HARCS.out.below e1).below hbw).below hb6).at_ (show bb < n by rw [← HX.out]; exact n4)
                        injection hA6 with hA6
                        subst hA6
                        rw [HN5.out] at c6
                        have cb6 := OwnI.cell (OwnI.below o2 hb6) n2
                        rw [HN3.out] at cb6
                        have HO6 := Lib.hid o6
                        clear c0 cb kx had hb6 o6 u6 b6 hg6 oq hbz
                        go_quiet (fail)
                        go_wp2_with fail
                        go_roundg (p - (j + 1))
                        case measure => rw [HR2.out]; omega
                        case rel => exact ⟨j + 1, _, c5, rfl, by omega, rfl, by rw [HY2.out], by rw [HBK.out]; exact OwnI.drewN HO6.out _, below_drewN HB6.out _⟩
                      · have e : p = j := by omega
                        subst e
                        rw [HAT.out]
                        have hfb : ((F : Int) != (F : Int)) = false := by simp
                        go_wp2_with fail
                        refine (reverse_any wz.heap.size Q p cq _ _ oq (by omega)).mono ?_
                        rintro e w9 ⟨rfl, o9, u9⟩
                        have hb9 := below_blk hbz hbz.size u9 oq (Nat.le_refl _)
                        have hb9' := hbw.trans (hb9.mono hbw.size)
                        have ct9 := OwnI.cell (OwnI.below HOW.out hb9) ht
                        rw [HWT.out] at ct9
                        have hle : w.heap.size ≤ wz.heap.size := by have := hbw.size; have := hs1; have := hW.size; omega
                        clear oq hbz u9 hb9
                        go_wp2_with fail
                        go_quiet (fail)
                        go_wp2_with fail
                        go_ret3
                        exact ⟨Q, p, cq, ret_LIBw (by rw [HV2.out]) HS3.out.symm, by rw [HV2.out]; exact OwnI.drewN (OwnI.low o9 hle) _, below_drewN (below_ext hW hW.size (below_ext e1 hs1 hb9')) _⟩
                  · have HS3 := Lib.hid (show wideB N xs F t = false from HS2.out.trans (decide_eq_false h0))
                    have HV2 := Lib.hid (show wideV N xs F t = ([], 0) from HV.out.trans (if_neg (by rw [HS3.out]; decide)))
                    have d0 : decide (s.W.getD t 0 < 0) = true := decide_eq_true (by omega)
                    have hlt0 : s.W.getD t 0 < 0 := by omega
                    clear hp
                    generalize s.W.getD t 0 = wt at *
                    go_wp2_with fail
                    go_ret3
                    exact ⟨none, 0, 0, ret_LIBw (by rw [HV2.out]) HS3.out.symm, by rw [HV2.out]; exact OwnI.nil_ _ _ _, below_ext hW hW.size (ext_trans e1 hbw)⟩
                · have hnp : ¬ pickTo s N < 0 := by rw [p1]; omega
                  obtain ⟨hkN, hcn⟩ := HCT.out (by omega)
                  have HCN2 := Lib.hid hcn
                  have hnx := HNX.out (by omega)
                  rw [p1, Int.toNat_natCast] at hnx
                  have HNX2 := Lib.hid hnx
                  rw [p1]
                  have hpos : ¬ (v : Int) < 0 := by omega
                  have f3 := OwnC.free o3 v
                  have c3 := OwnC.cell o3 (j := v) (by omega)
                  rw [setB_get HOK.out.tl p2] at c3
                  have o3S := OwnC.set o3 v (.bool true)
                  rw [setB_set (k := k)] at o3S
                  have o1S := OwnI.far o1 (p := ⟨g3, v, none⟩) (fun ad ha => by injection ha with ha; subst ha; exact h13) (.bool true)
                  have o2S := OwnI.far o2 (p := ⟨g3, v, none⟩) (fun ad ha => by injection ha with ha; subst ha; exact h23) (.bool true)
                  have bS := hbw.setCell (p := ⟨g3, v, none⟩) hg3w (.bool true)
                  obtain ⟨s1, s2, s3⟩ := settle_ok HOK.out p2 p3 p4 p5
                  have HTO := Lib.hid (fun j hj => wideTo_ok HNO.out p2 hF s1 s2 s3 j hj)
                  have v1 : (v : Int) < (N : Int) := by omega
                  clear hnp hcn hnx p1 p3 p4 p5 s1 s2 s3 o1 o2 o3
                  go_upto_region 19 with (fail)
                  have q1 := (KX.out.ext bS).cell 1
                  generalize wo.setCell ⟨g3, v, none⟩ (.bool true) = W3 at *
                  clear f3 c3
                  generalize hs1 : ({ s with T := s.T.set v (k + 1) } : WideS) = z at *
                  have HZW := Lib.hid (show s.W = (wideTo xs v z 0).W by rw [← hs1]; rfl)
                  have HZB := Lib.hid (show s.B = (wideTo xs v z 0).B by rw [← hs1]; rfl)
                  have HZT := Lib.hid (show s.T.set v (k + 1) = (wideTo xs v z 0).T by rw [← hs1]; rfl)
                  clear hs1
                  rw [HZW.out] at o1S
                  rw [HZB.out] at o2S
                  rw [HZT.out] at o3S
                  go_wp2_with fail
                  clear q1
                  go_loopg [85] n (fun r iv wi => ∃ (j : Nat), r = n - j ∧ j ≤ n ∧ iv = .int .i64 j ∧ OwnI 2 w1.heap.size wi (some ⟨g1, 0, none⟩) N N (wideTo xs v z j).W ∧ OwnI 2 w1.heap.size wi (some ⟨g2, 0, none⟩) N N (wideTo xs v z j).B ∧ OwnC 4 w1.heap.size 1 wi (some ⟨g3, 0, none⟩) N N (setB (wideTo xs v z j).T) ∧ Below w1.heap.size w1 wi)
                  case atStart => exact ⟨0, rfl, by omega, rfl, o1S, o2S, o3S, bS⟩
                  case round =>
                    clear o1S o2S o3S bS hbw
                    obtain ⟨j, hr, hj, rfl, o1, o2, o3, hbw⟩ := hrel
                    have HR2 := Lib.hid hr
                    clear hr
                    by_cases hlj : j < n
                    · obtain ⟨ad, rfl, had, c0, c1, c2, c3⟩ := ((HARCS.out.below e1).below hbw).at_ hlj
                      obtain ⟨⟨a0, a1⟩, ⟨b0, b1⟩, r0, r1⟩ := HNO.out j (by rw [HX.out]; exact hlj)
                      have HOKj := (HTO.out j (by rw [HX.out]; omega)).1
                      have HN1 := Lib.hid (fun hh => (show wideTo xs v z (j + 1) = wideTo xs v z j from wide_no1 hh))
                      have HN2 := Lib.hid (fun hh => (show wideTo xs v z (j + 1) = wideTo xs v z j from wide_no2 hh))
                      have HN3 := Lib.hid (fun h1 h2 => (show wideTo xs v z (j + 1) = _ from wide_yes (xs := xs) (u := v) (j := j) (s := wideTo xs v z j) h1 h2))
                      generalize xs.getD j default = x at *
                      obtain ⟨af, at_, ar, aq⟩ := x
                      have a0' : 0 ≤ af := a0
                      have a1' : af < N := a1
                      have b0' : 0 ≤ at_ := b0
                      have b1' : at_ < N := b1
                      have r0' : 0 ≤ ar := r0
                      have r1' : ar ≤ 1000000 := r1
                      clear a0 a1 b0 b1 r0 r1
                      obtain ⟨y, rfl⟩ := Int.eq_ofNat_of_zero_le b0'
                      have hyN : y < N := by omega
                      have hwb := HOKj.hw v p2
                      generalize wideTo xs v z j = q at *
                      have ka := Blk.new wr 34 #[.int .i64 af, .int .i64 y, .int .i64 ar, .int .i64 aq]
                      have bA := hbw.alloc hbw.size (.cells #[.int .i64 af, .int .i64 y, .int .i64 ar, .int .i64 aq] 34)
                      have o1A := OwnI.alloc o1 (.cells #[.int .i64 af, .int .i64 y, .int .i64 ar, .int .i64 aq] 34)
                      have o2A := OwnI.alloc o2 (.cells #[.int .i64 af, .int .i64 y, .int .i64 ar, .int .i64 aq] 34)
                      have o3A := OwnC.alloc o3 (.cells #[.int .i64 af, .int .i64 y, .int .i64 ar, .int .i64 aq] 34)
                      have s0 := ka.cell 0
                      have s1 := ka.cell 1
                      have s2 := ka.cell 2
                      have hgk : g1 < wr.heap.size ∧ g2 < wr.heap.size := ⟨(OwnI.lt o1 rfl).2, (OwnI.lt o2 rfl).2⟩
                      clear o1 o2 o3 hbw
                      have v4 : (y : Int) < (N : Int) := by omega
                      have v5 : 0 ≤ (y : Int) := by omega
                      have hA3 := ka
                      clear ka
                      go_upto_region 22 with (fail)
                      generalize hgA : wr.heap.size = gA at *
                      generalize wr.alloc (.cells #[.int .i64 af, .int .i64 y, .int .i64 ar, .int .i64 aq] 34) = W4 at *
                      have cu := OwnI.cell o1A p2
                      have cy := OwnI.cell o1A hyN
                      have cyB := OwnI.cell o2A hyN
                      have fy := OwnI.free o1A y
                      have fyB := OwnI.free o2A y
                      obtain ⟨mm, hmm⟩ : ∃ mm, min (q.W.getD v 0) ar = mm := ⟨_, rfl⟩
                      rw [hmm] at HN2 HN3
                      have HN2' := Lib.hid (fun (hh : ¬ q.W.getD y 0 < mm) => HN2.out hh)
                      have HN3' := Lib.hid (fun (h1 : af = (v : Int)) (hh : q.W.getD y 0 < mm) => (show wideTo xs v z (j + 1) = ⟨q.W.set y mm, q.B.set y j, q.T⟩ from HN3.out h1 hh))
                      clear HN2 HN3
                      have HMM := Lib.hid hmm
                      have hmb : mm ≤ 1000000 := by omega
                      have hmb2 : -1 ≤ mm := by omega
                      have hwy := HOKj.hw y hyN
                      clear hmm
                      generalize q.W.getD v 0 = wu at *
                      generalize q.W.getD y 0 = wy at *
                      generalize q.B.getD y 0 = yb at *
                      go_cut [18] (fun s18 wx => s18 = .int .i64 mm ∧ Drew W4 wx)
                      case first =>
                        by_cases hmin : ar < wu
                        · have HM2 := Lib.hid (show mm = ar by rw [← HMM.out]; omega)
                          go_quiet (fail)
                          go_wp2_with fail
                          go_meet
                          exact ⟨by rw [HM2.out], ⟨_, rfl⟩⟩
                        · have HM2 := Lib.hid (show mm = wu by rw [← HMM.out]; omega)
                          go_quiet (fail)
                          go_wp2_with fail
                          go_meet
                          exact ⟨by rw [HM2.out], ⟨_, rfl⟩⟩
                      case rest =>
                        obtain ⟨rfl, hdr⟩ := hcut
                        obtain ⟨nd, rfl⟩ := hdr
                        have s0D : (W4.drewN nd).cell? ⟨gA, 0, none⟩ = some (.int .i64 af) := s0
                        have s1D : (W4.drewN nd).cell? ⟨gA, 1, none⟩ = some (.int .i64 y) := s1
                        have cyD : (W4.drewN nd).cell? ⟨g1, y, none⟩ = some (.int .i64 wy) := cy
                        have cBD : (W4.drewN nd).cell? ⟨g2, y, none⟩ = some (.int .i64 yb) := cyB
                        have fyD : (W4.drewN nd).frozen? ⟨g1, y, none⟩ = false := fy
                        have o1D := OwnI.drewN o1A nd
                        have o2D := OwnI.drewN o2A nd
                        have o3D := OwnC.drewN o3A nd
                        have bD := below_drewN bA nd
                        clear s0 s1 s2 cu cy cyB fy fyB o1A o2A o3A bA hA3 hwb hwy c0 c1 c2 c3 had
                        generalize W4.drewN nd = W5 at *
                        by_cases hfr : af = (v : Int)
                        · have d1 : (af == (v : Int)) = true := by rw [hfr]; exact beq_self_eq_true _
                          by_cases hgt : wy < mm
                          · have HE := Lib.hid (HN3'.out hfr hgt)
                            have f2 := OwnI.free (OwnI.far o2D (p := ⟨g1, y, none⟩) (fun ad ha => by injection ha with ha; subst ha; exact fun e => h12 e.symm) (.int .i64 mm)) y
                            have c2 := OwnI.cell (OwnI.far o2D (p := ⟨g1, y, none⟩) (fun ad ha => by injection ha with ha; subst ha; exact fun e => h12 e.symm) (.int .i64 mm)) hyN
                            have o1S := OwnI.far (OwnI.set o1D y mm) (p := ⟨g2, y, none⟩) (fun ad ha => by injection ha with ha; subst ha; exact h12) (.int .i64 j)
                            have o2S := OwnI.set (OwnI.far o2D (p := ⟨g1, y, none⟩) (fun ad ha => by injection ha with ha; subst ha; exact fun e => h12 e.symm) (.int .i64 mm)) y (j : Int)
                            have o3S := OwnC.far (OwnC.far o3D (p := ⟨g1, y, none⟩) (fun ad ha => by injection ha with ha; subst ha; exact fun e => h13 e.symm) (.int .i64 mm)) (p := ⟨g2, y, none⟩) (fun ad ha => by injection ha with ha; subst ha; exact fun e => h23 e.symm) (.int .i64 j)
                            have bS := (bD.setCell (p := ⟨g1, y, none⟩) hg1w (.int .i64 mm)).setCell (p := ⟨g2, y, none⟩) hg2w (.int .i64 j)
                            clear o1D o2D o3D bD hfr
                            go_wp2_with fail
                            go_region
                            go_wp2_with fail
                            go_roundg (n - (j + 1))
                            case measure => rw [HR2.out]; omega
                            case rel => exact ⟨j + 1, rfl, by omega, by go_num, by rw [HE.out]; exact OwnI.drew o1S, by rw [HE.out]; exact OwnI.drew o2S, by rw [HE.out]; exact OwnC.drew o3S, bS.drew⟩
                          · have HE := Lib.hid (HN2'.out hgt)
                            clear hfr
                            go_wp2_with fail
                            go_roundg (n - (j + 1))
                            case measure => rw [HR2.out]; omega
                            case rel => exact ⟨j + 1, rfl, by omega, by go_num, by rw [HE.out]; exact o1D, by rw [HE.out]; exact o2D, by rw [HE.out]; exact o3D, bD⟩
                        · have d1 : (af == (v : Int)) = false := beq_eq_false_iff_ne.2 hfr
                          have HE := Lib.hid (HN1.out hfr)
                          clear hfr
                          go_wp2_with fail
                          go_roundg (n - (j + 1))
                          case measure => rw [HR2.out]; omega
                          case rel => exact ⟨j + 1, rfl, by omega, by go_num, by rw [HE.out]; exact o1D, by rw [HE.out]; exact o2D, by rw [HE.out]; exact o3D, bD⟩
                    · have e : n = j := by omega
                      subst e
                      have HNX3 := Lib.hid (HNX2.out.trans (by rw [HX.out]))
                      go_wp2_with fail
                      go_roundg (N - (k + 1))
                      case measure => rw [HR.out]; omega
                      case rel => exact ⟨k + 1, _, rfl, hkN, rfl, by rw [HNX3.out]; exact o1, by rw [HNX3.out]; exact o2, by rw [HNX3.out]; exact o3, hbw, HCN2⟩
end Go.Proofs.Ytpaahjeohigngaa
