/- The reference's order by quotients. -/
import Derived.Test.YthhkgeeomhhegaaSort
namespace Go.Proofs.Ythhkgeeomhhegaa
open Go.RowKit

theorem infoInt : (Try.prog.info? 3).map (fun i => (i.zero, i.size, i.bytes)) = some (some (.int .i64 0), 1, 8) := by kernel_rfl
set_option maxRecDepth 100000 in
set_option maxHeartbeats 3200000 in
theorem l04Order_any (A : Option Addr) (n c : Nat) (zs : List Int) (B : Option Addr) (d : Nat) (ys : List Int) (w : World) (h : IntsAt w A n zs) (hy : IntsAt w B n ys) (hn : n ≤ 16)
    (hz : ∀ k, k < n → 0 ≤ zs.getD k 0 ∧ zs.getD k 0 ≤ 1000) (hg : ∀ k, k < n → 0 ≤ ys.getD k 0 ∧ ys.getD k 0 ≤ 1000) :
    Calls Try.prog 42 #[.slice A n c, .slice B n d] w fun e w' => ∃ (Q : Option Addr) (cq : Nat), e = .returned (.slice Q n cq) ∧ OwnI 3 w.heap.size w' Q n cq (ordTo (ltQ zs ys) n) ∧ Below w.heap.size w w' := by
  have HZ := Lib.hid hz
  have HG := Lib.hid hg
  have HLT := Lib.hid (show ∀ a b : Nat, ltQ zs ys a b = decide (ys.getD b 0 * zs.getD a 0 < ys.getD a 0 * zs.getD b 0) from fun a b => rfl)
  have HOT := Lib.hid (fun i => show ordTo (ltQ zs ys) (i + 1) = insD (ltQ zs ys) i (ordTo (ltQ zs ys) i ++ [(i : Int)]) from rfl)
  have HRG := Lib.hid (fun i (hi : i < n) => (ordTo_rng (lt := ltQ zs ys) i (show i ≤ n by omega)).snoc hi)
  have HLE := Lib.hid (ordTo_len (ltQ zs ys))
  clear hz hg
  have o0 : OwnI 3 w.heap.size (w.alloc (.cells #[] 3)) (some ⟨w.heap.size, 0, none⟩) 0 0 (ordTo (ltQ zs ys) 0) := World.ownsRow_lit (e := 3) (base := w.heap.size) (size := 1) w #[] 0 (Nat.le_refl _) (Nat.zero_le _) rfl
  have hb0 : Below w.heap.size w (w.alloc (.cells #[] 3)) := (Below.refl _ _).alloc (Nat.le_refl _) _
  generalize hlt0 : ltQ zs ys = lt at *
  clear hlt0
  go_enter Try.func42, Try.ntmps42
  go_wp2_with fail
  generalize w.alloc (.cells #[] 3) = w0 at *
  go_loopg [5, 6] n (fun r qv iv wi => ∃ (i : Nat) (Q : Option Addr) (cq : Nat), r = n - i ∧ i ≤ n ∧ qv = .slice Q i cq ∧ iv = .int .i64 i ∧ OwnI 3 w.heap.size wi Q i cq (ordTo lt i) ∧ Below w.heap.size w wi)
  case atStart => exact ⟨0, _, _, rfl, Nat.zero_le _, rfl, rfl, o0, hb0⟩
  case round =>
    clear o0 hb0
    obtain ⟨i, Q, cq, hr, hi, rfl, rfl, o, hb⟩ := hrel
    have HRI := Lib.hid hr
    clear hr
    by_cases hli : i < n
    · have hli' : (i : Int) < (n : Int) := by omega
      have hsz := hb.size
      have HS := Lib.hid (HOT.out i)
      have HR0 := Lib.hid (HRG.out i hli)
      have HL0 := Lib.hid (show (ordTo lt i ++ [(i : Int)]).length = i + 1 by rw [List.length_append, HLE.out]; rfl)
      go_wp2_with (at_builtin; refine wp_append_int _ _ rfl _ _ _ rfl 3 w.heap.size Try.underlying52 infoInt Q i cq _ rfl o rfl (by omega) hsz ?_; intro g c4 w4 o4 u4 b4 hg4)
      have hb4 := hb.trans b4
      have hgl := (OwnI.lt o4 rfl).1
      clear o hb u4 b4 hg4
      generalize ordTo lt i ++ [(i : Int)] = zs0 at *
      go_loopg [7] (i + 1) (fun r jv wr => ∃ (j : Nat) (cur : List Int), r = j + 1 ∧ j ≤ i ∧ jv = .int .i64 j ∧ OwnI 3 w.heap.size wr (some ⟨g, 0, none⟩) (i + 1) c4 cur ∧ Below w.heap.size w wr ∧ Hid (insD lt j cur = insD lt i zs0) ∧ Hid (RngL cur n) ∧ Hid (cur.length = i + 1))
      case atStart => exact ⟨i, zs0, rfl, Nat.le_refl _, rfl, o4, hb4, Lib.hid rfl, HR0, HL0⟩
      case round =>
        clear o4 hb4
        obtain ⟨j, cur, hr, hj, rfl, o, hb, HI, HR, HL⟩ := hrel
        have HRJ := Lib.hid hr
        clear hr
        cases j with
        | zero =>
          have HE := Lib.hid (show cur = insD lt i zs0 from HI.out)
          go_wp2_with go_quiet (fail)
          go_roundg (n - (i + 1))
          case measure => rw [HRI.out]; omega
          case rel => exact ⟨i + 1, _, c4, rfl, by omega, rfl, by go_num, by rw [HS.out, ← HE.out]; first | exact o | exact OwnI.drewN o _, by first | exact hb | exact below_drewN hb _⟩
        | succ k =>
          obtain ⟨a, ha, ha2⟩ := HR.out (k + 1) (by rw [HL.out]; omega)
          obtain ⟨b, hb1, hb2⟩ := HR.out k (by rw [HL.out]; omega)
          have c1 := OwnI.cell o (j := k + 1) (by omega)
          have c2 := OwnI.cell o (j := k) (by omega)
          have HY := Lib.hid (@insD_yes lt k cur)
          have HN := Lib.hid (@insD_no lt k cur)
          have hlc := HLT.out a b
          have HCUR := Lib.hid (show swp cur k = (cur.set (k + 1) (cur.getD k 0)).set k (cur.getD (k + 1) 0) from rfl)
          rw [ha] at c1 HY HN HCUR
          rw [hb1] at c2 HY HN HCUR
          clear ha hb1
          obtain ⟨ad, rfl, _, c3⟩ := (h.below hb).at_ ha2
          obtain ⟨bd, rfl, _, c4'⟩ := (hy.below hb).at_ ha2
          have c5 := ints_cell (h.below hb) hb2
          have c6 := ints_cell (hy.below hb) hb2
          have q1 := HZ.out a ha2
          have q2 := HZ.out b hb2
          have q3 := HG.out a ha2
          have q4 := HG.out b hb2
          generalize zs.getD a 0 = x1 at *
          generalize zs.getD b 0 = x2 at *
          generalize ys.getD a 0 = y1 at *
          generalize ys.getD b 0 = y2 at *
          have m1 : 0 ≤ y2 * x1 ∧ y2 * x1 ≤ 1000000 := ⟨Int.mul_nonneg q4.1 q1.1, Int.le_trans (Int.mul_le_mul q4.2 q1.2 q1.1 (by omega)) (by decide)⟩
          have m2 : 0 ≤ y1 * x2 ∧ y1 * x2 ≤ 1000000 := ⟨Int.mul_nonneg q3.1 q2.1, Int.le_trans (Int.mul_le_mul q3.2 q2.2 q2.1 (by omega)) (by decide)⟩
          have v1 : IntKind.i64.wrap (y2 * x1) = y2 * x1 := IntWalk.i64_in _ (by omega)
          have v2 : IntKind.i64.wrap (y1 * x2) = y1 * x2 := IntWalk.i64_in _ (by omega)
          clear m1 m2 q1 q2 q3 q4
          have ha' : (a : Int) < (n : Int) := by omega
          have hb' : (b : Int) < (n : Int) := by omega
          have e1 : ((k + 1 : Nat) : Int) = (k : Int) + 1 := by omega
          rw [e1]
          have e2 : (k : Int) + 1 - 1 = (k : Int) := by omega
          have e3 : (k : Int) + 1 < (i : Int) + 1 := by omega
          have e4 : (k : Int) < (i : Int) + 1 := by omega
          have v3 : IntKind.i64.wrap ((k : Int) + 1 - 1) = (k : Int) := by rw [e2]; exact IntWalk.i64_in _ (by omega)
          have v4 : 0 ≤ (k : Int) + 1 := by omega
          have v5 : ((k : Int) + 1).toNat = k + 1 := by omega
          have v6 : decide (0 < (k : Int) + 1) = true := decide_eq_true (by omega)
          clear e1
          by_cases hneg : y2 * x1 < y1 * x2
          · rw [decide_eq_true hneg] at hlc
            have HV := Lib.hid (HY.out hlc)
            clear hlc
            have d1 : decide (y2 * x1 < y1 * x2) = true := decide_eq_true hneg
            have hklt : k + 1 < i + 1 := by omega
            have hklt2 : k < i + 1 := by omega
            have HR2 := Lib.hid (HR.out.swp (k := k) (by rw [HL.out]; omega))
            have HL2 := Lib.hid (show (swp cur k).length = i + 1 by rw [swp_len, HL.out])
            go_wp2_with fail
            go_quiet (fail)
            have o2 := OwnI.drewN o nq
            have b2 := below_drewN hb nq
            have g1 : (wr.drewN nq).cell? ⟨g, k + 1, none⟩ = some (.int .i64 a) := c1
            have g2 : (wr.drewN nq).cell? ⟨g, k, none⟩ = some (.int .i64 b) := c2
            clear c1 c2 c3 c4' c5 c6 o hb
            generalize wr.drewN nq = W2 at *
            have f1 := OwnI.free o2 (k + 1)
            have f2 := OwnI.free (OwnI.set o2 (k + 1) (b : Int)) k
            obtain ⟨z, g3⟩ : ∃ z, (W2.setCell ⟨g, k + 1, none⟩ (.int .i64 (b : Int))).cell? ⟨g, k, none⟩ = some (.int .i64 z) := ⟨_, OwnI.cell (OwnI.set o2 (k + 1) (b : Int)) (j := k) (by omega)⟩
            have oS := OwnI.set (OwnI.set o2 (k + 1) (b : Int)) k (a : Int)
            have bS := (b2.setCell (p := ⟨g, k + 1, none⟩) hgl (.int .i64 (b : Int))).setCell (p := ⟨g, k, none⟩) hgl (.int .i64 (a : Int))
            rw [← HCUR.out] at oS
            clear o2 b2
            go_wp2_with fail
            go_roundg (k + 1)
            case measure => rw [HRJ.out]; omega
            case rel => exact ⟨k, _, rfl, by omega, by go_num, oS, bS, Lib.hid (by rw [← HV.out]; exact HI.out), HR2, HL2⟩
          · rw [decide_eq_false hneg] at hlc
            have HV := Lib.hid (HN.out hlc)
            clear hlc
            have d1 : decide (y2 * x1 < y1 * x2) = false := decide_eq_false hneg
            have HE := Lib.hid (show cur = insD lt i zs0 by rw [← HI.out, HV.out])
            go_wp2_with fail
            go_quiet (fail)
            go_wp2
            go_roundg (n - (i + 1))
            case measure => rw [HRI.out]; omega
            case rel => exact ⟨i + 1, _, c4, rfl, by omega, rfl, by go_num, by rw [HS.out, ← HE.out]; exact OwnI.drewN o _, below_drewN hb _⟩
    · have e : n = i := by omega
      subst e
      go_wp2_with fail
      go_ret
      exact ⟨_, cq, rfl, o, hb⟩
end Go.Proofs.Ythhkgeeomhhegaa
