/- The program's enter and leave. -/
import Derived.Test.YtckfmemjcjhaaaaTbl
import Derived.Test.YtckfmemjcjhaaaaSolPlain
namespace Go.Proofs.Ytckfmemjcjhaaaa
open Go.RowKit

set_option maxRecDepth 100000 in
set_option maxHeartbeats 1000000 in
theorem enter_any (V : Nat) (A : Option Addr) (n c : Nat) (ns : List Nat) (B : Option Addr) (m d near : Nat) (w : World) (hN : FltsAt w A n ns) (hV : V ≤ 8) (hm : m ≤ 8) (hn : n = (m + 1) * (V + m + 1)) :
    Calls Try.prog 77 #[.agg #[.int .i64 V, .slice A n c, .slice B m d], .float .f32 near] w (RetV (.int .i64 (enterT ns m (V + m + 1) near)) w) := by
  have HAT := Lib.hid (fun k (w : World) hN hk => tat_any V A n c ns B m d m k w hN hV hm hn (by omega) hk)
  have HWC := Lib.hid (fun (w : World) => wide_any V A n c B m d w hV hm)
  obtain ⟨U, hU⟩ : ∃ U : Nat, V + m = U := ⟨_, rfl⟩
  obtain ⟨Wd, hWd⟩ : ∃ Wd : Nat, V + m + 1 = Wd := ⟨_, rfl⟩
  have hWU : Wd - 1 = U := by omega
  have HE := Lib.hid (show enterT ns m Wd near = firstI (gainB ns m Wd near) U by unfold enterT; rw [hWU])
  have HBD := Lib.hid (show U < Wd ∧ U ≤ 16 by omega)
  rw [hWd] at HAT HWC
  rw [hWd, HE.out]
  have hUi : (Wd : Int) - 1 = (U : Int) := by omega
  have hUb : U ≤ 16 := by omega
  have hWb : Wd ≤ 17 := by omega
  have hW : Below w.heap.size w (w.alloc (.cells #[.int .i64 V, .slice A n c, .slice B m d] 27)) := (Below.refl _ _).alloc (Nat.le_refl _) _
  have KX := Lib.hid (Blk.new w 27 #[.int .i64 V, .slice A n c, .slice B m d])
  have HN := Lib.hid (hN.below hW)
  have hneg := fun (w : World) (b : Nat) => run_neg_f (P := Try.prog) w b
  clear hN hn hU hWd hWU HE
  go_enter Try.func77, Try.ntmps77
  go_wp2_with fail
  generalize w.alloc (.cells #[.int .i64 V, .slice A n c, .slice B m d] 27) = W at *
  go_loopg [5] U (fun rr iv wi => ∃ (k : Nat), rr = U - k ∧ k ≤ U ∧ iv = .int .i64 k ∧ Hid ((List.range k).all (fun j => !gainB ns m Wd near j) = true) ∧ Below W.heap.size W wi)
  case atStart => exact ⟨0, rfl, Nat.zero_le _, rfl, Lib.hid rfl, Below.refl _ _⟩
  case round =>
    obtain ⟨k, hr, hk, rfl, hall, hbi⟩ := hrel
    have HRK := Lib.hid hr
    clear hr
    obtain ⟨wo, hwo⟩ : ∃ x, x = wr := ⟨_, rfl⟩
    rw [← hwo]
    rw [← hwo] at hbi
    clear hwo
    have K1 := Lib.hid (KX.out.ext hbi)
    have N1 := Lib.hid (HN.out.below hbi)
    have p0 := K1.out.cell 0
    have p1 := K1.out.cell 1
    have p2 := K1.out.cell 2
    by_cases hlt : k < U
    · have hlt' : (k : Int) < (U : Int) := by omega
      have hkg : (k : Int) < (Wd : Int) - 1 := by omega
      go_wp2_with fail
      refine (HWC.out _).mono ?_
      rintro e w5 ⟨rfl, b5⟩
      have K2 := Lib.hid (K1.out.ext b5)
      have N2 := Lib.hid (N1.out.below b5)
      have hb5 := below_ext hbi hbi.size b5
      clear p0 p1 p2 b5 hbi
      have p0 := K2.out.cell 0
      have p1 := K2.out.cell 1
      have p2 := K2.out.cell 2
      go_wp2_with fail
      refine (HAT.out k _ N2.out (by have := HBD.out; omega)).mono ?_
      rintro e w6 ⟨rfl, b6⟩
      have hb6 := below_ext hb5 hb5.size b6
      clear b6 hb5 p0 p1 p2
      have HG := Lib.hid (show gainB ns m Wd near k = (FloatKind.f32.format.order (ns.getD (m * Wd + k) 0) (Op.negFloat .f32 near) == some .lt) from rfl)
      generalize ns.getD (m * Wd + k) 0 = x at *
      cases hz : (FloatKind.f32.format.order x (Op.negFloat .f32 near) == some .lt)
      · have HAN := Lib.hid (show (List.range (k + 1)).all (fun j => !gainB ns m Wd near j) = true by rw [List.range_succ, List.all_append, hall.out, List.all_cons, HG.out, hz]; rfl)
        go_wp2_with fail
        go_roundg (U - (k + 1))
        case measure => rw [HRK.out]; omega
        case rel => exact ⟨k + 1, rfl, by omega, by go_num, HAN, hb6⟩
      · have HF := Lib.hid (firstI_hit (n := U) hlt (by rw [HG.out]; exact hz) hall.out)
        go_wp2_with fail
        go_ret
        exact ⟨by rw [HF.out]; rfl, below_ext hW hW.size hb6⟩
    · have e : k = U := by omega
      have HF := Lib.hid (firstI_none (n := U) (by have h2 := hall.out; rw [e] at h2; exact h2))
      have hkg : ¬ ((k : Int) < (Wd : Int) - 1) := by omega
      clear e
      go_wp2_with fail
      refine (HWC.out _).mono ?_
      rintro e w5 ⟨rfl, b5⟩
      have hb5 := below_ext hbi hbi.size b5
      clear b5 hbi p0 p1 p2
      go_wp2_with fail
      go_ret
      exact ⟨by rw [HF.out]; rfl, below_ext hW hW.size hb5⟩
set_option maxRecDepth 100000 in
set_option maxHeartbeats 1000000 in
theorem leave_any (V : Nat) (A : Option Addr) (n c : Nat) (ns : List Nat) (B : Option Addr) (m d : Nat) (bs : List Int) (cc near : Nat) (w : World) (hN : FltsAt w A n ns) (hB : IntsAt w B m bs) (hV : V ≤ 8) (hm : m ≤ 8) (hn : n = (m + 1) * (V + m + 1)) (hcc : cc < V + m) :
    Calls Try.prog 78 #[.agg #[.int .i64 V, .slice A n c, .slice B m d], .int .i64 cc, .float .f32 near] w (RetV (.int .i64 (leaveT ns bs (V + m + 1) near cc)) w) := by
  have HAT := Lib.hid (fun i (w : World) hN (hi : i < m) => tat_any V A n c ns B m d i cc w hN hV hm hn (by omega) (by omega))
  have HLA := Lib.hid (fun i (w : World) hN (hi : i < m) => tlast_any V A n c ns B m d i w hN hV hm hn (by omega))
  have HLT := Lib.hid (show leaveT ns bs (V + m + 1) near cc = (leaveUp ns bs (V + m + 1) near cc m).1 by unfold leaveT; rw [hB.len])
  obtain ⟨U, hU⟩ : ∃ U : Nat, V + m = U := ⟨_, rfl⟩
  obtain ⟨Wd, hWd⟩ : ∃ Wd : Nat, V + m + 1 = Wd := ⟨_, rfl⟩
  have HWU := Lib.hid (show Wd - 1 = U by omega)
  rw [hWd] at HAT HLT
  rw [hWd, hU] at HLA
  rw [hWd, HLT.out]
  have hW : Below w.heap.size w (w.alloc (.cells #[.int .i64 V, .slice A n c, .slice B m d] 27)) := (Below.refl _ _).alloc (Nat.le_refl _) _
  have KX := Lib.hid (Blk.new w 27 #[.int .i64 V, .slice A n c, .slice B m d])
  have HN := Lib.hid (hN.below hW)
  have HB := Lib.hid (hB.below hW)
  clear hN hB hn hU hWd HLT
  go_enter Try.func78, Try.ntmps78
  go_wp2_with fail
  generalize w.alloc (.cells #[.int .i64 V, .slice A n c, .slice B m d] 27) = W at *
  have p2 := KX.out.cell 2
  go_wp2_with fail
  clear p2
  go_loopg [7, 8, 15] m (fun rr bv lv iv wi => ∃ (i lb : Nat) (bst : Int), rr = m - i ∧ i ≤ m ∧ bv = .int .i64 bst ∧ lv = .float .f32 lb ∧ iv = .int .i64 i ∧ Hid (leaveUp ns bs Wd near cc i = (bst, absK .f32 lb)) ∧ (bst = -1 ∨ ∃ k : Nat, bst = k ∧ k < i) ∧ Below W.heap.size W wi)
  case atStart => exact ⟨0, 0, -1, rfl, Nat.zero_le _, rfl, rfl, rfl, Lib.hid (by rw [abs0]; rfl), .inl rfl, Below.refl _ _⟩
  case round =>
    obtain ⟨i, lb, bst, hr, hi, rfl, rfl, rfl, hup, hbst, hbi⟩ := hrel
    have HRK := Lib.hid hr
    clear hr
    obtain ⟨wo, hwo⟩ : ∃ x, x = wr := ⟨_, rfl⟩
    rw [← hwo]
    rw [← hwo] at hbi
    clear hwo
    have K1 := Lib.hid (KX.out.ext hbi)
    have N1 := Lib.hid (HN.out.below hbi)
    have p0 := K1.out.cell 0
    have p1 := K1.out.cell 1
    have p2 := K1.out.cell 2
    have HBST := Lib.hid hbst
    clear hbst
    by_cases hlt : i < m
    · have hlt' : (i : Int) < (m : Int) := by omega
      have HUP := Lib.hid (show leaveUp ns bs Wd near cc (i + 1) = leaveS ns bs Wd near cc (bst, absK .f32 lb) i by rw [← hup.out]; rfl)
      go_wp2_with fail
      refine (HAT.out i _ N1.out hlt).mono ?_
      rintro e w5 ⟨rfl, b5⟩
      have K2 := Lib.hid (K1.out.ext b5)
      have N2 := Lib.hid (N1.out.below b5)
      have hb5 := below_ext hbi hbi.size b5
      clear p0 p1 p2 b5 hbi
      obtain ⟨x, hx⟩ : ∃ x, ns.getD (i * Wd + cc) 0 = x := ⟨_, rfl⟩
      rw [hx]
      have HX := Lib.hid hx
      clear hx
      cases hg : (FloatKind.f32.format.order x near == some .gt)
      · have HNX := Lib.hid (show leaveUp ns bs Wd near cc (i + 1) = (bst, absK .f32 lb) by rw [HUP.out]; exact leaveS_skip HX.out hg)
        go_wp2_with fail
        go_roundg (m - (i + 1))
        case measure => rw [HRK.out]; omega
        case rel => exact ⟨i + 1, lb, bst, rfl, by omega, rfl, rfl, by go_num, HNX, HBST.out.imp id (fun ⟨k, h1, h2⟩ => ⟨k, h1, by omega⟩), hb5⟩
      · have p0 := K2.out.cell 0
        have p1 := K2.out.cell 1
        have p2 := K2.out.cell 2
        go_wp2_with fail
        refine (HLA.out i _ N2.out hlt).mono ?_
        rintro e w6 ⟨rfl, b6⟩
        have K3 := Lib.hid (K2.out.ext b6)
        have B3 := Lib.hid ((HB.out.below hb5).below b6)
        have hb6 := below_ext hb5 hb5.size b6
        clear p0 p1 p2 b6 hb5
        obtain ⟨y, hy⟩ : ∃ y, ns.getD (i * Wd + U) 0 = y := ⟨_, rfl⟩
        rw [hy]
        have HY := Lib.hid (show ns.getD (i * Wd + (Wd - 1)) 0 = y by rw [HWU.out]; exact hy)
        clear hy
        have HOF := Lib.hid (fun q (hq : absK .f32 q = fop .quo .f32 (absK .f32 y) (absK .f32 x)) => leaveS_of (bs := bs) (near := near) (lb := lb) (bst := bst) HX.out HY.out hg hq)
        have p0 := K3.out.cell 0
        have p1 := K3.out.cell 1
        have p2 := K3.out.cell 2
        go_upto_region 9 with (refine wp_fop _ rfl .quo _ _ _ _ rfl rfl .f32 y x rfl rfl ?_; intro q w9 hb9 hlt9 hd9; obtain ⟨q9, rfl⟩ := hd9; have HB9 := Lib.hid hb9; clear hb9)
        have HOQ := Lib.hid (HOF.out q HB9.out)
        rcases HBST.out with hb | ⟨kb, hb, hkb⟩
        · have HNX := Lib.hid (show leaveUp ns bs Wd near cc (i + 1) = ((i : Int), absK .f32 q) by rw [HUP.out, HOQ.out, if_pos (by rw [hb]; rfl)])
          subst hb
          go_quiet (fail)
          go_wp2_with fail
          go_roundg (m - (i + 1))
          case measure => rw [HRK.out]; omega
          case rel => exact ⟨i + 1, q, i, rfl, by omega, rfl, rfl, by go_num, HNX, .inr ⟨i, rfl, by omega⟩, below_drewN hb6 _⟩
        · subst hb
          have hnb : ¬ ((kb : Int) < 0) := by omega
          have hkbm : (kb : Int) < (m : Int) := by omega
          have HTN := Lib.hid (show ((kb : Int)).toNat = kb by omega)
          rw [HTN.out, decide_eq_false hnb, Bool.false_or] at HOQ
          cases hl : (FloatKind.f32.format.order q lb == some .lt)
          · cases he : (FloatKind.f32.format.order q lb == some .eq)
            · have HNX := Lib.hid (show leaveUp ns bs Wd near cc (i + 1) = ((kb : Int), absK .f32 lb) by rw [HUP.out, HOQ.out, hl, he]; rfl)
              go_quiet (fail)
              go_wp2_with fail
              go_roundg (m - (i + 1))
              case measure => rw [HRK.out]; omega
              case rel => exact ⟨i + 1, lb, kb, rfl, by omega, rfl, rfl, by go_num, HNX, .inr ⟨kb, rfl, by omega⟩, below_drewN hb6 _⟩
            · obtain ⟨adB, hadB, _, c1⟩ := B3.out.at_ hlt
              obtain ⟨adB2, hadB2, _, c2⟩ := B3.out.at_ (k := kb) (by omega)
              rw [hadB] at hadB2
              injection hadB2 with hadB2
              subst hadB2
              subst hadB
              obtain ⟨z1, hz1⟩ : ∃ z, bs.getD i 0 = z := ⟨_, rfl⟩
              obtain ⟨z2, hz2⟩ : ∃ z, bs.getD kb 0 = z := ⟨_, rfl⟩
              rw [hz1] at c1
              rw [hz2] at c2
              cases hzz : decide (z1 < z2)
              · have HNX := Lib.hid (show leaveUp ns bs Wd near cc (i + 1) = ((kb : Int), absK .f32 lb) by rw [HUP.out, HOQ.out, hl, he, hz1, hz2, hzz]; rfl)
                have hzn : ¬ (z1 < z2) := of_decide_eq_false hzz
                clear hz1 hz2
                go_quiet (fail)
                go_wp2_with fail
                go_roundg (m - (i + 1))
                case measure => rw [HRK.out]; omega
                case rel => exact ⟨i + 1, lb, kb, rfl, by omega, rfl, rfl, by go_num, HNX, .inr ⟨kb, rfl, by omega⟩, below_drewN hb6 _⟩
              · have HNX := Lib.hid (show leaveUp ns bs Wd near cc (i + 1) = ((i : Int), absK .f32 q) by rw [HUP.out, HOQ.out, hl, he, hz1, hz2, hzz]; rfl)
                have hzn : z1 < z2 := of_decide_eq_true hzz
                clear hz1 hz2
                go_quiet (fail)
                go_wp2_with fail
                go_roundg (m - (i + 1))
                case measure => rw [HRK.out]; omega
                case rel => exact ⟨i + 1, q, i, rfl, by omega, rfl, rfl, by go_num, HNX, .inr ⟨i, rfl, by omega⟩, below_drewN hb6 _⟩
          · have HNX := Lib.hid (show leaveUp ns bs Wd near cc (i + 1) = ((i : Int), absK .f32 q) by rw [HUP.out, HOQ.out, hl]; rfl)
            go_quiet (fail)
            go_wp2_with fail
            go_roundg (m - (i + 1))
            case measure => rw [HRK.out]; omega
            case rel => exact ⟨i + 1, q, i, rfl, by omega, rfl, rfl, by go_num, HNX, .inr ⟨i, rfl, by omega⟩, below_drewN hb6 _⟩
    · have e : i = m := by omega
      have HF := Lib.hid (show (leaveUp ns bs Wd near cc m).1 = bst by have h2 := hup.out; rw [e] at h2; rw [h2])
      have hkg : ¬ ((i : Int) < (m : Int)) := by omega
      clear e
      go_wp2_with fail
      go_ret
      exact ⟨by rw [HF.out]; rfl, below_ext hW hW.size hbi⟩
end Go.Proofs.Ytckfmemjcjhaaaa
