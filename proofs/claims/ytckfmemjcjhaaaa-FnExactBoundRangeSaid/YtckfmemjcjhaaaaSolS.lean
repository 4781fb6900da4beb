/- The reference's enter and leave. -/
import Derived.Test.YtckfmemjcjhaaaaTblS
import Derived.Test.YtckfmemjcjhaaaaSolPlain
namespace Go.Proofs.Ytckfmemjcjhaaaa
open Go.RowKit


theorem Blk.drewTo {w w' : World} {g T : Nat} {cs : Array Value} (h : Blk w g T cs) (hd : Drew w w') : Blk w' g T cs := by obtain ⟨q, rfl⟩ := hd; exact h.drewN q
set_option maxRecDepth 100000 in
set_option maxHeartbeats 1000000 in
theorem l02Enter_any (gr V : Nat) (A : Option Addr) (n c : Nat) (ns : List Nat) (B : Option Addr) (m d near : Nat) (w : World) (KX : Blk w gr 27 #[.int .i64 V, .slice A n c, .slice B m d]) (hN : FltsAt w A n ns) (hV : V ≤ 8) (hm : m ≤ 8) (hn : n = (m + 1) * (V + m + 1)) :
    Calls Try.prog 75 #[.pointer (some ⟨gr, 0, none⟩), .float .f32 near] w fun e w' => e = .returned (.int .i64 (enterT ns m (V + m + 1) near)) ∧ Drew w w' := by
  have HAT := Lib.hid (fun k (w : World) KX hN hk => l02At_any gr V A n c ns B m d m k w KX hN hV hm hn (by omega) hk)
  have HWC := Lib.hid (fun (w : World) KX => l02Wide_any gr V A n c B m d w KX hV hm)
  obtain ⟨U, hU⟩ : ∃ U : Nat, V + m = U := ⟨_, rfl⟩
  obtain ⟨Wd, hWd⟩ : ∃ Wd : Nat, V + m + 1 = Wd := ⟨_, rfl⟩
  have hWU : Wd - 1 = U := by omega
  have HE := Lib.hid (show enterT ns m Wd near = firstI (gainB ns m Wd near) U by unfold enterT; rw [hWU])
  have HBD := Lib.hid (show U < Wd ∧ U ≤ 16 by omega)
  rw [hWd] at HAT HWC
  rw [hWd, HE.out]
  have hUi : (Wd : Int) - 1 = (U : Int) := by omega
  have hUb : U ≤ 16 := by omega
  have hWb : Wd ≤ 17 := by omega
  have HKX := Lib.hid KX
  have HN := Lib.hid hN
  have hneg := fun (w : World) (b : Nat) => run_neg_f (P := Try.prog) w b
  clear hN hn hU hWd hWU HE KX
  go_enter Try.func75, Try.ntmps75
  go_wp2_with fail
  go_loopg [5] U (fun rr iv wi => ∃ (k : Nat), rr = U - k ∧ k ≤ U ∧ iv = .int .i64 k ∧ Hid ((List.range k).all (fun j => !gainB ns m Wd near j) = true) ∧ Drew w wi)
  case atStart => exact ⟨0, rfl, Nat.zero_le _, rfl, Lib.hid rfl, Drew.refl _⟩
  case round =>
    obtain ⟨k, hr, hk, rfl, hall, hbi⟩ := hrel
    have HRK := Lib.hid hr
    clear hr
    obtain ⟨wo, hwo⟩ : ∃ x, x = wr := ⟨_, rfl⟩
    rw [← hwo]
    rw [← hwo] at hbi
    clear hwo
    by_cases hlt : k < U
    · have hlt' : (k : Int) < (U : Int) := by omega
      have hkg : (k : Int) < (Wd : Int) - 1 := by omega
      go_wp2_with fail
      refine (HWC.out _ (HKX.out.drewTo hbi)).mono ?_
      rintro e w5 ⟨rfl, b5⟩
      have hb5 := hbi.trans b5
      have K2 := Lib.hid (HKX.out.drewTo hb5)
      have N2 := Lib.hid (HN.out.drewTo hb5)
      clear b5 hbi
      have p2 := K2.out.cell 2
      go_wp2_with fail
      refine (HAT.out k _ K2.out N2.out (by have := HBD.out; omega)).mono ?_
      rintro e w6 ⟨rfl, b6⟩
      have hb6 := hb5.trans b6
      clear b6 hb5 p2
      have HG := Lib.hid (show gainB ns m Wd near k = (FloatKind.f32.format.order (ns.getD (m * Wd + k) 0) (Op.negFloat .f32 near) == some .lt) from rfl)
      generalize ns.getD (m * Wd + k) 0 = x at *
      cases hz : (FloatKind.f32.format.order x (Op.negFloat .f32 near) == some .lt)
      · have HAN := Lib.hid (show (List.range (k + 1)).all (fun j => !gainB ns m Wd near j) = true by rw [List.range_succ, List.all_append, hall.out, List.all_cons, HG.out, hz]; rfl)
        go_wp2_with fail
        go_roundg (U - (k + 1))
        case measure => rw [HRK.out]; omega
        case rel => exact ⟨k + 1, rfl, by omega, by go_num, HAN, hb6⟩
      · have HF := Lib.hid (firstI_hit (n := U) hlt (by rw [HG.out]; exact hz) hall.out)
        go_wp2_with fail
        go_ret
        exact ⟨by rw [HF.out]; rfl, hb6⟩
    · have e : k = U := by omega
      have HF := Lib.hid (firstI_none (n := U) (by have h2 := hall.out; rw [e] at h2; exact h2))
      have hkg : ¬ ((k : Int) < (Wd : Int) - 1) := by omega
      clear e
      go_wp2_with fail
      refine (HWC.out _ (HKX.out.drewTo hbi)).mono ?_
      rintro e w5 ⟨rfl, b5⟩
      have hb5 := hbi.trans b5
      clear b5 hbi
      go_wp2_with fail
      go_ret
      exact ⟨by rw [HF.out]; rfl, hb5⟩
set_option maxRecDepth 100000 in
set_option maxHeartbeats 1000000 in
theorem l02Leave_any (gr V : Nat) (A : Option Addr) (n c : Nat) (ns : List Nat) (B : Option Addr) (m d : Nat) (bs : List Int) (cc near : Nat) (w : World) (KX : Blk w gr 27 #[.int .i64 V, .slice A n c, .slice B m d]) (hN : FltsAt w A n ns) (hB : IntsAt w B m bs) (hV : V ≤ 8) (hm : m ≤ 8) (hn : n = (m + 1) * (V + m + 1)) (hcc : cc < V + m) :
    Calls Try.prog 76 #[.pointer (some ⟨gr, 0, none⟩), .int .i64 cc, .float .f32 near] w fun e w' => e = .returned (.int .i64 (leaveT ns bs (V + m + 1) near cc)) ∧ Drew w w' := by
  have HAT := Lib.hid (fun i k (w : World) KX hN (hi : i < m) hk => l02At_any gr V A n c ns B m d i k w KX hN hV hm hn (by omega) hk)
  have HWC := Lib.hid (fun (w : World) KX => l02Wide_any gr V A n c B m d w KX hV hm)
  have HLT := Lib.hid (show leaveT ns bs (V + m + 1) near cc = (leaveUp ns bs (V + m + 1) near cc m).1 by unfold leaveT; rw [hB.len])
  obtain ⟨U, hU⟩ : ∃ U : Nat, V + m = U := ⟨_, rfl⟩
  obtain ⟨Wd, hWd⟩ : ∃ Wd : Nat, V + m + 1 = Wd := ⟨_, rfl⟩
  have HWU := Lib.hid (show Wd - 1 = U ∧ U < Wd ∧ cc < Wd by omega)
  have hUi : (Wd : Int) - 1 = (U : Int) := by omega
  have hUb : U ≤ 16 := by omega
  have hWb : Wd ≤ 17 := by omega
  rw [hWd] at HAT HLT HWC
  rw [hWd, HLT.out]
  have HKX := Lib.hid KX
  have HN := Lib.hid hN
  have HB := Lib.hid hB
  clear hN hB hn hU hWd HLT KX
  go_enter Try.func76, Try.ntmps76
  go_wp2_with fail
  go_loopg [7, 8, 9] m (fun rr bv lv iv wi => ∃ (i lb : Nat) (bst : Int), rr = m - i ∧ i ≤ m ∧ bv = .int .i64 bst ∧ lv = .float .f32 lb ∧ iv = .int .i64 i ∧ Hid (leaveUp ns bs Wd near cc i = (bst, absK .f32 lb)) ∧ (bst = -1 ∨ ∃ k : Nat, bst = k ∧ k < i) ∧ Drew w wi)
  case atStart => exact ⟨0, 0, -1, rfl, Nat.zero_le _, rfl, rfl, rfl, Lib.hid (by rw [abs0]; rfl), .inl rfl, Drew.refl _⟩
  case round =>
    obtain ⟨i, lb, bst, hr, hi, rfl, rfl, rfl, hup, hbst, hbi⟩ := hrel
    have HRK := Lib.hid hr
    clear hr
    obtain ⟨wo, hwo⟩ : ∃ x, x = wr := ⟨_, rfl⟩
    rw [← hwo]
    rw [← hwo] at hbi
    clear hwo
    have K1 := Lib.hid (HKX.out.drewTo hbi)
    have N1 := Lib.hid (HN.out.drewTo hbi)
    have p2 := K1.out.cell 2
    have HBST := Lib.hid hbst
    clear hbst
    by_cases hlt : i < m
    · have hlt' : (i : Int) < (m : Int) := by omega
      have HUP := Lib.hid (show leaveUp ns bs Wd near cc (i + 1) = leaveS ns bs Wd near cc (bst, absK .f32 lb) i by rw [← hup.out]; rfl)
      go_wp2_with fail
      refine (HAT.out i cc _ K1.out N1.out hlt HWU.out.2.2).mono ?_
      rintro e w5 ⟨rfl, b5⟩
      have hb5 := hbi.trans b5
      have K2 := Lib.hid (HKX.out.drewTo hb5)
      clear p2 b5 hbi
      obtain ⟨x, hx⟩ : ∃ x, ns.getD (i * Wd + cc) 0 = x := ⟨_, rfl⟩
      rw [hx]
      have HX := Lib.hid hx
      clear hx
      cases hg : (FloatKind.f32.format.order x near == some .gt)
      · have HNX := Lib.hid (show leaveUp ns bs Wd near cc (i + 1) = (bst, absK .f32 lb) by rw [HUP.out]; exact leaveS_skip HX.out hg)
        go_wp2_with fail
        go_roundg (m - (i + 1))
        case measure => rw [HRK.out]; omega
        case rel => exact ⟨i + 1, lb, bst, rfl, by omega, rfl, rfl, by go_num, HNX, HBST.out.imp id (fun ⟨k, h1, h2⟩ => ⟨k, h1, by omega⟩), hb5⟩
      · go_wp2_with fail
        refine (HWC.out _ K2.out).mono ?_
        rintro e w7 ⟨rfl, b7⟩
        have hb7 := hb5.trans b7
        clear b7 hb5
        go_wp2_with fail
        refine (HAT.out i U _ (HKX.out.drewTo hb7) (HN.out.drewTo hb7) hlt HWU.out.2.1).mono ?_
        rintro e w6 ⟨rfl, b6⟩
        have hb6 := hb7.trans b6
        have K3 := Lib.hid (HKX.out.drewTo hb6)
        have B3 := Lib.hid (HB.out.drewTo hb6)
        clear b6 hb7
        obtain ⟨y, hy⟩ : ∃ y, ns.getD (i * Wd + U) 0 = y := ⟨_, rfl⟩
        rw [hy]
        have HY := Lib.hid (show ns.getD (i * Wd + (Wd - 1)) 0 = y by rw [HWU.out.1]; exact hy)
        clear hy
        have HOF := Lib.hid (fun q (hq : absK .f32 q = fop .quo .f32 (absK .f32 y) (absK .f32 x)) => leaveS_of (bs := bs) (near := near) (lb := lb) (bst := bst) HX.out HY.out hg hq)
        have p2 := K3.out.cell 2
        go_upto_region 9 with (refine wp_fop _ rfl .quo _ _ _ _ rfl rfl .f32 y x rfl rfl ?_; intro q w9 hb9 hlt9 hd9; obtain ⟨q9, rfl⟩ := hd9; have HB9 := Lib.hid hb9; clear hb9)
        have HOQ := Lib.hid (HOF.out q HB9.out)
        rcases HBST.out with hb | ⟨kb, hb, hkb⟩
        · have HNX := Lib.hid (show leaveUp ns bs Wd near cc (i + 1) = ((i : Int), absK .f32 q) by rw [HUP.out, HOQ.out, if_pos (by rw [hb]; rfl)])
          subst hb
          go_quiet (fail)
          go_wp2_with fail
          go_roundg (m - (i + 1))
          case measure => rw [HRK.out]; omega
          case rel => exact ⟨i + 1, q, i, rfl, by omega, rfl, rfl, by go_num, HNX, .inr ⟨i, rfl, by omega⟩, (Drew.step hb6 _)⟩
        · subst hb
          have hnb : ¬ ((kb : Int) < 0) := by omega
          have hkbm : (kb : Int) < (m : Int) := by omega
          have HTN := Lib.hid (show ((kb : Int)).toNat = kb by omega)
          rw [HTN.out, decide_eq_false hnb, Bool.false_or] at HOQ
          cases hl : (FloatKind.f32.format.order q lb == some .lt)
          · cases he : (FloatKind.f32.format.order q lb == some .eq)
            · have HNX := Lib.hid (show leaveUp ns bs Wd near cc (i + 1) = ((kb : Int), absK .f32 lb) by rw [HUP.out, HOQ.out, hl, he]; rfl)
              go_quiet (fail)
              go_wp2_with fail
              go_roundg (m - (i + 1))
              case measure => rw [HRK.out]; omega
              case rel => exact ⟨i + 1, lb, kb, rfl, by omega, rfl, rfl, by go_num, HNX, .inr ⟨kb, rfl, by omega⟩, (Drew.step hb6 _)⟩
            · obtain ⟨adB, hadB, _, c1⟩ := B3.out.at_ hlt
              obtain ⟨adB2, hadB2, _, c2⟩ := B3.out.at_ (k := kb) (by omega)
              rw [hadB] at hadB2
              injection hadB2 with hadB2
              subst hadB2
              subst hadB
              obtain ⟨z1, hz1⟩ : ∃ z, bs.getD i 0 = z := ⟨_, rfl⟩
              obtain ⟨z2, hz2⟩ : ∃ z, bs.getD kb 0 = z := ⟨_, rfl⟩
              rw [hz1] at c1
              rw [hz2] at c2
              cases hzz : decide (z1 < z2)
              · have HNX := Lib.hid (show leaveUp ns bs Wd near cc (i + 1) = ((kb : Int), absK .f32 lb) by rw [HUP.out, HOQ.out, hl, he, hz1, hz2, hzz]; rfl)
                have hzn : ¬ (z1 < z2) := of_decide_eq_false hzz
                clear hz1 hz2
                go_quiet (fail)
                go_wp2_with fail
                go_roundg (m - (i + 1))
                case measure => rw [HRK.out]; omega
                case rel => exact ⟨i + 1, lb, kb, rfl, by omega, rfl, rfl, by go_num, HNX, .inr ⟨kb, rfl, by omega⟩, (Drew.step hb6 _)⟩
              · have HNX := Lib.hid (show leaveUp ns bs Wd near cc (i + 1) = ((i : Int), absK .f32 q) by rw [HUP.out, HOQ.out, hl, he, hz1, hz2, hzz]; rfl)
                have hzn : z1 < z2 := of_decide_eq_true hzz
                clear hz1 hz2
                go_quiet (fail)
                go_wp2_with fail
                go_roundg (m - (i + 1))
                case measure => rw [HRK.out]; omega
                case rel => exact ⟨i + 1, q, i, rfl, by omega, rfl, rfl, by go_num, HNX, .inr ⟨i, rfl, by omega⟩, (Drew.step hb6 _)⟩
          · have HNX := Lib.hid (show leaveUp ns bs Wd near cc (i + 1) = ((i : Int), absK .f32 q) by rw [HUP.out, HOQ.out, hl]; rfl)
            go_quiet (fail)
            go_wp2_with fail
            go_roundg (m - (i + 1))
            case measure => rw [HRK.out]; omega
            case rel => exact ⟨i + 1, q, i, rfl, by omega, rfl, rfl, by go_num, HNX, .inr ⟨i, rfl, by omega⟩, (Drew.step hb6 _)⟩
    · have e : i = m := by omega
      have HF := Lib.hid (show (leaveUp ns bs Wd near cc m).1 = bst by have h2 := hup.out; rw [e] at h2; rw [h2])
      have hkg : ¬ ((i : Int) < (m : Int)) := by omega
      clear e
      go_wp2_with fail
      go_ret
      exact ⟨by rw [HF.out]; rfl, hbi⟩
end Go.Proofs.Ytckfmemjcjhaaaa
