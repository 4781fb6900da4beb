/- The reference's plan and prices of a table. -/
import Derived.Test.YtckfmemjcjhaaaaTblS
import Derived.Test.YtckfmemjcjhaaaaRowSol
import Derived.Deep.RegionHeld3
import Derived.StillTailTactics
namespace Go.Proofs.Ytckfmemjcjhaaaa
open Go.RowKit

set_option maxRecDepth 100000 in
set_option maxHeartbeats 1000000 in
theorem l02Plan_any (gr V : Nat) (A : Option Addr) (n c : Nat) (ns : List Nat) (B : Option Addr) (m d : Nat) (bs : List Int) (w : World) (KX : Blk w gr 27 #[.int .i64 V, .slice A n c, .slice B m d]) (hN : FltsAt w A n ns) (hB : IntsAt w B m bs) (hV : V ≤ 8) (hm : m ≤ 8) (hn : n = (m + 1) * (V + m + 1)) (hbs : ∀ j, j < m → ∃ x : Nat, bs.getD j 0 = (x : Int)) :
    Calls Try.prog 82 #[.pointer (some ⟨gr, 0, none⟩)] w fun e w' => ∃ (A' : Option Addr) (c' : Nat), e = .returned (.slice A' V c') ∧ OwnF 34 w.heap.size w' A' V c' (planT V ns bs) ∧ Below w.heap.size w w' := by
  have HWC := Lib.hid (fun (w : World) KX => l02Wide_any gr V A n c B m d w KX hV hm)
  have HAT := Lib.hid (fun i (w : World) KX hN (hi : i < m) => l02At_any gr V A n c ns B m d i (V + m) w KX hN hV hm hn (by omega) (by omega))
  have HPT := Lib.hid (show planT V ns bs = plUp V bs (fun i => ns.getD (i * (V + m + 1) + (V + m)) 0) m by unfold planT; rw [hB.len])
  rw [HPT.out]
  obtain ⟨f, hf⟩ : ∃ f, f = (fun i => ns.getD (i * (V + m + 1) + (V + m)) 0) := ⟨_, rfl⟩
  rw [← hf]
  have HFI := Lib.hid (fun i => show ns.getD (i * (V + m + 1) + (V + m)) 0 = f i by rw [hf])
  obtain ⟨U, hU⟩ : ∃ U : Nat, V + m = U := ⟨_, rfl⟩
  obtain ⟨Wd, hWd⟩ : ∃ Wd : Nat, V + m + 1 = Wd := ⟨_, rfl⟩
  rw [hWd] at HWC
  rw [hU] at HAT
  have hUi : (Wd : Int) - 1 = (U : Int) := by omega
  have hUb : U ≤ 16 := by omega
  have hWb : Wd ≤ 17 := by omega
  have hUw : IntKind.i64.wrap (U : Int) = (U : Int) := IntWalk.i64_in _ (by omega)
  have HE := Lib.hid (show ∀ i, i * (U + 1) + U = i * (V + m + 1) + (V + m) by intro i; rw [← hU])
  have HKX := Lib.hid KX
  have HN := Lib.hid hN
  have HB := Lib.hid hB
  have HBS := Lib.hid hbs
  have p0 := KX.cell 0
  clear hN hB hn hf hbs HPT KX hWd
  go_enter Try.func82, Try.ntmps82
  go_upto_region 1 with (fail)
  go_wp2_with (at_make; refine wp_make_flts _ rfl _ _ 22 rfl 34 Try.underlying22 infoF .i64 .i64 _ _ V rfl rfl rfl rfl (by omega) ?_; intro w2 gB oB bB)
  clear p0
  go_loopg [4] m (fun rr iv wi => ∃ i : Nat, rr = m - i ∧ i ≤ m ∧ iv = .int .i64 i ∧ Hid (OwnF 34 w.heap.size wi (some ⟨gB, 0, none⟩) V V (plUp V bs f i)) ∧ Below w.heap.size w wi)
  case atStart => exact ⟨0, rfl, Nat.zero_le _, rfl, Lib.hid oB, bB⟩
  case round =>
    obtain ⟨i, hr, hi, rfl, HO, hbi⟩ := hrel
    have HRK := Lib.hid hr
    clear hr oB bB
    obtain ⟨wo, hwo⟩ : ∃ x, x = wr := ⟨_, rfl⟩
    rw [← hwo]
    rw [← hwo] at hbi HO
    clear hwo
    have KX1 := Lib.hid (HKX.out.ext hbi)
    have p2 := KX1.out.cell 2
    have p0 := KX1.out.cell 0
    by_cases hlt : i < m
    · have hlt' : (i : Int) < (m : Int) := by omega
      have HN1 := Lib.hid (HN.out.below hbi)
      obtain ⟨ad, hB0, _, hcell⟩ := (HB.out.below hbi).at_ hlt
      have HB0 := Lib.hid hB0
      subst hB0
      obtain ⟨x, hx⟩ := HBS.out i hlt
      have HX := Lib.hid hx
      rw [hx] at hcell
      clear hx
      have HBI := Lib.hid hbi
      clear hbi
      by_cases hxV : x < V
      · have hxV' : (x : Int) < (V : Int) := by omega
        have HUP := Lib.hid (plUp_put (f := f) HX.out hxV)
        go_wp2_with fail
        go_quiet (fail)
        have hb2 := below_drewN HBI.out nq
        have HO2 := Lib.hid (HO.out.drewN nq)
        have HK2 := Lib.hid (KX1.out.drewN nq)
        have HN2 := Lib.hid (HN1.out.drewN nq)
        have c2 := (World.cell?_drewN wo nq (ad.add i)).trans hcell
        clear p0 p2 hcell HO KX1 HN1
        generalize wo.drewN nq = W1 at *
        have p2 := HK2.out.cell 2
        have cJ := HO2.out.cell hxV
        have fJ := HO2.out.free x
        have HS5 := Lib.hid (fun q => (HO2.out.drewN q).set x (f i))
        have HGB := Lib.hid (HO2.out.lt rfl).1
        generalize (plUp V bs f i).getD x 0 = y0 at *
        have HAT2 := Lib.hid (fun (w : World) KX hN => HAT.out i w KX hN hlt)
        rw [HE.out, HFI.out] at HAT2
        have HB2 := Lib.hid (fun q => (below_drewN hb2 q).setCell (p := ⟨gB, x, none⟩) HGB.out (.float .f32 (f i)))
        have hst := run_store_f
        clear hb2 HO2
        go_wp2_with fail
        go_region_with (first | (go_at_call 60; refine (HWC.out _ HK2.out.drew).mono ?_; rintro e w5 ⟨rfl, q5, rfl⟩) | (go_at_call 56; refine (HAT2.out _ (HK2.out.drewN _) (HN2.out.drewN _)).mono ?_; rintro e w6 ⟨rfl, q6, rfl⟩))
        all_goals
          go_wp2_with fail
          go_roundg (m - (i + 1))
          case measure => rw [HRK.out]; omega
          case rel => exact ⟨i + 1, rfl, by omega, by go_num, by rw [HUP.out]; exact Lib.hid (HS5.out _), HB2.out _⟩
      · have hxV' : ¬ ((x : Int) < (V : Int)) := by omega
        have HUP := Lib.hid (plUp_skip (f := f) HX.out hxV)
        go_wp2_with fail
        go_quiet (fail)
        go_wp2_with fail
        go_roundg (m - (i + 1))
        case measure => rw [HRK.out]; omega
        case rel => exact ⟨i + 1, rfl, by omega, by go_num, by rw [HUP.out]; exact Lib.hid (HO.out.drewN _), below_drewN HBI.out _⟩
    · have e : i = m := by omega
      have HE := Lib.hid (show OwnF 34 w.heap.size wo (some ⟨gB, 0, none⟩) V V (plUp V bs f m) by have h9 := HO.out; rw [e] at h9; exact h9)
      have hig : ¬ ((i : Int) < (m : Int)) := by omega
      clear e HO
      go_wp2_with fail
      go_ret
      exact ⟨_, _, rfl, HE.out, hbi⟩
set_option maxRecDepth 100000 in
set_option maxHeartbeats 1000000 in
theorem l02Prices_any (gr V : Nat) (A : Option Addr) (n c : Nat) (ns : List Nat) (B : Option Addr) (m d : Nat) (w : World) (KX : Blk w gr 27 #[.int .i64 V, .slice A n c, .slice B m d]) (hN : FltsAt w A n ns) (hV : V ≤ 8) (hm : m ≤ 8) (hn : n = (m + 1) * (V + m + 1)) :
    Calls Try.prog 83 #[.pointer (some ⟨gr, 0, none⟩)] w fun e w' => ∃ (A' : Option Addr) (c' : Nat), e = .returned (.slice A' m c') ∧ OwnF 34 w.heap.size w' A' m c' (pricesUp V m ns m) ∧ Below w.heap.size w w' := by
  have HWC := Lib.hid (fun (w : World) KX => l02Wide_any gr V A n c B m d w KX hV hm)
  have HAT := Lib.hid (fun k (w : World) KX hN (hk : k < m) => l02At_any gr V A n c ns B m d m (V + k) w KX hN hV hm hn (by omega) (by omega))
  have HUS := Lib.hid (pricesUp_succ V m ns)
  have HKX := Lib.hid KX
  have HN := Lib.hid hN
  obtain ⟨U, hU⟩ : ∃ U : Nat, V + m = U := ⟨_, rfl⟩
  obtain ⟨Wd, hWd⟩ : ∃ Wd : Nat, V + m + 1 = Wd := ⟨_, rfl⟩
  rw [hWd] at HAT HWC HUS
  have hUi : (Wd : Int) - 1 = (U : Int) := by omega
  have hUb : U ≤ 16 := by omega
  have HUV := Lib.hid hU
  have hWb : Wd ≤ 17 := by omega
  have p0 := (KX.alloc (.cells #[] 34)).cell 0
  have hO0 : OwnF 34 w.heap.size (w.alloc (.cells #[] 34)) (some ⟨w.heap.size, 0, none⟩) 0 0 [] := World.ownsRow_lit (e := 34) (base := w.heap.size) (size := 1) w #[] 0 (Nat.le_refl _) (Nat.zero_le _) rfl
  have HO0 := Lib.hid hO0
  have hW0 : Below w.heap.size w (w.alloc (.cells #[] 34)) := (Below.refl _ _).alloc (Nat.le_refl _) _
  clear hN hn hU hWd KX hO0
  go_enter Try.func83, Try.ntmps83
  go_upto_region 1 with (fail)
  go_wp2_with fail
  clear p0
  go_loopg [3, 4] m (fun rr ov iv wi => ∃ (k C c' : Nat) (A' : Option Addr), rr = m - k ∧ k ≤ m ∧ C = V + k ∧ ov = .slice A' k c' ∧ iv = .int .i64 C ∧ Hid (OwnF 34 w.heap.size wi A' k c' (pricesUp V m ns k)) ∧ Below w.heap.size w wi)
  case atStart => exact ⟨0, V, 0, _, rfl, Nat.zero_le _, rfl, rfl, rfl, HO0, hW0⟩
  case round =>
    obtain ⟨k, C, c', A', hr, hk, hC, rfl, rfl, HO, hbi⟩ := hrel
    have HRK := Lib.hid hr
    have HC := Lib.hid hC
    clear hr
    obtain ⟨wo, hwo⟩ : ∃ x, x = wr := ⟨_, rfl⟩
    rw [← hwo]
    rw [← hwo] at hbi HO
    clear hwo
    have KX1 := Lib.hid (HKX.out.ext hbi)
    by_cases hlt : k < m
    · have hlt' : (C : Int) < (U : Int) := by have := HUV.out; omega
      have hC8 : C ≤ 16 := by omega
      clear hC
      go_wp2_with fail
      refine (HWC.out _ KX1.out).mono ?_
      rintro e w5 ⟨rfl, dr5⟩
      have b5 := dr5.below
      have KX2 := Lib.hid (KX1.out.ext b5)
      have HN2 := Lib.hid ((HN.out.below hbi).below b5)
      have HO5 := Lib.hid (HO.out.below b5)
      have hb5 := below_ext hbi hbi.size b5
      clear dr5 b5 hbi HO KX1
      have p2 := KX2.out.cell 2
      go_wp2_with fail
      have HA := HAT.out k _ KX2.out HN2.out hlt
      rw [← HC.out] at HA
      refine HA.mono ?_
      rintro e w6 ⟨rfl, dr6⟩
      have b6 := dr6.below
      have HUS2 := Lib.hid (show pricesUp V m ns (k + 1) = pricesUp V m ns k ++ [ns.getD (m * Wd + C) 0] by rw [HUS.out, HC.out])
      have HO6 := Lib.hid (HO5.out.below b6)
      have hb6 := below_ext hb5 hb5.size b6
      have hs6 := hb6.size
      clear p2 b6 dr6 hb5 HO5 HA
      generalize ns.getD (m * Wd + C) 0 = y at *
      generalize pricesUp V m ns k = ps at *
      have HB6 := Lib.hid hb6
      clear hb6
      go_wp2_with (at_builtin; refine wp_append_flt _ y rfl _ _ _ rfl 34 w.heap.size Try.underlying22 infoF A' k c' ps rfl HO6.out rfl (by omega) hs6 ?_; intro g7 c7 w7 o7 u7 b7 _; have HO7 := Lib.hid o7; have HB7 := Lib.hid b7; clear o7 u7 b7)
      go_roundg (m - (k + 1))
      case measure => rw [HRK.out]; omega
      case rel => exact ⟨k + 1, C + 1, _, _, rfl, by omega, by have := HC.out; omega, rfl, by go_num, by rw [HUS2.out]; exact HO7, HB6.out.trans HB7.out⟩
    · have e : k = m := by omega
      have HE := Lib.hid (show OwnF 34 w.heap.size wo A' m c' (pricesUp V m ns m) by have h9 := HO.out; rw [e] at h9; exact h9)
      have hig : ¬ ((C : Int) < (U : Int)) := by have := HUV.out; omega
      have hC8 : C ≤ 16 := by omega
      have HKM := Lib.hid e
      clear e HO hC
      go_wp2_with fail
      refine (HWC.out _ KX1.out).mono ?_
      rintro e w5 ⟨rfl, dr5⟩
      have b5 := dr5.below
      have hb5 := below_ext hbi hbi.size b5
      have HE5 := Lib.hid (HE.out.below b5)
      clear b5 dr5 hbi
      go_wp2_with fail
      go_ret
      exact ⟨_, _, by rw [← HKM.out]; rfl, HE5.out, hb5⟩
end Go.Proofs.Ytckfmemjcjhaaaa
