/- The program's plan and prices of a table. -/
import Derived.Test.YtckfmemjcjhaaaaTbl
import Derived.Test.YtckfmemjcjhaaaaRowSol
namespace Go.Proofs.Ytckfmemjcjhaaaa
open Go.RowKit

set_option maxRecDepth 100000 in
set_option maxHeartbeats 1000000 in
theorem plan_any (V : Nat) (A : Option Addr) (n c : Nat) (ns : List Nat) (B : Option Addr) (m d : Nat) (bs : List Int) (w : World) (hN : FltsAt w A n ns) (hB : IntsAt w B m bs) (hV : V ≤ 8) (hm : m ≤ 8) (hn : n = (m + 1) * (V + m + 1)) (hbs : ∀ j, j < m → ∃ x : Nat, bs.getD j 0 = (x : Int)) :
    Calls Try.prog 66 #[.agg #[.int .i64 V, .slice A n c, .slice B m d]] w fun e w' => ∃ (A' : Option Addr) (c' : Nat), e = .returned (.slice A' V c') ∧ OwnF 34 w.heap.size w' A' V c' (planT V ns bs) ∧ Below w.heap.size w w' := by
  have HLA := Lib.hid (fun i (w : World) hN (hi : i < m) => tlast_any V A n c ns B m d i w hN hV hm hn (by omega))
  have HPT := Lib.hid (show planT V ns bs = plUp V bs (fun i => ns.getD (i * (V + m + 1) + (V + m)) 0) m by unfold planT; rw [hB.len])
  rw [HPT.out]
  obtain ⟨f, hf⟩ : ∃ f, f = (fun i => ns.getD (i * (V + m + 1) + (V + m)) 0) := ⟨_, rfl⟩
  rw [← hf]
  have HFI := Lib.hid (fun i => show ns.getD (i * (V + m + 1) + (V + m)) 0 = f i by rw [hf])
  have hW : Below w.heap.size w (w.alloc (.cells #[.int .i64 V, .slice A n c, .slice B m d] 27)) := (Below.refl _ _).alloc (Nat.le_refl _) _
  have KX := Lib.hid (Blk.new w 27 #[.int .i64 V, .slice A n c, .slice B m d])
  have HN := Lib.hid (hN.below hW)
  have HB := Lib.hid (hB.below hW)
  have HBS := Lib.hid hbs
  clear hN hB hn hf hbs HPT
  go_enter Try.func66, Try.ntmps66
  go_upto_region 1 with (fail)
  generalize w.alloc (.cells #[.int .i64 V, .slice A n c, .slice B m d] 27) = W at *
  have p0 := KX.out.cell 0
  go_wp2_with (at_make; refine wp_make_flts _ rfl _ _ 22 rfl 34 Try.underlying22 infoF .i64 .i64 _ _ V rfl rfl rfl rfl (by omega) ?_; intro w2 gB oB bB; have p2 := (KX.out.ext bB).cell 2)
  clear p0
  clear p2
  go_loopg [12] m (fun rr iv wi => ∃ i : Nat, rr = m - i ∧ i ≤ m ∧ iv = .int .i64 i ∧ Hid (OwnF 34 W.heap.size wi (some ⟨gB, 0, none⟩) V V (plUp V bs f i)) ∧ Below W.heap.size W wi)
  case atStart => exact ⟨0, rfl, Nat.zero_le _, rfl, Lib.hid oB, bB⟩
  case round =>
    obtain ⟨i, hr, hi, rfl, HO, hbi⟩ := hrel
    have HRK := Lib.hid hr
    clear hr oB bB
    obtain ⟨wo, hwo⟩ : ∃ x, x = wr := ⟨_, rfl⟩
    rw [← hwo]
    rw [← hwo] at hbi HO
    clear hwo
    by_cases hlt : i < m
    · have hlt' : (i : Int) < (m : Int) := by omega
      have KX1 := Lib.hid (KX.out.ext hbi)
      have p0 := KX1.out.cell 0
      have p1 := KX1.out.cell 1
      have p2 := KX1.out.cell 2
      obtain ⟨ad, hB0, _, hcell⟩ := (HB.out.below hbi).at_ hlt
      have HB0 := Lib.hid hB0
      subst hB0
      obtain ⟨x, hx⟩ := HBS.out i hlt
      have HX := Lib.hid hx
      rw [hx] at hcell
      clear hx
      by_cases hxV : x < V
      · have hxV' : (x : Int) < (V : Int) := by omega
        have HUP := Lib.hid (plUp_put (f := f) HX.out hxV)
        go_wp2_with fail
        refine (HLA.out i _ (HN.out.below hbi) hlt).mono ?_
        rintro e w5 ⟨rfl, b5⟩
        rw [HFI.out i]
        have HO5 := Lib.hid (HO.out.below b5)
        have hb5 := below_ext hbi hbi.size b5
        have cJ := HO5.out.cell hxV
        have fJ := HO5.out.free x
        have HS5 := Lib.hid (HO5.out.set x (f i))
        have HGB := Lib.hid (HO5.out.lt rfl).1
        generalize (plUp V bs f i).getD x 0 = y0 at *
        have hst := run_store_f
        clear p0 p1 p2 b5 hbi HO
        go_wp2_with fail
        go_roundg (m - (i + 1))
        case measure => rw [HRK.out]; omega
        case rel => exact ⟨i + 1, rfl, by omega, by go_num, by rw [HUP.out]; exact HS5, hb5.setCell (p := ⟨gB, x, none⟩) HGB.out _⟩
      · have hxV' : ¬ ((x : Int) < (V : Int)) := by omega
        have HUP := Lib.hid (plUp_skip (f := f) HX.out hxV)
        go_wp2_with fail
        go_roundg (m - (i + 1))
        case measure => rw [HRK.out]; omega
        case rel => exact ⟨i + 1, rfl, by omega, by go_num, by rw [HUP.out]; exact HO, hbi⟩
    · have e : i = m := by omega
      have HE := Lib.hid (show OwnF 34 W.heap.size wo (some ⟨gB, 0, none⟩) V V (plUp V bs f m) by have h9 := HO.out; rw [e] at h9; exact h9)
      have hig : ¬ ((i : Int) < (m : Int)) := by omega
      clear e HO
      go_wp2_with fail
      go_ret
      exact ⟨_, _, rfl, OwnF.low HE.out hW.size, below_ext hW hW.size hbi⟩
set_option maxRecDepth 100000 in
set_option maxHeartbeats 1000000 in
theorem prices_any (V : Nat) (A : Option Addr) (n c : Nat) (ns : List Nat) (B : Option Addr) (m d : Nat) (w : World) (hN : FltsAt w A n ns) (hV : V ≤ 8) (hm : m ≤ 8) (hn : n = (m + 1) * (V + m + 1)) :
    Calls Try.prog 67 #[.agg #[.int .i64 V, .slice A n c, .slice B m d]] w fun e w' => ∃ (A' : Option Addr) (c' : Nat), e = .returned (.slice A' m c') ∧ OwnF 34 w.heap.size w' A' m c' (pricesUp V m ns m) ∧ Below w.heap.size w w' := by
  have HWC := Lib.hid (fun (w : World) => wide_any V A n c B m d w hV hm)
  have HAT := Lib.hid (fun k (w : World) hN (hk : k < m) => tat_any V A n c ns B m d m (V + k) w hN hV hm hn (by omega) (by omega))
  have HUS := Lib.hid (pricesUp_succ V m ns)
  have hW : Below w.heap.size w (w.alloc (.cells #[.int .i64 V, .slice A n c, .slice B m d] 27)) := (Below.refl _ _).alloc (Nat.le_refl _) _
  have KX := Lib.hid (Blk.new w 27 #[.int .i64 V, .slice A n c, .slice B m d])
  have HN := Lib.hid (hN.below hW)
  obtain ⟨U, hU⟩ : ∃ U : Nat, V + m = U := ⟨_, rfl⟩
  obtain ⟨Wd, hWd⟩ : ∃ Wd : Nat, V + m + 1 = Wd := ⟨_, rfl⟩
  rw [hWd] at HAT HWC HUS
  have hUi : (Wd : Int) - 1 = (U : Int) := by omega
  have hUb : U ≤ 16 := by omega
  have HUV := Lib.hid hU
  have hWb : Wd ≤ 17 := by omega
  clear hN hn hU hWd
  go_enter Try.func67, Try.ntmps67
  go_wp2_with fail
  generalize w.alloc (.cells #[.int .i64 V, .slice A n c, .slice B m d] 27) = W at *
  have p0 := KX.out.cell 0
  go_wp2_with fail
  clear p0
  go_loopg [3, 4] m (fun rr ov iv wi => ∃ (k C c' : Nat) (A' : Option Addr), rr = m - k ∧ k ≤ m ∧ C = V + k ∧ ov = .slice A' k c' ∧ iv = .int .i64 C ∧ Hid (OwnF 34 W.heap.size wi A' k c' (pricesUp V m ns k)) ∧ Below W.heap.size W wi)
  case atStart => exact ⟨0, V, 0, none, rfl, Nat.zero_le _, rfl, rfl, rfl, Lib.hid (OwnF.nil_ _ _ _), Below.refl _ _⟩
  case round =>
    obtain ⟨k, C, c', A', hr, hk, hC, rfl, rfl, HO, hbi⟩ := hrel
    have HRK := Lib.hid hr
    have HC := Lib.hid hC
    clear hr
    obtain ⟨wo, hwo⟩ : ∃ x, x = wr := ⟨_, rfl⟩
    rw [← hwo]
    rw [← hwo] at hbi HO
    clear hwo
    have KX1 := Lib.hid (KX.out.ext hbi)
    have p0 := KX1.out.cell 0
    have p1 := KX1.out.cell 1
    have p2 := KX1.out.cell 2
    by_cases hlt : k < m
    · have hlt' : (C : Int) < (U : Int) := by have := HUV.out; omega
      have hC8 : C ≤ 16 := by omega
      clear hC
      go_wp2_with fail
      refine (HWC.out _).mono ?_
      rintro e w5 ⟨rfl, b5⟩
      have KX2 := Lib.hid (KX1.out.ext b5)
      have HN2 := Lib.hid ((HN.out.below hbi).below b5)
      have HO5 := Lib.hid (HO.out.below b5)
      have hb5 := below_ext hbi hbi.size b5
      clear p0 p1 p2 b5 hbi HO KX1
      have p0 := KX2.out.cell 0
      have p1 := KX2.out.cell 1
      have p2 := KX2.out.cell 2
      go_wp2_with fail
      have HA := HAT.out k _ HN2.out hlt
      rw [← HC.out] at HA
      refine HA.mono ?_
      rintro e w6 ⟨rfl, b6⟩
      have HUS2 := Lib.hid (show pricesUp V m ns (k + 1) = pricesUp V m ns k ++ [ns.getD (m * Wd + C) 0] by rw [HUS.out, HC.out])
      have HO6 := Lib.hid (HO5.out.below b6)
      have hb6 := below_ext hb5 hb5.size b6
      have hs6 := hb6.size
      clear p0 p1 p2 b6 hb5 HO5 HA
      generalize ns.getD (m * Wd + C) 0 = y at *
      generalize pricesUp V m ns k = ps at *
      have HB6 := Lib.hid hb6
      clear hb6
      go_wp2_with (at_builtin; refine wp_append_flt _ y rfl _ _ _ rfl 34 W.heap.size Try.underlying22 infoF A' k c' ps rfl HO6.out rfl (by omega) hs6 ?_; intro g7 c7 w7 o7 u7 b7 _; have HO7 := Lib.hid o7; have HB7 := Lib.hid b7; clear o7 u7 b7)
      go_roundg (m - (k + 1))
      case measure => rw [HRK.out]; omega
      case rel => exact ⟨k + 1, C + 1, _, _, rfl, by omega, by have := HC.out; omega, rfl, by go_num, by rw [HUS2.out]; exact HO7, HB6.out.trans HB7.out⟩
    · have e : k = m := by omega
      have HE := Lib.hid (show OwnF 34 W.heap.size wo A' m c' (pricesUp V m ns m) by have h9 := HO.out; rw [e] at h9; exact h9)
      have hig : ¬ ((C : Int) < (U : Int)) := by have := HUV.out; omega
      have hC8 : C ≤ 16 := by omega
      have HKM := Lib.hid e
      clear e HO hC
      go_wp2_with fail
      refine (HWC.out _).mono ?_
      rintro e w5 ⟨rfl, b5⟩
      have hb5 := below_ext hbi hbi.size b5
      have HE5 := Lib.hid (HE.out.below b5)
      clear p0 p1 p2 b5 hbi
      go_wp2_with fail
      go_ret
      exact ⟨_, _, by rw [← HKM.out]; rfl, OwnF.low HE5.out hW.size, below_ext hW hW.size hb5⟩
end Go.Proofs.Ytckfmemjcjhaaaa
