/- The reference's rests and plans. -/
import Derived.Test.YtbbcddbdinmaaaaCorS
namespace Go.Proofs.Ytbbcddbdinmaaaa
open Go.RowKit

theorem blk_flts2 {w : World} {g : Nat} {bd : Nat} (h : Blk w g 34 #[.float .f32 bd]) : FltsAt w (some ⟨g, 0, none⟩) 1 [bd] := by
  refine ⟨rfl, fun _ => ⟨_, rfl, h.lt, fun j hj => ?_⟩⟩
  obtain rfl : j = 0 := by omega
  exact h.cell 0
theorem l02List_any (A : Option Addr) (n c : Nat) (zs : List Nat) (w : World) (h : FltsAt w A n zs) (hn : n ≤ maxLen) :
    Calls Try.prog 103 #[.slice A n c] w fun e w' => e = .returned (.tuple #[if allFin zs = true then .slice A n c else .slice none 0 0, .bool (allFin zs)]) ∧ Drew w w' := by
  have HFI := Lib.hid (l02Finite_any A n c zs w h hn)
  cases hf : allFin zs
  · rw [hf] at HFI
    go_enter Try.func103, Try.ntmps103
    go_wp2_with fail
    refine HFI.out.mono ?_
    rintro e w1 ⟨rfl, dr⟩
    go_wp2_with fail
    go_ret2
    exact ⟨rfl, dr⟩
  · rw [hf] at HFI
    go_enter Try.func103, Try.ntmps103
    go_wp2_with fail
    refine HFI.out.mono ?_
    rintro e w1 ⟨rfl, dr⟩
    go_wp2_with fail
    go_ret2
    exact ⟨rfl, dr⟩
set_option maxRecDepth 100000 in
set_option maxHeartbeats 1000000 in
theorem specLeftOf_any (V : Nat) (ad : Addr) (n c : Nat) (ns : List Nat) (B : Option Addr) (m d : Nat) (bs : List Nat) (G : Option Addr) (p g : Nat) (gs : List Nat) (X : Option Addr) (cx : Nat) (xs : List Nat) (w : World)
    (hN : FltsAt w (some ad) n ns) (hB : FltsAt w B m bs) (hG : FltsAt w G p gs) (hX : FltsAt w X V xs) (hn : n ≤ maxLen) (hm : m ≤ maxLen) (hp : p ≤ maxLen) (hrb : rowsB V ns bs gs = true) (hV : 1 ≤ V ∧ V ≤ 8) (hm8 : m ≤ 8) (hnV : n = V * m) (hc : n ≤ c ∧ c ≤ maxLen) :
    Calls Try.prog 96 #[.agg #[.int .i64 V, .slice (some ad) n c, .slice B m d, .slice G p g], .slice X V cx] w fun e w' => ∃ (A' : Option Addr) (n' c' : Nat) (zs : List Nat), e = .returned (.tuple #[.slice A' n' c', .bool (leftB V m ns bs xs)]) ∧
      OwnF 34 w.heap.size w' A' n' c' zs ∧ (leftB V m ns bs xs = true → zs.map (absK .f32) = leftL V m ns bs xs m) ∧ n' ≤ 8 ∧ Below w.heap.size w w' := by
  have hW : Below w.heap.size w (w.alloc (.cells #[.int .i64 V, .slice (some ad) n c, .slice B m d, .slice G p g] 43)) := (Below.refl _ _).alloc (Nat.le_refl _) _
  have KX := Lib.hid (Blk.new w 43 #[.int .i64 V, .slice (some ad) n c, .slice B m d, .slice G p g])
  have HFT := Lib.hid (fun (w' : World) KX hN hB hG hX => l02Fit_any w.heap.size V (some ad) n c ns B m d bs G p g gs X cx xs w' KX hN hB hG hX hn hm hp hrb hV.2)
  have HRW := Lib.hid (fun i (w' : World) KX hi => l02Row_any w.heap.size V m ad n c B m d G p g i w' KX hV hm8 hi hnV hc)
  have HFR := Lib.hid (fun i (w : World) (h : FltsAt w (some ad) n ns) hi => flts_row (gs := []) (i := i) h hi hV.1 hnV)
  have HDT := Lib.hid (fun i c' (w : World) hR hX => l02Dot_any (some (ad.add (i * V))) V c' (rowL V m ns i) X V cx xs w hR hX (Nat.le_refl _) (by omega))
  have HN := Lib.hid (hN.below hW)
  have HB := Lib.hid (hB.below hW)
  have HG := Lib.hid (hG.below hW)
  have HX := Lib.hid (hX.below hW)
  have HLB := Lib.hid (show leftB V m ns bs xs = (allFin xs && (leftL V m ns bs xs m).all finO) from rfl)
  have HLS := Lib.hid (leftL_succ V m ns bs xs)
  obtain ⟨L, hL⟩ : ∃ L, L = leftL V m ns bs xs := ⟨_, rfl⟩
  have HL0 := Lib.hid (show L 0 = [] by rw [hL]; rfl)
  have HLF := Lib.hid (fun k => show leftF V m ns bs xs k = fop .sub .f32 (absK .f32 (bs.getD k 0)) (dotO (rowL V m ns k) xs) from rfl)
  rw [← hL] at HLB HLS
  rw [← hL]
  obtain ⟨lb, hlb⟩ : ∃ x, x = leftB V m ns bs xs := ⟨_, rfl⟩
  rw [← hlb] at HLB
  rw [← hlb]
  clear hN hB hG hX hrb hnV hc hL hlb
  go_enter Try.func96, Try.ntmps96
  go_wp2_with fail
  generalize w.alloc (.cells #[.int .i64 V, .slice (some ad) n c, .slice B m d, .slice G p g] 43) = W at *
  refine (HFT.out _ KX.out HN.out HB.out HG.out HX.out).mono ?_
  cases hf : allFin xs
  · have HF := Lib.hid (show lb = false by rw [HLB.out, hf]; rfl)
    rintro e w2 ⟨rfl, dr⟩
    have hW2 := below_ext hW hW.size dr.below
    go_wp2_with fail
    go_ret2
    exact ⟨none, 0, 0, [], by rw [HF.out]; rfl, OwnF.nil_ _ _ _, fun h => (by rw [HF.out] at h; cases h), Nat.zero_le _, hW2⟩
  · have HLB2 := Lib.hid (show lb = (L m).all finO by rw [HLB.out, hf, Bool.true_and])
    clear hf
    rintro e w2 ⟨rfl, dr⟩
    have b2 := (dr.below).trans ((Below.refl W.heap.size w2).alloc dr.below.size (.cells #[] 34))
    have hO0 : OwnF 34 W.heap.size (w2.alloc (.cells #[] 34)) (some ⟨w2.heap.size, 0, none⟩) 0 0 [] := World.ownsRow_lit (e := 34) (base := W.heap.size) (size := 1) w2 #[] 0 dr.below.size (Nat.zero_le _) rfl
    have HO0 := Lib.hid hO0
    have HB2 := Lib.hid b2
    clear hO0 b2 dr
    go_wp2_with fail
    generalize w2.heap.size = gO at *
    generalize w2.alloc (.cells #[] 34) = W2 at *
    go_loopg [6, 7] m (fun rr ov iv wi => ∃ (k c' : Nat) (A' : Option Addr) (zs : List Nat), rr = m - k ∧ k ≤ m ∧ ov = .slice A' k c' ∧ iv = .int .i64 k ∧ Hid (OwnF 34 W.heap.size wi A' k c' zs) ∧ Hid (zs.map (absK .f32) = L k) ∧ Below W.heap.size W wi)
    case atStart => exact ⟨0, 0, _, [], rfl, Nat.zero_le _, rfl, rfl, HO0, Lib.hid (by rw [HL0.out]; rfl), HB2.out⟩
    case round =>
      obtain ⟨k, c', A', zs, hr, hk, rfl, rfl, HO, HZ, hbi⟩ := hrel
      have HRK := Lib.hid hr
      clear hr
      obtain ⟨wo, hwo⟩ : ∃ x, x = wr := ⟨_, rfl⟩
      rw [← hwo]
      rw [← hwo] at hbi HO
      clear hwo
      have K3 := Lib.hid (KX.out.ext hbi)
      have p2 := K3.out.cell 2
      have hbw := below_ext hW hW.size hbi
      by_cases hlt : k < m
      · have hlt' : (k : Int) < (m : Int) := by omega
        have N3 := Lib.hid (HN.out.below hbi)
        have X3 := Lib.hid (HX.out.below hbi)
        obtain ⟨bd, hbd, _, cb⟩ := (HB.out.below hbi).at_ hlt
        have HBD := Lib.hid hbd
        subst hbd
        have HLK := Lib.hid (show L (k + 1) = L k ++ [fop .sub .f32 (absK .f32 (bs.getD k 0)) (dotO (rowL V m ns k) xs)] by rw [HLS.out, HLF.out])
        generalize bs.getD k 0 = y at *
        go_upto_region 7 with (fail)
        have hfop := fun (x y : Nat) (W : World) => run_fop (P := Try.prog) W .sub rfl 34 .f32 x y
        have K4 := Lib.hid (fun q => K3.out.drewN q)
        have N4 := Lib.hid (fun q => HFR.out k _ (N3.out.drewN q) hlt)
        have X4 := Lib.hid (fun q => X3.out.drewN q)
        have HB4 := Lib.hid (fun r q v => show Below W.heap.size W ((fopW .sub .f32 y r (wo.drewN q)).alloc (.cells #[.float .f32 v] 34)) from by
          have h1 := below_drewN hbi q
          obtain ⟨q2, hq2⟩ := fopW_drew .sub .f32 y r (wo.drewN q)
          rw [hq2]
          have h2 := below_drewN h1 q2
          exact h2.alloc h2.size _)
        have HO4 := Lib.hid (fun r q v => show OwnF 34 W.heap.size ((fopW .sub .f32 y r (wo.drewN q)).alloc (.cells #[.float .f32 v] 34)) A' k c' zs from by
          obtain ⟨q2, hq2⟩ := fopW_drew .sub .f32 y r (wo.drewN q)
          rw [hq2]
          exact ((HO.out.drewN q).drewN q2).alloc _)
        clear hbi hbw
        go_region_law (first
          | (go_simp; go_at_call 102; refine (HRW.out k _ (K4.out 1) hlt).mono ?_; rintro e w4 ⟨c4, rfl, q4, rfl⟩)
          | (go_simp; go_at_call 95; refine (HDT.out k c4 _ (N4.out _) (X4.out _)).mono ?_; rintro e w5 ⟨r, rfl, hr5, q5, rfl⟩; have HR5 := Lib.hid hr5; clear hr5)
          | (refine step_app_flts (by rfl) _ _ _ (by rfl) 34 W.heap.size Try.underlying22 infoF A' k c' zs (by rfl) (HO4.out r (1 + q4 + q5) _) ⟨(fopW .sub .f32 y r (wo.drewN (1 + q4 + q5))).heap.size, 0, none⟩ 1 1 [fopV .sub .f32 y r (wo.drewN (1 + q4 + q5))] (by rfl) (blk_flts2 (Blk.new _ _ _)) (by omega) (by omega) (HB4.out r (1 + q4 + q5) _).size ?_; intro g8 c8 w8 o8 u8 hg8; have HO8 := Lib.hid o8; have HB8 := Lib.hid ((HB4.out r (1 + q4 + q5) _).trans (u8.toBelow (HB4.out r (1 + q4 + q5) _).size (fun j hj e => by obtain ⟨x, h1, h2⟩ := e; have h3 := ((HO4.out r (1 + q4 + q5) 0).lt h1).1; omega))); clear o8 u8 hg8))
        all_goals
          go_wp2_with fail
          go_roundg (m - (k + 1))
          case measure => rw [HRK.out]; omega
          case rel => exact ⟨k + 1, _, _, _, rfl, by omega, rfl, by go_num, HO8, Lib.hid (by rw [HLK.out, List.map_append, HZ.out, List.map_cons, List.map_nil, fopV_abs, HR5.out]), HB8.out⟩
      · have e : k = m := by omega
        have HZE := Lib.hid (show zs.map (absK .f32) = L m by rw [HZ.out, e])
        have HLI := Lib.hid (fun (w : World) h => l02List_any A' k c' zs w h (by unfold maxLen; omega))
        have HAZ := Lib.hid (show allFin zs = lb by rw [HLB2.out]; exact allFin_map HZE.out)
        have hig : ¬ ((k : Int) < (m : Int)) := by omega
        have hk8 : k ≤ 8 := by omega
        clear e
        go_wp2_with fail
        refine (HLI.out _ HO.out.flts).mono ?_
        rw [HAZ.out]
        cases hlb : lb
        · rintro e w9 ⟨rfl, dr9⟩
          have hW9 := below_ext hbw hbw.size dr9.below
          go_wp2_with fail
          go_ret2
          exact ⟨none, 0, 0, [], by rw [hlb]; rfl, OwnF.nil_ _ _ _, (fun h => by rw [hlb] at h; cases h), Nat.zero_le _, hW9⟩
        · rintro e w9 ⟨rfl, dr9⟩
          have O9 := Lib.hid (HO.out.below dr9.below)
          have hW9 := below_ext hbw hbw.size dr9.below
          go_wp2_with fail
          go_ret2
          exact ⟨A', k, c', zs, by rw [hlb]; rfl, OwnF.low O9.out hW.size, fun _ => HZE.out, hk8, hW9⟩
end Go.Proofs.Ytbbcddbdinmaaaa
