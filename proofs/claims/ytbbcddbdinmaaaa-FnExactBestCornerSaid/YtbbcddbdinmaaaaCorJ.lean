/- The program's rests and plans. -/
import Derived.Test.YtbbcddbdinmaaaaCorI
namespace Go.Proofs.Ytbbcddbdinmaaaa
open Go.RowKit

set_option maxRecDepth 100000 in
set_option maxHeartbeats 1000000 in
theorem implLeftOf_any (V : Nat) (ad : Addr) (n c : Nat) (ns : List Nat) (B : Option Addr) (m d : Nat) (bs : List Nat) (G : Option Addr) (p g : Nat) (gs : List Nat) (X : Option Addr) (cx : Nat) (xs : List Nat) (w : World)
    (hN : FltsAt w (some ad) n ns) (hB : FltsAt w B m bs) (hG : FltsAt w G p gs) (hX : FltsAt w X V xs) (hn : n ≤ maxLen) (hm : m ≤ maxLen) (hp : p ≤ maxLen) (hrb : rowsB V ns bs gs = true) (hV : 1 ≤ V ∧ V ≤ 8) (hm8 : m ≤ 8) (hnV : n = V * m) (hc : n ≤ c ∧ c ≤ maxLen) :
    Calls Try.prog 100 #[.agg #[.int .i64 V, .slice (some ad) n c, .slice B m d, .slice G p g], .slice X V cx] w fun e w' => ∃ (A' : Option Addr) (n' c' : Nat) (zs : List Nat), e = .returned (.tuple #[.slice A' n' c', .bool (leftB V m ns bs xs)]) ∧
      OwnF 34 w.heap.size w' A' n' c' zs ∧ (leftB V m ns bs xs = true → zs.map (absK .f32) = leftL V m ns bs xs m) ∧ n' ≤ 8 ∧ Below w.heap.size w w' := by
  have hW : Below w.heap.size w (w.alloc (.cells #[.int .i64 V, .slice (some ad) n c, .slice B m d, .slice G p g] 43)) := (Below.refl _ _).alloc (Nat.le_refl _) _
  have KX := Lib.hid (Blk.new w 43 #[.int .i64 V, .slice (some ad) n c, .slice B m d, .slice G p g])
  have HVR := Lib.hid (fun (w : World) hN hB hG => validRows_r V (some ad) n c ns B m d bs G p g gs w hN hB hG hn hm hp)
  rw [hrb] at HVR
  have HIX := Lib.hid (fun (w : World) hX => isX_any V (some ad) n c B m d G p g X cx xs w hX hV.2)
  have HRW := Lib.hid (fun i (w : World) hi => row_any V m ad n c B m d G p g i w hV hm8 hi hnV hc)
  have HFR := Lib.hid (fun i (w : World) (h : FltsAt w (some ad) n ns) hi => flts_row (gs := []) (i := i) h hi hV.1 hnV)
  have HDT := Lib.hid (fun i c' (w : World) hR hX => dot_any (some (ad.add (i * V))) V c' (rowL V m ns i) X V cx xs w hR hX (Nat.le_refl _) (by omega))
  have HN := Lib.hid (hN.below hW)
  have HB := Lib.hid (hB.below hW)
  have HG := Lib.hid (hG.below hW)
  have HX := Lib.hid (hX.below hW)
  have HLB := Lib.hid (show leftB V m ns bs xs = (allFin xs && (leftL V m ns bs xs m).all finO) from rfl)
  have HLS := Lib.hid (leftL_succ V m ns bs xs)
  obtain ⟨L, hL⟩ : ∃ L, L = leftL V m ns bs xs := ⟨_, rfl⟩
  have HL0 := Lib.hid (show L 0 = [] by rw [hL]; rfl)
  have HLF := Lib.hid (fun k => show leftF V m ns bs xs k = fop .sub .f32 (absK .f32 (bs.getD k 0)) (dotO (rowL V m ns k) xs) from rfl)
  rw [← hL] at HLB HLS
  rw [← hL]
  obtain ⟨lb, hlb⟩ : ∃ x, x = leftB V m ns bs xs := ⟨_, rfl⟩
  rw [← hlb] at HLB
  rw [← hlb]
  clear hN hB hG hX hrb hnV hc hL hlb
  go_enter Try.func100, Try.ntmps100
  go_wp2_with fail
  generalize w.alloc (.cells #[.int .i64 V, .slice (some ad) n c, .slice B m d, .slice G p g] 43) = W at *
  have p0 := KX.out.cell 0
  have p1 := KX.out.cell 1
  have p2 := KX.out.cell 2
  have p3 := KX.out.cell 3
  go_wp2_with fail
  refine (HVR.out _ HN.out HB.out HG.out).mono ?_
  rintro e w1 ⟨rfl, b1⟩
  have K1 := Lib.hid (KX.out.ext b1)
  have hW1 := below_ext hW hW.size b1
  have N1 := Lib.hid (HN.out.below b1)
  have B1 := Lib.hid (HB.out.below b1)
  have X1 := Lib.hid (HX.out.below b1)
  clear p0 p1 p2 p3 b1 HN HB HG HX KX
  have p0 := K1.out.cell 0
  have p1 := K1.out.cell 1
  have p2 := K1.out.cell 2
  have p3 := K1.out.cell 3
  go_wp2_with fail
  refine (HIX.out _ X1.out).mono ?_
  cases hf : allFin xs
  · have HF := Lib.hid (show lb = false by rw [HLB.out, hf]; rfl)
    rintro e w2 ⟨rfl, b2⟩
    have hW2 := below_ext hW1 hW1.size b2
    clear p0 p1 p2 p3
    go_wp2_with fail
    go_ret2
    exact ⟨none, 0, 0, [], by rw [HF.out]; rfl, OwnF.nil_ _ _ _, fun h => (by rw [HF.out] at h; cases h), Nat.zero_le _, hW2⟩
  · have HLB2 := Lib.hid (show lb = (L m).all finO by rw [HLB.out, hf, Bool.true_and])
    clear hf
    rintro e w2 ⟨rfl, b2⟩
    have hW2 := below_ext hW1 hW1.size b2
    have K2 := Lib.hid (K1.out.ext b2)
    have N2 := Lib.hid (N1.out.below b2)
    have B2 := Lib.hid (B1.out.below b2)
    have X2 := Lib.hid (X1.out.below b2)
    clear p0 p1 p2 p3 b2 N1 B1 X1 K1 hW1
    have p2 := K2.out.cell 2
    go_wp2_with fail
    clear p2
    go_loopg [6, 21] m (fun rr ov iv wi => ∃ (k c' : Nat) (A' : Option Addr) (zs : List Nat), rr = m - k ∧ k ≤ m ∧ ov = .slice A' k c' ∧ iv = .int .i64 k ∧ Hid (OwnF 34 w2.heap.size wi A' k c' zs) ∧ Hid (zs.map (absK .f32) = L k) ∧ Below w2.heap.size w2 wi)
    case atStart => exact ⟨0, 0, none, [], rfl, Nat.zero_le _, rfl, rfl, Lib.hid (OwnF.nil_ _ _ _), Lib.hid (by rw [HL0.out]; rfl), Below.refl _ _⟩
    case round =>
      obtain ⟨k, c', A', zs, hr, hk, rfl, rfl, HO, HZ, hbi⟩ := hrel
      have HRK := Lib.hid hr
      clear hr
      obtain ⟨wo, hwo⟩ : ∃ x, x = wr := ⟨_, rfl⟩
      rw [← hwo]
      rw [← hwo] at hbi HO
      clear hwo
      by_cases hlt : k < m
      · have hlt' : (k : Int) < (m : Int) := by omega
        have K3 := Lib.hid (K2.out.ext hbi)
        have N3 := Lib.hid (N2.out.below hbi)
        have X3 := Lib.hid (X2.out.below hbi)
        obtain ⟨bd, hbd, _, cb⟩ := (B2.out.below hbi).at_ hlt
        have HBD := Lib.hid hbd
        subst hbd
        have HLK := Lib.hid (show L (k + 1) = L k ++ [fop .sub .f32 (absK .f32 (bs.getD k 0)) (dotO (rowL V m ns k) xs)] by rw [HLS.out, HLF.out])
        generalize bs.getD k 0 = y at *
        have p0 := K3.out.cell 0
        have p1 := K3.out.cell 1
        have p2 := K3.out.cell 2
        have p3 := K3.out.cell 3
        go_wp2_with fail
        refine (HRW.out k _ hlt).mono ?_
        rintro e w4 ⟨c4, rfl, b4⟩
        have N4 := Lib.hid (N3.out.below b4)
        have X4 := Lib.hid (X3.out.below b4)
        have O4 := Lib.hid (HO.out.below b4)
        have hb4 := below_ext hbi hbi.size b4
        clear p0 p1 p2 p3 b4 hbi HO cb
        go_wp2_with fail
        refine (HDT.out k c4 _ (HFR.out k _ N4.out hlt) X4.out).mono ?_
        rintro e w5 ⟨r, rfl, hr5, dr5⟩
        have HR5 := Lib.hid hr5
        have O5 := Lib.hid (O4.out.below dr5.below)
        have hb5 := below_ext hb4 hb4.size dr5.below
        clear dr5 hr5 hb4 O4
        have HB5 := Lib.hid hb5
        clear hb5
        go_wp2_with (first
          | (refine wp_fop _ rfl .sub _ _ _ _ rfl rfl .f32 y r rfl rfl ?_; intro q w9 hb9 hlt9 hd9; obtain ⟨q9, rfl⟩ := hd9; have HB9 := Lib.hid hb9; have O6 := Lib.hid (O5.out.drewN q9); have HB6 := Lib.hid (below_drewN HB5.out q9); have hs6 := HB6.out.size; clear hb9)
          | (at_builtin; refine wp_append_flt _ q rfl _ _ _ rfl 34 w2.heap.size Try.underlying22 infoF A' k c' zs rfl O6.out rfl (by omega) hs6 ?_; intro g7 c7 w7 o7 u7 b7 _; have HO7 := Lib.hid o7; have HB7 := Lib.hid b7; clear o7 u7 b7))
        have HLQ := Lib.hid (show (zs ++ [q]).map (absK .f32) = L (k + 1) by rw [HLK.out, List.map_append, HZ.out, List.map_cons, List.map_nil, HB9.out, HR5.out])
        go_roundg (m - (k + 1))
        case measure => rw [HRK.out]; omega
        case rel => exact ⟨k + 1, _, _, _, rfl, by omega, rfl, by go_num, HO7, HLQ, HB6.out.trans HB7.out⟩
      · have e : k = m := by omega
        have HZE := Lib.hid (show zs.map (absK .f32) = L m by rw [HZ.out, e])
        have HAF := Lib.hid (fun (w : World) h => areFinite_any A' k c' zs w h (by unfold maxLen; omega))
        have HAZ := Lib.hid (show allFin zs = lb by rw [HLB2.out]; exact allFin_map HZE.out)
        have hig : ¬ ((k : Int) < (m : Int)) := by omega
        have hk8 : k ≤ 8 := by omega
        clear e
        go_wp2_with fail
        refine (HAF.out _ HO.out.flts).mono ?_
        rw [HAZ.out]
        cases hlb : lb
        · rintro e w9 ⟨rfl, dr9⟩
          have hW9 := below_ext (below_ext hW2 hW2.size hbi) (below_ext hW2 hW2.size hbi).size dr9.below
          go_wp2_with fail
          go_ret2
          exact ⟨none, 0, 0, [], by rw [hlb]; rfl, OwnF.nil_ _ _ _, (fun h => by rw [hlb] at h; cases h), Nat.zero_le _, hW9⟩
        · rintro e w9 ⟨rfl, dr9⟩
          have O9 := Lib.hid (HO.out.below dr9.below)
          have hW9 := below_ext (below_ext hW2 hW2.size hbi) (below_ext hW2 hW2.size hbi).size dr9.below
          go_wp2_with fail
          go_ret2
          exact ⟨A', k, c', zs, by rw [hlb]; rfl, OwnF.low O9.out hW2.size, fun _ => HZE.out, hk8, hW9⟩
set_option maxRecDepth 100000 in
set_option maxHeartbeats 1000000 in
theorem implIsPlan_any (V : Nat) (ad : Addr) (n c : Nat) (ns : List Nat) (B : Option Addr) (m d : Nat) (bs : List Nat) (G : Option Addr) (p g : Nat) (gs : List Nat) (X : Option Addr) (cx : Nat) (xs : List Nat) (near : Nat) (w : World)
    (hN : FltsAt w (some ad) n ns) (hB : FltsAt w B m bs) (hG : FltsAt w G p gs) (hX : FltsAt w X V xs) (hn : n ≤ maxLen) (hm : m ≤ maxLen) (hp : p ≤ maxLen) (hrb : rowsB V ns bs gs = true) (hV : 1 ≤ V ∧ V ≤ 8) (hm8 : m ≤ 8) (hnV : n = V * m) (hc : n ≤ c ∧ c ≤ maxLen) (hnear : leastO (absK .f32 near) = true) :
    Calls Try.prog 79 #[.agg #[.int .i64 V, .slice (some ad) n c, .slice B m d, .slice G p g], .slice X V cx, .float .f32 near] w (RetV (.bool (planO V m ns bs xs near)) w) := by
  have hW : Below w.heap.size w (w.alloc (.cells #[.int .i64 V, .slice (some ad) n c, .slice B m d, .slice G p g] 43)) := (Below.refl _ _).alloc (Nat.le_refl _) _
  have KX := Lib.hid (Blk.new w 43 #[.int .i64 V, .slice (some ad) n c, .slice B m d, .slice G p g])
  have HLO := Lib.hid (fun (w : World) hN hB hG hX => implLeftOf_any V ad n c ns B m d bs G p g gs X cx xs w hN hB hG hX hn hm hp hrb hV hm8 hnV hc)
  have HNE := Lib.hid (fun (w : World) => isNear_any near w)
  rw [hnear] at HNE
  have HN := Lib.hid (hN.below hW)
  have HB := Lib.hid (hB.below hW)
  have HG := Lib.hid (hG.below hW)
  have HX := Lib.hid (hX.below hW)
  have HPL := Lib.hid (show planO V m ns bs xs near = (leftB V m ns bs xs && (xs.all (fun b => geO near (absK .f32 b)) && (leftL V m ns bs xs m).all (geO near))) from rfl)
  have HAX := Lib.hid (fun (w : World) h => areAtLeast_any X V cx xs near w h (by omega))
  obtain ⟨o, ho⟩ : ∃ x, x = planO V m ns bs xs near := ⟨_, rfl⟩
  rw [← ho] at HPL
  rw [← ho]
  clear hN hB hG hX hrb hnV hc ho hnear
  go_enter Try.func79, Try.ntmps79
  go_wp2_with fail
  generalize w.alloc (.cells #[.int .i64 V, .slice (some ad) n c, .slice B m d, .slice G p g] 43) = W at *
  have p0 := KX.out.cell 0
  have p1 := KX.out.cell 1
  have p2 := KX.out.cell 2
  have p3 := KX.out.cell 3
  go_wp2_with fail
  refine (HLO.out _ HN.out HB.out HG.out HX.out).mono ?_
  rintro e w1 ⟨A', n', c', zs, rfl, o1, hz, hn8, b1⟩
  have hW1 := below_ext hW hW.size b1
  have X1 := Lib.hid (HX.out.below b1)
  have O1 := Lib.hid o1
  have HZ := Lib.hid hz
  clear p0 p1 p2 p3 b1 o1 hz HN HB HG HX KX
  cases hlb : leftB V m ns bs xs
  · have HF := Lib.hid (show o = false by rw [HPL.out, hlb]; rfl)
    go_wp2_with fail
    go_ret
    exact ⟨ret_bool HF.out.symm, hW1⟩
  · have HZE := Lib.hid (HZ.out hlb)
    have HP2 := Lib.hid (show o = (xs.all (fun b => geO near (absK .f32 b)) && (leftL V m ns bs xs m).all (geO near)) by rw [HPL.out, hlb, Bool.true_and])
    have HAZ := Lib.hid (fun (w : World) h => areAtLeast_any A' n' c' zs near w h (by omega))
    go_wp2_with fail
    refine (HNE.out _).mono ?_
    rintro e w2 ⟨rfl, dr2⟩
    have X2 := Lib.hid (X1.out.below dr2.below)
    have O2 := Lib.hid (O1.out.below dr2.below)
    have hW2 := below_ext hW1 hW1.size dr2.below
    clear dr2
    go_wp2_with fail
    refine (HAX.out _ X2.out).mono ?_
    cases ha : xs.all (fun b => geO near (absK .f32 b))
    · have HF := Lib.hid (show o = false by rw [HP2.out, ha]; rfl)
      rintro e w3 ⟨rfl, dr3⟩
      have hW3 := below_ext hW2 hW2.size dr3.below
      go_wp2_with fail
      go_ret
      exact ⟨ret_bool HF.out.symm, hW3⟩
    · have HF := Lib.hid (show o = zs.all (fun b => geO near (absK .f32 b)) by rw [HP2.out, ha, Bool.true_and]; exact (allGe_map HZE.out).symm)
      rintro e w3 ⟨rfl, dr3⟩
      have O3 := Lib.hid (O2.out.below dr3.below)
      have hW3 := below_ext hW2 hW2.size dr3.below
      clear dr3
      go_wp2_with fail
      refine (HAZ.out _ O3.out.flts).mono ?_
      rintro e w4 ⟨rfl, dr4⟩
      have hW4 := below_ext hW3 hW3.size dr4.below
      go_wp2_with fail
      go_ret
      exact ⟨ret_bool HF.out.symm, hW4⟩
end Go.Proofs.Ytbbcddbdinmaaaa
