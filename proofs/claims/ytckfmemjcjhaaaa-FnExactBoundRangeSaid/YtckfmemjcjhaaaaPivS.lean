/- The reference's pivot. -/
import Derived.Test.YtckfmemjcjhaaaaOwnT
namespace Go.Proofs.Ytckfmemjcjhaaaa
open Go.RowKit

/-- the memory of a pivot: the table that is read, the result's box, the table that is made -/
structure PivSt (base gr gR gO V : Nat) (A : Option Addr) (n c : Nat) (ns : List Nat) (B : Option Addr) (m d gN c' gB d' : Nat) (w0 w : World) (xs : List Nat) (bs : List Int) : Prop where
  kx : Blk w gr 27 #[.int .i64 V, .slice A n c, .slice B m d]
  kr : Blk w gR 27 #[.int .i64 0, .slice none 0 0, .slice none 0 0]
  ko : Blk w gO 27 #[.int .i64 V, .slice (some ⟨gN, 0, none⟩) n c', .slice (some ⟨gB, 0, none⟩) m d']
  fN : FltsAt w A n ns
  oN : OwnF 34 base w (some ⟨gN, 0, none⟩) n c' xs
  oB : OwnI 2 base w (some ⟨gB, 0, none⟩) m d' bs
  lo : ∀ ad, A = some ad → ad.block < base
  bl : Below base w0 w
theorem own_ne_blkI {T T' base n c g gO : Nat} {w : World} {zs : List Int} {cs : Array Value} (h : OwnI T base w (some ⟨g, 0, none⟩) n c zs) (hk : Blk w gO T' cs) (hne : T ≠ T') : g ≠ gO := by
  rintro rfl
  rcases h.2 with ⟨h1, _⟩ | ⟨g', cap, cur, h1, _, h3, _⟩
  · injection h1 with h1; cases h1
  · injection h1 with h1; injection h1 with h1; injection h1 with h1; subst h1
    have hk2 : w.heap[g]? = _ := hk
    rw [hk2] at h3
    injection h3 with h3
    injection h3 with _ h4
    exact hne h4.symm
section
variable {base gr gR gO V : Nat} {A : Option Addr} {n c : Nat} {ns : List Nat} {B : Option Addr} {m d gN c' gB d' : Nat} {w0 w w' : World} {xs : List Nat} {bs : List Int}
theorem PivSt.drewN (h : PivSt base gr gR gO V A n c ns B m d gN c' gB d' w0 w xs bs) (q : Nat) : PivSt base gr gR gO V A n c ns B m d gN c' gB d' w0 (w.drewN q) xs bs :=
  ⟨h.kx.drewN q, h.kr.drewN q, h.ko.drewN q, h.fN.drewN q, h.oN.drewN q, h.oB.drewN q, h.lo, below_drewN h.bl q⟩
theorem PivSt.set (h : PivSt base gr gR gO V A n c ns B m d gN c' gB d' w0 w xs bs) (j b : Nat) : PivSt base gr gR gO V A n c ns B m d gN c' gB d' w0 (w.setCell ⟨gN, j, none⟩ (.float .f32 b)) (xs.set j b) bs := by
  have h1 : gN ≠ gr := own_ne_blk h.oN h.kx (by decide)
  have h2 : gN ≠ gR := own_ne_blk h.oN h.kr (by decide)
  have h3 : gN ≠ gO := own_ne_blk h.oN h.ko (by decide)
  have h4 := own_neF h.oN (show OwnC 2 base 1 w (some ⟨gB, 0, none⟩) m d' (bs.map (Value.int .i64)) from h.oB) (by decide)
  have h5 : base ≤ gN := (h.oN.lt rfl).1
  exact ⟨h.kx.far (p := ⟨gN, j, none⟩) (Ne.symm h1) _, h.kr.far (p := ⟨gN, j, none⟩) (Ne.symm h2) _, h.ko.far (p := ⟨gN, j, none⟩) (Ne.symm h3) _,
    h.fN.far (p := ⟨gN, j, none⟩) (fun ad ha => by have h9 := h.lo ad ha; show ad.block ≠ gN; omega) _, h.oN.set j b,
    h.oB.far (p := ⟨gN, j, none⟩) (fun ad ha => fun e => h4 _ _ rfl ha e.symm) _, h.lo, h.bl.setCell (p := ⟨gN, j, none⟩) h5 _⟩
theorem PivSt.setB (h : PivSt base gr gR gO V A n c ns B m d gN c' gB d' w0 w xs bs) (j : Nat) (b : Int) : (Blk (w.setCell ⟨gB, j, none⟩ (.int .i64 b)) gR 27 #[.int .i64 0, .slice none 0 0, .slice none 0 0]) ∧ (Blk (w.setCell ⟨gB, j, none⟩ (.int .i64 b)) gO 27 #[.int .i64 V, .slice (some ⟨gN, 0, none⟩) n c', .slice (some ⟨gB, 0, none⟩) m d']) ∧ OwnF 34 base (w.setCell ⟨gB, j, none⟩ (.int .i64 b)) (some ⟨gN, 0, none⟩) n c' xs ∧ OwnI 2 base (w.setCell ⟨gB, j, none⟩ (.int .i64 b)) (some ⟨gB, 0, none⟩) m d' (bs.set j b) ∧ Below base w0 (w.setCell ⟨gB, j, none⟩ (.int .i64 b)) := by
  have h2 : gB ≠ gR := own_ne_blkI h.oB h.kr (by decide)
  have h3 : gB ≠ gO := own_ne_blkI h.oB h.ko (by decide)
  have h4 := own_neF h.oN (show OwnC 2 base 1 w (some ⟨gB, 0, none⟩) m d' (bs.map (Value.int .i64)) from h.oB) (by decide)
  have h5 : base ≤ gB := (h.oB.lt rfl).1
  exact ⟨h.kr.far (p := ⟨gB, j, none⟩) (Ne.symm h2) _, h.ko.far (p := ⟨gB, j, none⟩) (Ne.symm h3) _, h.oN.far (p := ⟨gB, j, none⟩) (fun ad ha => fun e => h4 _ _ ha rfl e) _, h.oB.set j b, h.bl.setCell (p := ⟨gB, j, none⟩) h5 _⟩
end
/-- what a pivot hands back -/
def RetPiv (V : Nat) (o : Option (List Nat × List Int)) (w : World) (e : Ending) (w' : World) : Prop :=
  Below w.heap.size w w' ∧ match o with
    | some (ns', bs') => ∃ (A' : Option Addr) (n' c' : Nat) (B' : Option Addr) (m' d' : Nat), e = .returned (.tuple #[.agg #[.int .i64 V, .slice A' n' c', .slice B' m' d'], .bool true]) ∧ OwnF 34 w.heap.size w' A' n' c' ns' ∧ OwnI 2 w.heap.size w' B' m' d' bs'
    | none => ∃ (v : Int) (A' : Option Addr) (n' c' : Nat) (B' : Option Addr) (m' d' : Nat), e = .returned (.tuple #[.agg #[.int .i64 v, .slice A' n' c', .slice B' m' d'], .bool false])
/-- a float operation in the walk: a number -/
theorem run_fsome {P : Program} (op : BinOp) (t : TypeId) (x y r : Nat) (h : floatBits op .f32 x y = some r) (w : World) : (binOp op t (.float .f32 x) (.float .f32 y)).run P w = .ok (.float .f32 r) w := run_float_arith w op t .f32 x y r h
/-- .. and no number -/
theorem run_fnone {P : Program} (op : BinOp) (hop : isFar op = true) (t : TypeId) (x y : Nat) (h : floatBits op .f32 x y = none) (w : World) : (binOp op t (.float .f32 x) (.float .f32 y)).run P w = .ok (.float .f32 ((Question.nanBits .f32 x y).cut (w.tape w.drawn (.nanBits .f32 x y)))) w.drew := by
  rw [run_fop w op hop]
  unfold fopV fopW
  rw [h]
set_option maxRecDepth 100000 in
set_option maxHeartbeats 4000000 in
theorem l02Pivot_any (gr V : Nat) (A : Option Addr) (n c : Nat) (ns : List Nat) (B : Option Addr) (m d : Nat) (bs : List Int) (r cc : Nat) (w : World) (KX : Blk w gr 27 #[.int .i64 V, .slice A n c, .slice B m d]) (hN : FltsAt w A n ns) (hB : IntsAt w B m bs) (hV : 1 ≤ V ∧ V ≤ 8) (hm : 1 ≤ m ∧ m ≤ 8) (hn : n = (m + 1) * (V + m + 1)) (hr : r < m) (hcc : cc < V + m) :
    Calls Try.prog 35 #[.pointer (some ⟨gr, 0, none⟩), .int .i64 r, .int .i64 cc] w (RetPiv V (pivT V ns bs r cc) w) := by
  have hbd : n ≤ 153 := by rw [hn]; exact Nat.mul_le_mul (show m + 1 ≤ 9 by omega) (show V + m + 1 ≤ 17 by omega)
  have hpos : 0 < n := by rw [hn]; exact Nat.mul_pos (by omega) (by omega)
  have HLB := Lib.hid hB.len
  have HLN := Lib.hid hN.len
  have HAT := Lib.hid (fun i k (w : World) KX hN hi hk => l02At_any gr V A n c ns B m d i k w KX hN hV.2 hm.2 hn hi hk)
  have HWC := Lib.hid (fun (w : World) KX => l02Wide_any gr V A n c B m d w KX hV.2 hm.2)
  have HPZ := Lib.hid (fun h => pivT_zero (V := V) (ns := ns) (bs := bs) (r := r) (c := cc) h)
  have HPO := Lib.hid (fun h xs hx => pivT_of (V := V) (ns := ns) (bs := bs) (r := r) (c := cc) h hV (by rw [HLB.out]; exact hm) (xs := xs) hx)
  rw [HLB.out] at HPZ HPO
  have hlo : ∀ ad, A = some ad → ad.block < w.heap.size := fun ad ha => by
    obtain ⟨ad', e, h2, _⟩ := hN.at_ hpos
    rw [ha] at e; injection e with e; subst e; exact h2
  have HLO := Lib.hid hlo
  obtain ⟨Wd, hWd⟩ : ∃ Wd : Nat, V + m + 1 = Wd := ⟨_, rfl⟩
  have hccW : cc < Wd := by omega
  have hWb : Wd ≤ 17 := by omega
  rw [hWd] at hn HAT HWC HPZ HPO
  have HCI := Lib.hid (fun (i k : Nat) (hi : i < m + 1) (hk : k < Wd) => (show i * Wd + k < n by rw [hn]; exact cell_lt hi hk))
  have HNM := Lib.hid hn
  obtain ⟨P, hP⟩ : ∃ P : Nat, r * Wd = P := ⟨_, rfl⟩
  have HP := Lib.hid hP
  have hPm : (r : Int) * (Wd : Int) = (P : Int) := by rw [← hP]; push_cast; rfl
  have hPn : P + cc < n := by rw [← hP]; exact HCI.out _ _ (by omega) hccW
  have hPw : IntKind.i64.wrap (P : Int) = (P : Int) := IntWalk.i64_in _ (by omega)
  clear hn hP hlo hWd
  have HKX := Lib.hid (KX.alloc (.cells #[.int .i64 0, .slice none 0 0, .slice none 0 0] 27))
  have HN1 := Lib.hid (hN.alloc (.cells #[.int .i64 0, .slice none 0 0, .slice none 0 0] 27))
  have HB1 := Lib.hid (hB.alloc (.cells #[.int .i64 0, .slice none 0 0, .slice none 0 0] 27))
  have hW : Below w.heap.size w (w.alloc (.cells #[.int .i64 0, .slice none 0 0, .slice none 0 0] 27)) := (Below.refl _ _).alloc (Nat.le_refl _) _
  have KR := Lib.hid (Blk.new w 27 #[.int .i64 0, .slice none 0 0, .slice none 0 0])
  clear KX hN hB
  go_enter Try.func35, Try.ntmps35
  go_wp2_with fail
  generalize w.alloc (.cells #[.int .i64 0, .slice none 0 0, .slice none 0 0] 27) = W at *
  refine (l02OwnTable_any gr V A n c ns B m d bs _ HKX.out HN1.out HB1.out hpos (by omega) (by omega)).mono ?_
  rintro e w1 ⟨A', c', B', d', rfl, oN, oB, sp, b1⟩
  obtain ⟨gN, rfl, hgN, _⟩ := oN.pos hpos
  obtain ⟨gB, rfl, hgB, _⟩ := oB.pos (by omega)
  have HS1 := Lib.hid (show PivSt w.heap.size gr w.heap.size w1.heap.size V A n c ns B m d gN c' gB d' w (w1.alloc (.cells #[.int .i64 V, .slice (some ⟨gN, 0, none⟩) n c', .slice (some ⟨gB, 0, none⟩) m d'] 27)) ns bs from
    ⟨(HKX.out.ext b1).alloc _, (KR.out.ext b1).alloc _, Blk.new w1 _ _, (HN1.out.below b1).alloc _, (OwnF.low oN hW.size).alloc _, (OwnI.low oB hW.size).alloc _, HLO.out, (below_ext hW hW.size b1).alloc (below_ext hW hW.size b1).size _⟩)
  clear oN oB b1 hgN hgB sp HKX HN1 HB1 KR
  go_wp2_with fail
  generalize w1.alloc (.cells #[.int .i64 V, .slice (some ⟨gN, 0, none⟩) n c', .slice (some ⟨gB, 0, none⟩) m d'] 27) = W2 at *
  refine (HWC.out W2 HS1.out.kx).mono ?_
  rintro e w3 ⟨rfl, q3, rfl⟩
  have HS3 := Lib.hid (HS1.out.drewN q3)
  clear HS1
  generalize W2.drewN q3 = W3 at *
  go_wp2_with fail
  refine (HAT.out r cc W3 HS3.out.kx HS3.out.fN (by omega) hccW).mono ?_
  rintro e w4 ⟨rfl, q4, rfl⟩
  have HS4 := Lib.hid (HS3.out.drewN q4)
  clear HS3
  generalize W3.drewN q4 = W4 at *
  have HFP := Lib.hid (show absK .f32 (ns.getD (P + cc) 0) = fC ns Wd r cc by unfold fC; rw [HP.out])
  rw [HP.out]
  generalize ns.getD (P + cc) 0 = p at *
  have HO := Lib.hid (show (FloatKind.f32.format.order p 0 == some .eq) = (ford .f32 (fC ns Wd r cc) (some 0) == some .eq) by rw [ford_abs, abs0, HFP.out])
  cases hz : (FloatKind.f32.format.order p 0 == some .eq)
  · have HPO2 := Lib.hid (HPO.out (by rw [← HO.out]; exact hz))
    have HX0 := Lib.hid (g1_zero (r := r) (c := cc) (Cells.of ns (m + 1) Wd (by rw [HLN.out, HNM.out])))
    go_wp2_with fail
    obtain ⟨w0', hw0'⟩ : ∃ x, x = W4 := ⟨_, rfl⟩
    rw [← hw0']
    rw [← hw0'] at HS4
    clear hw0'
    go_loopg [11] Wd (fun rr iv wi => ∃ (k : Nat) (xs : List Nat), rr = Wd - k ∧ k ≤ Wd ∧ iv = .int .i64 k ∧ Hid (PivSt w.heap.size gr w.heap.size w1.heap.size V A n c ns B m d gN c' gB d' w wi xs bs) ∧ Hid (Cells xs (m + 1) Wd (g1C (fC ns Wd) r cc k)))
    case atStart => exact ⟨0, ns, rfl, Nat.zero_le _, rfl, HS4, HX0⟩
    case round =>
      obtain ⟨k, xs, hr', hk, rfl, HS, HX⟩ := hrel
      have HRK := Lib.hid hr'
      clear hr' HS4 HX0
      by_cases hlt : k < Wd
      · have hlt' : (k : Int) < (Wd : Int) := by omega
        obtain ⟨J, hJ⟩ : ∃ J : Nat, P + k = J := ⟨_, rfl⟩
        have HJ := Lib.hid (show r * Wd + k = J by rw [HP.out, hJ])
        have hJn : J < n := by have h9 := HCI.out r k (by omega) hlt; rw [HJ.out] at h9; exact h9
        have hJi : (P : Int) + (k : Int) = (J : Int) := by omega
        have hJw : IntKind.i64.wrap (J : Int) = (J : Int) := IntWalk.i64_in _ (by omega)
        clear hJ
        have p1 := HS.out.ko.cell 1
        have cJ := HS.out.oN.cell hJn
        have fJ := HS.out.oN.free J
        generalize xs.getD J 0 = y0 at *
        obtain ⟨x, hx⟩ : ∃ x, ns.getD J 0 = x := ⟨_, rfl⟩
        have HAx := Lib.hid (fun (q : Nat) => HAT.out r k (wr.drewN q) (HS.out.kx.drewN q) (HS.out.fN.drewN q) (by omega) hlt)
        rw [HJ.out, hx] at HAx
        have HQ := Lib.hid (show fop .quo .f32 (fC ns Wd r k) (fC ns Wd r cc) = floatBits .quo .f32 x p by rw [← fop_abs, HFP.out]; unfold fC; rw [HJ.out, hx])
        have HST := Lib.hid (fun (q b : Nat) (hb : absK .f32 b = fop .quo .f32 (fC ns Wd r k) (fC ns Wd r cc)) => And.intro ((HS.out.drewN q).set J b) (show Cells (xs.set J b) (m + 1) Wd (g1C (fC ns Wd) r cc (k + 1)) by have h9 := g1_step HX.out (by omega) hlt hb; rw [HJ.out] at h9; exact h9))
        clear hx
        have hst := run_store_f
        cases hq : floatBits .quo .f32 x p with
        | some r1 =>
          have HV := Lib.hid (show absK .f32 r1 = fop .quo .f32 (fC ns Wd r k) (fC ns Wd r cc) by rw [HQ.out, hq]; exact absK_of (floatBits_no hq))
          have hrun := fun W => run_fsome (P := Try.prog) .quo 34 x p r1 hq W
          clear hq
          go_upto_region 9 with (fail)
          go_region_held3 (fun w' => w'.cell? ⟨w1.heap.size, 1, none⟩ = some (.slice (some ⟨gN, 0, none⟩) n c'))
            (first | exact HS.out.ko.cell 1 | exact (HS.out.drewN 1).ko.cell 1 | exact (HS.out.drewN (1 + q)).ko.cell 1 | exact (HS.out.drewN (1 + q + 1)).ko.cell 1 | exact ((HS.out.drewN _).set J _).ko.cell 1)
            (first | (go_at_call 56; refine (HAx.out 1).mono ?_; rintro e w8 ⟨rfl, q, rfl⟩))
          all_goals
            go_wp2_with fail
            go_roundg (Wd - (k + 1))
            case measure => rw [HRK.out]; omega
            case rel => exact ⟨k + 1, _, rfl, by omega, by go_num, Lib.hid (HST.out (1 + q) _ HV.out).1, Lib.hid (HST.out (1 + q) _ HV.out).2⟩
        | none =>
          have HV := Lib.hid (fun (t : Nat) => show absK .f32 ((Question.nanBits .f32 x p).cut t) = fop .quo .f32 (fC ns Wd r k) (fC ns Wd r cc) by rw [HQ.out, hq]; exact absK_nan (cut_nan _ _ _ _))
          have hrun := fun W => run_fnone (P := Try.prog) .quo rfl 34 x p hq W
          clear hq
          go_upto_region 9 with (fail)
          go_region_with (go_at_call 56; refine (HAx.out 1).mono ?_; rintro e w8 ⟨rfl, q, rfl⟩)
          all_goals
            go_wp2_with fail
            go_roundg (Wd - (k + 1))
            case measure => rw [HRK.out]; omega
            case rel => exact ⟨k + 1, _, rfl, by omega, by go_num, Lib.hid (HST.out (1 + q + 1) _ (HV.out _)).1, Lib.hid (HST.out (1 + q + 1) _ (HV.out _)).2⟩
      · have e : k = Wd := by omega
        have HXE := Lib.hid (show Cells xs (m + 1) Wd (g1C (fC ns Wd) r cc Wd) by have h9 := HX.out; rw [e] at h9; exact h9)
        clear e hk HX
        obtain ⟨J, hJ⟩ : ∃ J : Nat, P + cc = J := ⟨_, rfl⟩
        have HJ := Lib.hid (show r * Wd + cc = J by rw [HP.out, hJ])
        have hJn : J < n := by omega
        have hJi : (P : Int) + (cc : Int) = (J : Int) := by omega
        have hJw : IntKind.i64.wrap (J : Int) = (J : Int) := IntWalk.i64_in _ (by omega)
        clear hJ hPn
        have p1 := HS.out.ko.cell 1
        have cJ := HS.out.oN.cell hJn
        have fJ := HS.out.oN.free J
        generalize xs.getD J 0 = y0 at *
        have HS5 := Lib.hid (HS.out.set J 1065353216)
        have HX5 := Lib.hid (show Cells (xs.set J 1065353216) (m + 1) Wd (s1C (fC ns Wd) r cc 0) by have h9 := s1_zero HXE.out (by omega) hccW; rw [HJ.out] at h9; exact h9)
        have hst := run_store_f
        clear HS HXE
        go_wp2_with fail
        generalize wr.setCell ⟨gN, J, none⟩ (.float .f32 1065353216) = W5 at *
        generalize xs.set J 1065353216 = xs5 at *
        clear p1 cJ fJ
        go_loopg [12] (m + 1) (fun rr iv wi => ∃ (i : Nat) (xs : List Nat), rr = m + 1 - i ∧ i ≤ m + 1 ∧ iv = .int .i64 i ∧ Hid (PivSt w.heap.size gr w.heap.size w1.heap.size V A n c ns B m d gN c' gB d' w wi xs bs) ∧ Hid (Cells xs (m + 1) Wd (s1C (fC ns Wd) r cc i)))
        case atStart => exact ⟨0, xs5, rfl, Nat.zero_le _, rfl, HS5, HX5⟩
        case round =>
          obtain ⟨i, ys, hr', hi, rfl, HSi, HXi⟩ := hrel
          have HRI := Lib.hid hr'
          clear hr' HS5 HX5
          obtain ⟨wo, hwo⟩ : ∃ x, x = wr := ⟨_, rfl⟩
          rw [← hwo]
          rw [← hwo] at HSi
          clear hwo
          have p2 := HSi.out.kx.cell 2
          by_cases hilt : i < m + 1
          · have hilt' : (i : Int) ≤ (m : Int) := by omega
            by_cases hir : i = r
            · have d1 : ((i : Int) == (r : Int)) = true := by rw [hir]; simp
              have HX6 := Lib.hid (show Cells ys (m + 1) Wd (s1C (fC ns Wd) r cc (i + 1)) by have h9 := HXi.out; rw [hir] at h9 ⊢; exact s1_skip h9)
              clear hir
              go_wp2_with fail
              go_roundg (m + 1 - (i + 1))
              case measure => rw [HRI.out]; omega
              case rel => exact ⟨i + 1, _, rfl, by omega, by go_num, HSi, HX6⟩
            · have d1 : ((i : Int) == (r : Int)) = false := by rw [beq_eq_false_iff_ne]; omega
              have HIR := Lib.hid hir
              clear hir
              go_wp2_with fail
              refine (HAT.out i cc wo HSi.out.kx HSi.out.fN hilt hccW).mono ?_
              rintro e w6 ⟨rfl, q6, rfl⟩
              have HS6 := Lib.hid (HSi.out.drewN q6)
              obtain ⟨Q, hQ⟩ : ∃ Q : Nat, i * Wd = Q := ⟨_, rfl⟩
              have HQQ := Lib.hid hQ
              have hQm : (i : Int) * (Wd : Int) = (Q : Int) := by rw [← hQ]; push_cast; rfl
              have hQb : Q ≤ 153 := by rw [← hQ]; exact Nat.mul_le_mul (show i ≤ 9 by omega) hWb
              have hQw : IntKind.i64.wrap (Q : Int) = (Q : Int) := IntWalk.i64_in _ (by omega)
              have HFI := Lib.hid (show absK .f32 (ns.getD (Q + cc) 0) = fC ns Wd i cc by unfold fC; rw [hQ])
              rw [hQ]
              generalize ns.getD (Q + cc) 0 = fi at *
              have HX6 := Lib.hid (s2_zero HXi.out)
              clear hQ HSi HXi p2
              generalize wo.drewN q6 = W6 at *
              go_wp2_with fail
              go_loopg [14] Wd (fun rr iv wi => ∃ (k : Nat) (xs : List Nat), rr = Wd - k ∧ k ≤ Wd ∧ iv = .int .i64 k ∧ Hid (PivSt w.heap.size gr w.heap.size w1.heap.size V A n c ns B m d gN c' gB d' w wi xs bs) ∧ Hid (Cells xs (m + 1) Wd (s2C (fC ns Wd) r cc i k)))
              case atStart => exact ⟨0, ys, rfl, Nat.zero_le _, rfl, HS6, HX6⟩
              case round =>
                obtain ⟨k, xs, hr', hk, rfl, HS, HX⟩ := hrel
                have HRK := Lib.hid hr'
                clear hr' HS6 HX6
                obtain ⟨wo2, hwo⟩ : ∃ x, x = wr := ⟨_, rfl⟩
                rw [← hwo]
                rw [← hwo] at HS
                clear hwo
                by_cases hlt : k < Wd
                · have hlt' : (k : Int) < (Wd : Int) := by omega
                  obtain ⟨J1, hJ1⟩ : ∃ J : Nat, P + k = J := ⟨_, rfl⟩
                  have HJ1 := Lib.hid (show r * Wd + k = J1 by rw [HP.out, hJ1])
                  have hJ1n : J1 < n := by have h9 := HCI.out r k (by omega) hlt; rw [HJ1.out] at h9; exact h9
                  have hJ1i : (P : Int) + (k : Int) = (J1 : Int) := by omega
                  have hJ1w : IntKind.i64.wrap (J1 : Int) = (J1 : Int) := IntWalk.i64_in _ (by omega)
                  obtain ⟨J2, hJ2⟩ : ∃ J : Nat, Q + k = J := ⟨_, rfl⟩
                  have HJ2 := Lib.hid (show i * Wd + k = J2 by rw [HQQ.out, hJ2])
                  have hJ2n : J2 < n := by have h9 := HCI.out i k hilt hlt; rw [HJ2.out] at h9; exact h9
                  have hJ2i : (Q : Int) + (k : Int) = (J2 : Int) := by omega
                  have hJ2w : IntKind.i64.wrap (J2 : Int) = (J2 : Int) := IntWalk.i64_in _ (by omega)
                  have HNE := Lib.hid (show J2 ≠ J1 from fun e => HIR.out (cell_inj hlt hlt (by rw [HJ1.out, HJ2.out, e])).1)
                  clear hJ1 hJ2
                  have p1 := HS.out.ko.cell 1
                  have c1 := HS.out.oN.cell hJ1n
                  have c2 := HS.out.oN.cell hJ2n
                  have f2 := HS.out.oN.free J2
                  have HY := Lib.hid (show absK .f32 (xs.getD J1 0) = ownC (fC ns Wd) r cc k by have h9 := s2_own HX.out (by omega) hlt HIR.out; rw [HJ1.out] at h9; exact h9)
                  have HKS := Lib.hid (fun (q b : Nat) => show ((wo2.drewN q).setCell ⟨gN, J2, none⟩ (.float .f32 b)).cell? ⟨w1.heap.size, 1, none⟩ = some (.slice (some ⟨gN, 0, none⟩) n c') ∧ ((wo2.drewN q).setCell ⟨gN, J2, none⟩ (.float .f32 b)).cell? ⟨gN, J1, none⟩ = some (.float .f32 (xs.getD J1 0)) from ⟨((HS.out.drewN q).set J2 b).ko.cell 1, by have h9 := ((HS.out.drewN q).set J2 b).oN.cell hJ1n; rw [show (xs.set J2 b).getD J1 0 = xs.getD J1 0 by simp [List.getD, List.getElem?_set, HNE.out]] at h9; exact h9⟩)
                  obtain ⟨y, hy⟩ : ∃ y, xs.getD J1 0 = y := ⟨_, rfl⟩
                  rw [hy] at c1 HY HKS
                  obtain ⟨x, hx⟩ : ∃ x, ns.getD J2 0 = x := ⟨_, rfl⟩
                  generalize xs.getD J2 0 = y2 at *
                  have HAx := Lib.hid (fun (q : Nat) => HAT.out i k (wo2.drewN q) (HS.out.kx.drewN q) (HS.out.fN.drewN q) hilt hlt)
                  rw [HJ2.out, hx] at HAx
                  have HQ := Lib.hid (show subC (fC ns Wd) r cc i k = fop .sub .f32 (absK .f32 x) (floatBits .mul .f32 fi y) by unfold subC; rw [← HY.out, ← HFI.out, fop_abs, show fC ns Wd i k = absK .f32 x by unfold fC; rw [HJ2.out, hx]])
                  have HST := Lib.hid (fun (q b : Nat) (hb : absK .f32 b = subC (fC ns Wd) r cc i k) => And.intro ((HS.out.drewN q).set J2 b) (show Cells (xs.set J2 b) (m + 1) Wd (s2C (fC ns Wd) r cc i (k + 1)) by have h9 := s2_step HX.out hilt hlt hb; rw [HJ2.out] at h9; exact h9))
                  clear hx hy
                  cases hmu : floatBits .mul .f32 fi y with
                  | some a =>
                    have hrm := fun W => run_fsome (P := Try.prog) .mul 34 fi y a hmu W
                    have HQ2 := Lib.hid (show subC (fC ns Wd) r cc i k = floatBits .sub .f32 x a by rw [HQ.out, hmu, ← fop_abs, absK_of (floatBits_no hmu)])
                    clear hmu
                    cases hsu : floatBits .sub .f32 x a with
                    | some b =>
                      have hrs := fun W => run_fsome (P := Try.prog) .sub 34 x a b hsu W
                      have HV := Lib.hid (show absK .f32 b = subC (fC ns Wd) r cc i k by rw [HQ2.out, hsu]; exact absK_of (floatBits_no hsu))
                      clear hsu
                      go_upto_region 19 with (fail)
                      go_region_held3 (fun w' => w'.cell? ⟨w1.heap.size, 1, none⟩ = some (.slice (some ⟨gN, 0, none⟩) n c') ∧ w'.cell? ⟨gN, J1, none⟩ = some (.float .f32 y))
                        (first | exact ⟨p1, c1⟩ | exact HKS.out _ _)
                        (first | (go_at_call 56; refine (HAx.out 1).mono ?_; rintro e w8 ⟨rfl, q, rfl⟩))
                      all_goals
                        go_wp2_with fail
                        go_roundg (Wd - (k + 1))
                        case measure => rw [HRK.out]; omega
                        case rel => exact ⟨k + 1, _, rfl, by omega, by go_num, Lib.hid (HST.out (1 + q) _ HV.out).1, Lib.hid (HST.out (1 + q) _ HV.out).2⟩
                    | none =>
                      have hrs := fun W => run_fnone (P := Try.prog) .sub rfl 34 x a hsu W
                      have HV := Lib.hid (fun (t : Nat) => show absK .f32 ((Question.nanBits .f32 x a).cut t) = subC (fC ns Wd) r cc i k by rw [HQ2.out, hsu]; exact absK_nan (cut_nan _ _ _ _))
                      clear hsu
                      go_upto_region 19 with (fail)
                      refine wp_region_noPanic ?_
                      refine wp_region_held_drew (S := (fun w' => w'.cell? ⟨w1.heap.size, 1, none⟩ = some (.slice (some ⟨gN, 0, none⟩) n c') ∧ w'.cell? ⟨gN, J1, none⟩ = some (.float .f32 y))) (by kernel_rfl) ?_ (fun hHeld => ?_)
                      · (try dsimp only); first | exact ⟨p1, c1⟩ | exact HKS.out _ _
                      refine wpAnyH_take (i := 0) (oi := _) (v := ?_) rfl (by kernel_rfl) (by kernel_rfl) (by kernel_rfl) (fun _ _ _ h => h) (Or.inl ⟨by rfl, ?_⟩) (by assumption) ?_
                      rotate_left
                      · (intro w hSw; (try dsimp only at hSw); go_simp; try (with_reducible rfl))
                      try go_frame
                      refine wpAnyH_take (i := 1) (oi := _) (v := ?_) rfl (by kernel_rfl) (by kernel_rfl) (by kernel_rfl) (fun _ _ _ h => h) (Or.inl ⟨by rfl, ?_⟩) (by assumption) ?_
                      rotate_left
                      · (intro w hSw; (try dsimp only at hSw); go_simp; try (with_reducible rfl))
                      try go_frame
                      refine wpAnyH_take (i := 2) (oi := _) (v := ?_) rfl (by kernel_rfl) (by kernel_rfl) (by kernel_rfl) (fun _ _ _ h => h) (Or.inl ⟨by rfl, ?_⟩) (by assumption) ?_
                      rotate_left
                      · (intro w hSw; (try dsimp only at hSw); go_simp; try (with_reducible rfl))
                      try go_frame
                      refine wpAnyH_take (i := 3) (oi := _) (v := ?_) rfl (by kernel_rfl) (by kernel_rfl) (by kernel_rfl) (fun _ _ _ h => h) (Or.inl ⟨by rfl, ?_⟩) (by assumption) ?_
                      rotate_left
                      · (intro w hSw; (try dsimp only at hSw); go_simp; try (with_reducible rfl))
                      try go_frame
                      refine wpAnyH_take (i := 4) (oi := _) (v := ?_) rfl (by kernel_rfl) (by kernel_rfl) (by kernel_rfl) (fun _ _ _ h => h) (Or.inl ⟨by rfl, ?_⟩) (by assumption) ?_
                      rotate_left
                      · (intro w hSw; (try dsimp only at hSw); go_simp; try (with_reducible rfl))
                      try go_frame
                      refine wpAnyH_take (i := 5) (oi := _) (v := ?_) rfl (by kernel_rfl) (by kernel_rfl) (by kernel_rfl) (fun _ _ _ h => h) (Or.inl ⟨by rfl, ?_⟩) (by assumption) ?_
                      rotate_left
                      · (intro w hSw; (try dsimp only at hSw); go_simp; try (with_reducible rfl))
                      try go_frame
                      refine wpAnyH_take (i := 6) (oi := _) (v := ?_) rfl (by kernel_rfl) (by kernel_rfl) (by kernel_rfl) (fun _ _ _ h => h) (Or.inl ⟨by rfl, ?_⟩) (by assumption) ?_
                      rotate_left
                      · (intro w hSw; (try dsimp only at hSw); go_simp; try (with_reducible rfl))
                      try go_frame
                      refine wpAnyH_take (i := 7) (oi := _) (v := ?_) rfl (by kernel_rfl) (by kernel_rfl) (by kernel_rfl) (fun _ _ _ h => h) (Or.inl ⟨by rfl, ?_⟩) (by assumption) ?_
                      rotate_left
                      · (intro w hSw; (try dsimp only at hSw); go_simp; try (with_reducible rfl))
                      try go_frame
                      refine wpAnyH_take (i := 8) (oi := _) (v := ?_) rfl (by kernel_rfl) (by kernel_rfl) (by kernel_rfl) (fun _ _ _ h => h) (Or.inl ⟨by rfl, ?_⟩) (by assumption) ?_
                      rotate_left
                      · (intro w hSw; (try dsimp only at hSw); go_simp; try (with_reducible rfl))
                      try go_frame
                      refine wpAnyH_take (i := 9) (oi := _) (v := ?_) rfl (by kernel_rfl) (by kernel_rfl) (by kernel_rfl) (fun _ _ _ h => h) (Or.inl ⟨by rfl, ?_⟩) (by assumption) ?_
                      rotate_left
                      · (intro w hSw; (try dsimp only at hSw); go_simp; try (with_reducible rfl))
                      try go_frame
                      refine wpAnyH_take (i := 11) (oi := _) (v := ?_) rfl (by kernel_rfl) (by kernel_rfl) (by kernel_rfl) (fun _ _ _ h => h) (Or.inl ⟨by rfl, ?_⟩) (by assumption) ?_
                      rotate_left
                      · (intro w hSw; (try dsimp only at hSw); go_simp; try (with_reducible rfl))
                      try go_frame
                      refine wpAnyH_take (i := 12) (oi := _) (v := ?_) rfl (by kernel_rfl) (by kernel_rfl) (by kernel_rfl) (fun _ _ _ h => h) (Or.inl ⟨by rfl, ?_⟩) (by assumption) ?_
                      rotate_left
                      · (intro w hSw; (try dsimp only at hSw); go_simp; try (with_reducible rfl))
                      try go_frame
                      refine wpAnyH_take (i := 13) (oi := _) (v := ?_) rfl (by kernel_rfl) (by kernel_rfl) (by kernel_rfl) (fun _ _ _ h => h) (Or.inl ⟨by rfl, ?_⟩) (by assumption) ?_
                      rotate_left
                      · (intro w hSw; (try dsimp only at hSw); go_simp; try (with_reducible rfl))
                      try go_frame
                      refine wpAnyH_take (i := 14) (oi := _) (v := ?_) rfl (by kernel_rfl) (by kernel_rfl) (by kernel_rfl) (fun _ _ _ h => h) (Or.inl ⟨by rfl, ?_⟩) (by assumption) ?_
                      rotate_left
                      · (intro w hSw; (try dsimp only at hSw); go_simp; try (with_reducible rfl))
                      try go_frame
                      refine wpAnyH_take (i := 15) (oi := _) (v := ?_) rfl (by kernel_rfl) (by kernel_rfl) (by kernel_rfl) (fun _ _ _ h => h) (Or.inl ⟨by rfl, ?_⟩) (by assumption) ?_
                      rotate_left
                      · (intro w hSw; (try dsimp only at hSw); go_simp; try (with_reducible rfl))
                      try go_frame
                      refine wpAnyH_take (i := 16) (oi := _) (v := ?_) rfl (by kernel_rfl) (by kernel_rfl) (by kernel_rfl) (fun _ _ _ h => h) (Or.inl ⟨by rfl, ?_⟩) (by assumption) ?_
                      rotate_left
                      · (intro w hSw; (try dsimp only at hSw); go_simp; try (with_reducible rfl))
                      try go_frame
                      refine wpAnyH_take (i := 17) (oi := _) (v := ?_) rfl (by kernel_rfl) (by kernel_rfl) (by kernel_rfl) (fun _ _ _ h => h) (Or.inl ⟨by rfl, ?_⟩) (by assumption) ?_
                      rotate_left
                      · (intro w hSw; (try dsimp only at hSw); go_simp; try (with_reducible rfl))
                      try go_frame
                      refine wpAnyH_take (i := 18) (oi := _) (v := ?_) rfl (by kernel_rfl) (by kernel_rfl) (by kernel_rfl) (fun _ _ _ h => h) (Or.inl ⟨by rfl, ?_⟩) (by assumption) ?_
                      rotate_left
                      · (intro w hSw; (try dsimp only at hSw); go_simp; try (with_reducible rfl))
                      try go_frame
                      refine wpAnyH_take (i := 19) (oi := _) (v := ?_) rfl (by kernel_rfl) (by kernel_rfl) (by kernel_rfl) (fun _ _ _ h => h) (Or.inl ⟨by rfl, ?_⟩) (by assumption) ?_
                      rotate_left
                      · (intro w hSw; (try dsimp only at hSw); go_simp; try (with_reducible rfl))
                      try go_frame
                      refine wpAnyH_take (i := 20) (oi := _) (v := ?_) rfl (by kernel_rfl) (by kernel_rfl) (by kernel_rfl) (fun _ _ _ h => h) (Or.inl ⟨by rfl, ?_⟩) (by assumption) ?_
                      rotate_left
                      · (intro w hSw; (try dsimp only at hSw); go_simp; try (with_reducible rfl))
                      try go_frame
                      refine wpAnyH_take (i := 21) (oi := _) (v := ?_) rfl (by kernel_rfl) (by kernel_rfl) (by kernel_rfl) (fun _ _ _ h => h) (Or.inl ⟨by rfl, ?_⟩) (by assumption) ?_
                      rotate_left
                      · (intro w hSw; (try dsimp only at hSw); go_simp; try (with_reducible rfl))
                      try go_frame
                      refine wpAnyH_ready (rs := [10]) (by kernel_rfl) (by simp) ?_
                      refine AllReadyH.cons (o := _) rfl (fun K hK => ?_) ?_
                      · (go_simp; go_at_call 56; refine (HAx.out 1).mono ?_; rintro e w8 ⟨rfl, q, rfl⟩; go_wp2_with fail)
                        refine hK.out _ _ ?_ (fun hHeld => ?_)
                        · (try dsimp only); first | exact ⟨p1, c1⟩ | exact HKS.out _ _
                        · clear hK K
                          try go_frame
                          refine wpAnyH_ready (rs := [22]) (by kernel_rfl) (by simp) ?_
                          refine AllReadyH.cons (o := _) rfl (fun K hK => ?_) ?_
                          · go_simp
                            refine hK.out _ _ ?_ (fun hHeld => ?_)
                            · (try dsimp only); first | exact ⟨p1, c1⟩ | exact HKS.out _ _
                            · clear hK K
                              try go_frame
                              refine wpAnyH_take (i := 23) (oi := _) (v := ?_) rfl (by kernel_rfl) (by kernel_rfl) (by kernel_rfl) (fun _ _ _ h => h) (Or.inl ⟨by rfl, ?_⟩) (by assumption) ?_
                              rotate_left
                              · (intro w hSw; (try dsimp only at hSw); go_simp; try (with_reducible rfl))
                              try go_frame
                              refine wpAnyH_ready (rs := [24]) (by kernel_rfl) (by simp) ?_
                              refine AllReadyH.cons (o := _) rfl (fun K hK => ?_) ?_
                              · go_simp
                                refine hK.out _ _ ?_ (fun hHeld => ?_)
                                · (try dsimp only); first | exact ⟨p1, c1⟩ | exact HKS.out _ _
                                · clear hK K
                                  try go_frame
                                  refine wpAnyH_done (by kernel_rfl) ?_ _
                                  refine NoPanic.normal ?_
                                  go_wp2_with fail
                                  go_roundg (Wd - (k + 1))
                                  case measure => rw [HRK.out]; omega
                                  case rel => first | exact ⟨k + 1, _, rfl, by omega, by go_num, Lib.hid (HST.out (1 + q + 1) _ (HV.out _)).1, Lib.hid (HST.out (1 + q + 1) _ (HV.out _)).2⟩
                              exact AllReadyH.nil
                          exact AllReadyH.nil
                      exact AllReadyH.nil
                  | none =>
                    have hrm := fun W => run_fnone (P := Try.prog) .mul rfl 34 fi y hmu W
                    have hrs := fun t W => run_fnone (P := Try.prog) .sub rfl 34 x ((Question.nanBits .f32 fi y).cut t) (floatBits_nan_r (cut_nan _ _ _ _)) W
                    have HV := Lib.hid (fun (s t : Nat) => show absK .f32 ((Question.nanBits .f32 x ((Question.nanBits .f32 fi y).cut s)).cut t) = subC (fC ns Wd) r cc i k by rw [HQ.out, hmu, absK_nan (cut_nan _ _ _ _)]; cases absK .f32 x <;> rfl)
                    clear hmu
                    go_upto_region 19 with (fail)
                    refine wp_region_noPanic ?_
                    refine wp_region_held_drew (S := (fun w' => w'.cell? ⟨w1.heap.size, 1, none⟩ = some (.slice (some ⟨gN, 0, none⟩) n c') ∧ w'.cell? ⟨gN, J1, none⟩ = some (.float .f32 y))) (by kernel_rfl) ?_ (fun hHeld => ?_)
                    · (try dsimp only); first | exact ⟨p1, c1⟩ | exact HKS.out _ _
                    refine wpAnyH_take (i := 0) (oi := _) (v := ?_) rfl (by kernel_rfl) (by kernel_rfl) (by kernel_rfl) (fun _ _ _ h => h) (Or.inl ⟨by rfl, ?_⟩) (by assumption) ?_
                    rotate_left
                    · (intro w hSw; (try dsimp only at hSw); go_simp; try (with_reducible rfl))
                    try go_frame
                    refine wpAnyH_take (i := 1) (oi := _) (v := ?_) rfl (by kernel_rfl) (by kernel_rfl) (by kernel_rfl) (fun _ _ _ h => h) (Or.inl ⟨by rfl, ?_⟩) (by assumption) ?_
                    rotate_left
                    · (intro w hSw; (try dsimp only at hSw); go_simp; try (with_reducible rfl))
                    try go_frame
                    refine wpAnyH_take (i := 2) (oi := _) (v := ?_) rfl (by kernel_rfl) (by kernel_rfl) (by kernel_rfl) (fun _ _ _ h => h) (Or.inl ⟨by rfl, ?_⟩) (by assumption) ?_
                    rotate_left
                    · (intro w hSw; (try dsimp only at hSw); go_simp; try (with_reducible rfl))
                    try go_frame
                    refine wpAnyH_take (i := 3) (oi := _) (v := ?_) rfl (by kernel_rfl) (by kernel_rfl) (by kernel_rfl) (fun _ _ _ h => h) (Or.inl ⟨by rfl, ?_⟩) (by assumption) ?_
                    rotate_left
                    · (intro w hSw; (try dsimp only at hSw); go_simp; try (with_reducible rfl))
                    try go_frame
                    refine wpAnyH_take (i := 4) (oi := _) (v := ?_) rfl (by kernel_rfl) (by kernel_rfl) (by kernel_rfl) (fun _ _ _ h => h) (Or.inl ⟨by rfl, ?_⟩) (by assumption) ?_
                    rotate_left
                    · (intro w hSw; (try dsimp only at hSw); go_simp; try (with_reducible rfl))
                    try go_frame
                    refine wpAnyH_take (i := 5) (oi := _) (v := ?_) rfl (by kernel_rfl) (by kernel_rfl) (by kernel_rfl) (fun _ _ _ h => h) (Or.inl ⟨by rfl, ?_⟩) (by assumption) ?_
                    rotate_left
                    · (intro w hSw; (try dsimp only at hSw); go_simp; try (with_reducible rfl))
                    try go_frame
                    refine wpAnyH_take (i := 6) (oi := _) (v := ?_) rfl (by kernel_rfl) (by kernel_rfl) (by kernel_rfl) (fun _ _ _ h => h) (Or.inl ⟨by rfl, ?_⟩) (by assumption) ?_
                    rotate_left
                    · (intro w hSw; (try dsimp only at hSw); go_simp; try (with_reducible rfl))
                    try go_frame
                    refine wpAnyH_take (i := 7) (oi := _) (v := ?_) rfl (by kernel_rfl) (by kernel_rfl) (by kernel_rfl) (fun _ _ _ h => h) (Or.inl ⟨by rfl, ?_⟩) (by assumption) ?_
                    rotate_left
                    · (intro w hSw; (try dsimp only at hSw); go_simp; try (with_reducible rfl))
                    try go_frame
                    refine wpAnyH_take (i := 8) (oi := _) (v := ?_) rfl (by kernel_rfl) (by kernel_rfl) (by kernel_rfl) (fun _ _ _ h => h) (Or.inl ⟨by rfl, ?_⟩) (by assumption) ?_
                    rotate_left
                    · (intro w hSw; (try dsimp only at hSw); go_simp; try (with_reducible rfl))
                    try go_frame
                    refine wpAnyH_take (i := 9) (oi := _) (v := ?_) rfl (by kernel_rfl) (by kernel_rfl) (by kernel_rfl) (fun _ _ _ h => h) (Or.inl ⟨by rfl, ?_⟩) (by assumption) ?_
                    rotate_left
                    · (intro w hSw; (try dsimp only at hSw); go_simp; try (with_reducible rfl))
                    try go_frame
                    refine wpAnyH_take (i := 11) (oi := _) (v := ?_) rfl (by kernel_rfl) (by kernel_rfl) (by kernel_rfl) (fun _ _ _ h => h) (Or.inl ⟨by rfl, ?_⟩) (by assumption) ?_
                    rotate_left
                    · (intro w hSw; (try dsimp only at hSw); go_simp; try (with_reducible rfl))
                    try go_frame
                    refine wpAnyH_take (i := 12) (oi := _) (v := ?_) rfl (by kernel_rfl) (by kernel_rfl) (by kernel_rfl) (fun _ _ _ h => h) (Or.inl ⟨by rfl, ?_⟩) (by assumption) ?_
                    rotate_left
                    · (intro w hSw; (try dsimp only at hSw); go_simp; try (with_reducible rfl))
                    try go_frame
                    refine wpAnyH_take (i := 13) (oi := _) (v := ?_) rfl (by kernel_rfl) (by kernel_rfl) (by kernel_rfl) (fun _ _ _ h => h) (Or.inl ⟨by rfl, ?_⟩) (by assumption) ?_
                    rotate_left
                    · (intro w hSw; (try dsimp only at hSw); go_simp; try (with_reducible rfl))
                    try go_frame
                    refine wpAnyH_take (i := 14) (oi := _) (v := ?_) rfl (by kernel_rfl) (by kernel_rfl) (by kernel_rfl) (fun _ _ _ h => h) (Or.inl ⟨by rfl, ?_⟩) (by assumption) ?_
                    rotate_left
                    · (intro w hSw; (try dsimp only at hSw); go_simp; try (with_reducible rfl))
                    try go_frame
                    refine wpAnyH_take (i := 15) (oi := _) (v := ?_) rfl (by kernel_rfl) (by kernel_rfl) (by kernel_rfl) (fun _ _ _ h => h) (Or.inl ⟨by rfl, ?_⟩) (by assumption) ?_
                    rotate_left
                    · (intro w hSw; (try dsimp only at hSw); go_simp; try (with_reducible rfl))
                    try go_frame
                    refine wpAnyH_take (i := 16) (oi := _) (v := ?_) rfl (by kernel_rfl) (by kernel_rfl) (by kernel_rfl) (fun _ _ _ h => h) (Or.inl ⟨by rfl, ?_⟩) (by assumption) ?_
                    rotate_left
                    · (intro w hSw; (try dsimp only at hSw); go_simp; try (with_reducible rfl))
                    try go_frame
                    refine wpAnyH_take (i := 17) (oi := _) (v := ?_) rfl (by kernel_rfl) (by kernel_rfl) (by kernel_rfl) (fun _ _ _ h => h) (Or.inl ⟨by rfl, ?_⟩) (by assumption) ?_
                    rotate_left
                    · (intro w hSw; (try dsimp only at hSw); go_simp; try (with_reducible rfl))
                    try go_frame
                    refine wpAnyH_take (i := 18) (oi := _) (v := ?_) rfl (by kernel_rfl) (by kernel_rfl) (by kernel_rfl) (fun _ _ _ h => h) (Or.inl ⟨by rfl, ?_⟩) (by assumption) ?_
                    rotate_left
                    · (intro w hSw; (try dsimp only at hSw); go_simp; try (with_reducible rfl))
                    try go_frame
                    refine wpAnyH_take (i := 19) (oi := _) (v := ?_) rfl (by kernel_rfl) (by kernel_rfl) (by kernel_rfl) (fun _ _ _ h => h) (Or.inl ⟨by rfl, ?_⟩) (by assumption) ?_
                    rotate_left
                    · (intro w hSw; (try dsimp only at hSw); go_simp; try (with_reducible rfl))
                    try go_frame
                    refine wpAnyH_take (i := 20) (oi := _) (v := ?_) rfl (by kernel_rfl) (by kernel_rfl) (by kernel_rfl) (fun _ _ _ h => h) (Or.inl ⟨by rfl, ?_⟩) (by assumption) ?_
                    rotate_left
                    · (intro w hSw; (try dsimp only at hSw); go_simp; try (with_reducible rfl))
                    try go_frame
                    refine wpAnyH_ready (rs := [10, 21]) (by kernel_rfl) (by simp) ?_
                    refine AllReadyH.cons (o := _) rfl (fun K hK => ?_) ?_
                    · (go_simp; go_at_call 56; refine (HAx.out 1).mono ?_; rintro e w8 ⟨rfl, q, rfl⟩; go_wp2_with fail)
                      refine hK.out _ _ ?_ (fun hHeld => ?_)
                      · (try dsimp only); first | exact ⟨p1, c1⟩ | exact HKS.out _ _
                      · clear hK K
                        try go_frame
                        refine wpAnyH_ready (rs := [21]) (by kernel_rfl) (by simp) ?_
                        refine AllReadyH.cons (o := _) rfl (fun K hK => ?_) ?_
                        · go_simp
                          refine hK.out _ _ ?_ (fun hHeld => ?_)
                          · (try dsimp only); first | exact ⟨p1, c1⟩ | exact HKS.out _ _
                          · clear hK K
                            try go_frame
                            refine wpAnyH_ready (rs := [22]) (by kernel_rfl) (by simp) ?_
                            refine AllReadyH.cons (o := _) rfl (fun K hK => ?_) ?_
                            · go_simp
                              refine hK.out _ _ ?_ (fun hHeld => ?_)
                              · (try dsimp only); first | exact ⟨p1, c1⟩ | exact HKS.out _ _
                              · clear hK K
                                try go_frame
                                refine wpAnyH_take (i := 23) (oi := _) (v := ?_) rfl (by kernel_rfl) (by kernel_rfl) (by kernel_rfl) (fun _ _ _ h => h) (Or.inl ⟨by rfl, ?_⟩) (by assumption) ?_
                                rotate_left
                                · (intro w hSw; (try dsimp only at hSw); go_simp; try (with_reducible rfl))
                                try go_frame
                                refine wpAnyH_ready (rs := [24]) (by kernel_rfl) (by simp) ?_
                                refine AllReadyH.cons (o := _) rfl (fun K hK => ?_) ?_
                                · go_simp
                                  refine hK.out _ _ ?_ (fun hHeld => ?_)
                                  · (try dsimp only); first | exact ⟨p1, c1⟩ | exact HKS.out _ _
                                  · clear hK K
                                    try go_frame
                                    refine wpAnyH_done (by kernel_rfl) ?_ _
                                    refine NoPanic.normal ?_
                                    go_wp2_with fail
                                    go_roundg (Wd - (k + 1))
                                    case measure => rw [HRK.out]; omega
                                    case rel => first | exact ⟨k + 1, _, rfl, by omega, by go_num, Lib.hid (HST.out (1 + q + 1 + 1) _ (HV.out _ _)).1, Lib.hid (HST.out (1 + q + 1 + 1) _ (HV.out _ _)).2⟩ | exact ⟨k + 1, _, rfl, by omega, by go_num, Lib.hid (HST.out (1 + 1 + q + 1) _ (HV.out _ _)).1, Lib.hid (HST.out (1 + 1 + q + 1) _ (HV.out _ _)).2⟩ | exact ⟨k + 1, _, rfl, by omega, by go_num, Lib.hid (HST.out (2 + q + 1) _ (HV.out _ _)).1, Lib.hid (HST.out (2 + q + 1) _ (HV.out _ _)).2⟩
                                exact AllReadyH.nil
                            exact AllReadyH.nil
                        exact AllReadyH.nil
                    refine AllReadyH.cons (o := _) rfl (fun K hK => ?_) ?_
                    · go_simp
                      refine hK.out _ _ ?_ (fun hHeld => ?_)
                      · (try dsimp only); first | exact ⟨p1, c1⟩ | exact HKS.out _ _
                      · clear hK K
                        try go_frame
                        refine wpAnyH_ready (rs := [10]) (by kernel_rfl) (by simp) ?_
                        refine AllReadyH.cons (o := _) rfl (fun K hK => ?_) ?_
                        · (go_simp; go_at_call 56; refine (HAx.out 2).mono ?_; rintro e w8 ⟨rfl, q, rfl⟩; go_wp2_with fail)
                          refine hK.out _ _ ?_ (fun hHeld => ?_)
                          · (try dsimp only); first | exact ⟨p1, c1⟩ | exact HKS.out _ _
                          · clear hK K
                            try go_frame
                            refine wpAnyH_ready (rs := [22]) (by kernel_rfl) (by simp) ?_
                            refine AllReadyH.cons (o := _) rfl (fun K hK => ?_) ?_
                            · go_simp
                              refine hK.out _ _ ?_ (fun hHeld => ?_)
                              · (try dsimp only); first | exact ⟨p1, c1⟩ | exact HKS.out _ _
                              · clear hK K
                                try go_frame
                                refine wpAnyH_take (i := 23) (oi := _) (v := ?_) rfl (by kernel_rfl) (by kernel_rfl) (by kernel_rfl) (fun _ _ _ h => h) (Or.inl ⟨by rfl, ?_⟩) (by assumption) ?_
                                rotate_left
                                · (intro w hSw; (try dsimp only at hSw); go_simp; try (with_reducible rfl))
                                try go_frame
                                refine wpAnyH_ready (rs := [24]) (by kernel_rfl) (by simp) ?_
                                refine AllReadyH.cons (o := _) rfl (fun K hK => ?_) ?_
                                · go_simp
                                  refine hK.out _ _ ?_ (fun hHeld => ?_)
                                  · (try dsimp only); first | exact ⟨p1, c1⟩ | exact HKS.out _ _
                                  · clear hK K
                                    try go_frame
                                    refine wpAnyH_done (by kernel_rfl) ?_ _
                                    refine NoPanic.normal ?_
                                    go_wp2_with fail
                                    go_roundg (Wd - (k + 1))
                                    case measure => rw [HRK.out]; omega
                                    case rel => first | exact ⟨k + 1, _, rfl, by omega, by go_num, Lib.hid (HST.out (1 + q + 1 + 1) _ (HV.out _ _)).1, Lib.hid (HST.out (1 + q + 1 + 1) _ (HV.out _ _)).2⟩ | exact ⟨k + 1, _, rfl, by omega, by go_num, Lib.hid (HST.out (1 + 1 + q + 1) _ (HV.out _ _)).1, Lib.hid (HST.out (1 + 1 + q + 1) _ (HV.out _ _)).2⟩ | exact ⟨k + 1, _, rfl, by omega, by go_num, Lib.hid (HST.out (2 + q + 1) _ (HV.out _ _)).1, Lib.hid (HST.out (2 + q + 1) _ (HV.out _ _)).2⟩
                                exact AllReadyH.nil
                            exact AllReadyH.nil
                        exact AllReadyH.nil
                    exact AllReadyH.nil
                · have e : k = Wd := by omega
                  have HXE := Lib.hid (show Cells xs (m + 1) Wd (s2C (fC ns Wd) r cc i Wd) by have h9 := HX.out; rw [e] at h9; exact h9)
                  clear e hk HX
                  obtain ⟨J, hJ⟩ : ∃ J : Nat, Q + cc = J := ⟨_, rfl⟩
                  have HJ := Lib.hid (show i * Wd + cc = J by rw [HQQ.out, hJ])
                  have hJn : J < n := by have h9 := HCI.out i cc hilt hccW; rw [HJ.out] at h9; exact h9
                  have hJi : (Q : Int) + (cc : Int) = (J : Int) := by omega
                  have hJw : IntKind.i64.wrap (J : Int) = (J : Int) := IntWalk.i64_in _ (by omega)
                  clear hJ
                  have p1 := HS.out.ko.cell 1
                  have cJ := HS.out.oN.cell hJn
                  have fJ := HS.out.oN.free J
                  generalize xs.getD J 0 = y0 at *
                  have HS7 := Lib.hid (HS.out.set J 0)
                  have HX7 := Lib.hid (show Cells (xs.set J 0) (m + 1) Wd (s1C (fC ns Wd) r cc (i + 1)) by have h9 := s2_end HXE.out hilt hccW HIR.out; rw [HJ.out] at h9; exact h9)
                  clear HS HXE
                  go_wp2_with fail
                  go_roundg (m + 1 - (i + 1))
                  case measure => rw [HRI.out]; omega
                  case rel => exact ⟨i + 1, _, rfl, by omega, by go_num, HS7, HX7⟩
          · have e : i = m + 1 := by omega
            have HXE := Lib.hid (show Cells ys (m + 1) Wd (s1C (fC ns Wd) r cc (m + 1)) by have h9 := HXi.out; rw [e] at h9; exact h9)
            have hig : ¬ ((i : Int) ≤ (m : Int)) := by omega
            clear e hi HXi
            have HRES := Lib.hid (HPO2.out ys HXE.out)
            have q2 := HSi.out.ko.cell 2
            have hrm : r < m := hr
            have hri : (r : Int) < (m : Int) := by omega
            have cr := HSi.out.oB.cell hr
            have fr := HSi.out.oB.free r
            generalize bs.getD r 0 = b0 at *
            obtain ⟨kr8, ko8, oN8, oB8, bl8⟩ := HSi.out.setB r (cc : Int)
            have HKR := Lib.hid kr8
            have HKO := Lib.hid ko8
            have HON := Lib.hid oN8
            have HOB := Lib.hid oB8
            have HBL := Lib.hid bl8
            clear kr8 ko8 oN8 oB8 bl8
            go_upto_region 22 with (fail)
            clear HSi p2 q2 cr fr hst hilt hig
            generalize wo.setCell ⟨gB, r, none⟩ (.int .i64 cc) = W8 at *
            have HLT := Lib.hid (fun (w' : World) KO fN iB => l02Table_any w1.heap.size V (some ⟨gN, 0, none⟩) n c' ys (some ⟨gB, 0, none⟩) m d' (bs.set r cc) w' KO fN iB (by unfold maxLen; omega) (by unfold maxLen; omega))
            have k0 := HKR.out.cell 0
            have k1 := HKR.out.cell 1
            have k2 := HKR.out.cell 2
            have l0 := HKR.out.free 0
            have l1 := HKR.out.free 1
            have l2 := HKR.out.free 2
            have q0 := HKO.out.cell 0
            have q1 := HKO.out.cell 1
            have q2 := HKO.out.cell 2
            have HGE := Lib.hid (own_ne_blk HON.out HKR.out (by decide))
            have HGF := Lib.hid (own_ne_blkI HOB.out HKR.out (by decide))
            go_region_with (go_at_call 45; refine (HLT.out _ HKO.out.drew HON.out.drew.flts HOB.out.drew.ints).mono ?_; rintro e w9 ⟨rfl, q, rfl⟩)
            all_goals
              go_wp2_with fail
              have HU := Upd.setCell (p := ⟨w.heap.size, 2, none⟩) (Upd.setCell (p := ⟨w.heap.size, 1, none⟩) (Upd.setCell (p := ⟨w.heap.size, 0, none⟩) (Upd.refl (fun k => k = w.heap.size) (W8.drewN (1 + q))) (.inl rfl) (.int .i64 V)) (.inl rfl) (.slice (some ⟨gN, 0, none⟩) n c')) (.inl rfl) (.slice (some ⟨gB, 0, none⟩) m d')
              refine bodyPost_ret (v := .tuple #[.agg #[.int .i64 V, .slice (some ⟨gN, 0, none⟩) n c', .slice (some ⟨gB, 0, none⟩) m d'], .bool (tblB V ys (bs.set r cc))]) (by simp [results, Try.results35, go_sem, k0, k1, k2]) rfl ⟨?_, ?_⟩
              · exact (below_drewN HBL.out (1 + q)).trans (HU.toBelow (by have h9 := HBL.out.size; exact h9) (fun k hk e => by omega))
              · rw [HRES.out]
                cases ht : tblB (V : Int) ys (bs.set r cc)
                · exact ⟨_, _, _, _, _, _, _, rfl⟩
                · exact ⟨_, _, _, _, _, _, rfl, OwnF.upd (HON.out.drewN (1 + q)) HU (fun x hx e => by injection hx with hx; subst hx; exact HGE.out e), OwnI.upd (HOB.out.drewN (1 + q)) HU (fun x hx e => by injection hx with hx; subst hx; exact HGF.out e)⟩
  · have HR := Lib.hid (HPZ.out (by rw [← HO.out]; exact hz))
    have k0 := HS4.out.kr.cell 0
    have k1 := HS4.out.kr.cell 1
    have k2 := HS4.out.kr.cell 2
    have l0 := HS4.out.kr.free 0
    have l1 := HS4.out.kr.free 1
    have l2 := HS4.out.kr.free 2
    have hbl := HS4.out.bl
    go_wp2_with fail
    refine bodyPost_ret (v := .tuple #[.agg #[.int .i64 0, .slice none 0 0, .slice none 0 0], .bool false]) (by simp [results, Try.results35, go_sem, k0, k1, k2]) rfl ⟨?_, ?_⟩
    · exact ((hbl.setCell (p := ⟨w.heap.size, 0, none⟩) (Nat.le_refl _) _).setCell (p := ⟨w.heap.size, 1, none⟩) (Nat.le_refl _) _).setCell (p := ⟨w.heap.size, 2, none⟩) (Nat.le_refl _) _
    · rw [HR.out]
      exact ⟨_, _, _, _, _, _, _, rfl⟩
end Go.Proofs.Ytckfmemjcjhaaaa
