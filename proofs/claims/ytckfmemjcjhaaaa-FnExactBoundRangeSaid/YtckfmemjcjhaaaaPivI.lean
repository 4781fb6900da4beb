/- The program's pivot (printed by gen_pivi.py). -/
import Derived.Test.YtckfmemjcjhaaaaPivS
import Derived.Test.YtckfmemjcjhaaaaTblV
namespace Go.Proofs.Ytckfmemjcjhaaaa
open Go.RowKit

theorem getD_set_neN (xs : List Nat) (b : Nat) {i j : Nat} (h : i ≠ j) : (xs.set i b).getD j 0 = xs.getD j 0 := by simp [List.getD, List.getElem?_set, h]
theorem PivSt.ext {base gr gR gO V : Nat} {A : Option Addr} {n c : Nat} {ns : List Nat} {B : Option Addr} {m d gN c' gB d' : Nat} {w0 w w' : World} {xs : List Nat} {bs : List Int} (h : PivSt base gr gR gO V A n c ns B m d gN c' gB d' w0 w xs bs) (hb : Below w.heap.size w w') (hs : base ≤ w.heap.size) : PivSt base gr gR gO V A n c ns B m d gN c' gB d' w0 w' xs bs :=
  ⟨h.kx.ext hb, h.kr.ext hb, h.ko.ext hb, h.fN.below hb, h.oN.below hb, h.oB.below hb, h.lo, below_ext h.bl hs hb⟩
theorem OwnF.cap2P {T base n c : Nat} {w : World} {A : Option Addr} {zs : List Nat} (h : OwnF T base w A n c zs) : n ≤ c ∧ c ≤ maxLen := by
  rcases h.form with ⟨_, h1, h2, _⟩ | ⟨_, _, _, _, h1, h2⟩
  · subst h1 h2; exact ⟨Nat.le_refl _, Nat.zero_le _⟩
  · exact ⟨h1, h2⟩
theorem OwnI.cap2P {T base n c : Nat} {w : World} {A : Option Addr} {zs : List Int} (h : OwnI T base w A n c zs) : n ≤ c ∧ c ≤ maxLen := by
  rcases h.form with ⟨_, h1, h2, _⟩ | ⟨_, _, _, _, h1, h2⟩
  · subst h1 h2; exact ⟨Nat.le_refl _, Nat.zero_le _⟩
  · exact ⟨h1, h2⟩
theorem box_filled2 {gO base n c gN m d gB : Nat} {W w5 : World} {v : Int} {ns : List Nat} {bs : List Int} {a0 a1 a2 : Value} (hk : Blk w5 gO 27 #[a0, a1, a2]) (hN : OwnF 34 base w5 (some ⟨gN, 0, none⟩) n c ns) (hB : OwnI 2 base w5 (some ⟨gB, 0, none⟩) m d bs) (hge : base ≤ gO) (hb : Below base W w5) :
    ∃ (g gN' c' gB' d' : Nat), Value.pointer (some ⟨gO, 0, none⟩) = .pointer (some ⟨g, 0, none⟩) ∧ Blk (((w5.setCell ⟨gO, 0, none⟩ (.int .i64 v)).setCell ⟨gO, 1, none⟩ (.slice (some ⟨gN, 0, none⟩) n c)).setCell ⟨gO, 2, none⟩ (.slice (some ⟨gB, 0, none⟩) m d)) g 27 #[.int .i64 v, .slice (some ⟨gN', 0, none⟩) n c', .slice (some ⟨gB', 0, none⟩) m d'] ∧
      OwnF 34 base (((w5.setCell ⟨gO, 0, none⟩ (.int .i64 v)).setCell ⟨gO, 1, none⟩ (.slice (some ⟨gN, 0, none⟩) n c)).setCell ⟨gO, 2, none⟩ (.slice (some ⟨gB, 0, none⟩) m d)) (some ⟨gN', 0, none⟩) n c' ns ∧
      OwnI 2 base (((w5.setCell ⟨gO, 0, none⟩ (.int .i64 v)).setCell ⟨gO, 1, none⟩ (.slice (some ⟨gN, 0, none⟩) n c)).setCell ⟨gO, 2, none⟩ (.slice (some ⟨gB, 0, none⟩) m d)) (some ⟨gB', 0, none⟩) m d' bs ∧
      Below base W (((w5.setCell ⟨gO, 0, none⟩ (.int .i64 v)).setCell ⟨gO, 1, none⟩ (.slice (some ⟨gN, 0, none⟩) n c)).setCell ⟨gO, 2, none⟩ (.slice (some ⟨gB, 0, none⟩) m d)) := by
  have hne := own_ne_blk hN hk (by decide)
  have hnf := own_ne_blkI hB hk (by decide)
  refine ⟨gO, gN, c, gB, d, rfl, ((hk.set 0 _).set 1 _).set 2 _, ((hN.far (p := ⟨gO, 0, none⟩) ?_ _).far (p := ⟨gO, 1, none⟩) ?_ _).far (p := ⟨gO, 2, none⟩) ?_ _, ((hB.far (p := ⟨gO, 0, none⟩) ?_ _).far (p := ⟨gO, 1, none⟩) ?_ _).far (p := ⟨gO, 2, none⟩) ?_ _, ((hb.setCell (p := ⟨gO, 0, none⟩) hge _).setCell (p := ⟨gO, 1, none⟩) hge _).setCell (p := ⟨gO, 2, none⟩) hge _⟩
  all_goals (intro ad h; injection h with h; subst h; first | exact hne | exact hnf)
/-- what the program's pivot hands back -/
def RetPivZ (V : Nat) (o : Option (List Nat × List Int)) (w : World) (e : Ending) (w' : World) : Prop :=
  Below w.heap.size w w' ∧ match o with
    | some (ns', bs') => ∃ (A' : Option Addr) (n' c' : Nat) (B' : Option Addr) (m' d' : Nat), e = .returned (.tuple #[.agg #[.int .i64 V, .slice A' n' c', .slice B' m' d'], .bool true]) ∧ OwnF 34 w.heap.size w' A' n' c' ns' ∧ OwnI 2 w.heap.size w' B' m' d' bs'
    | none => e = .returned (.tuple #[.agg #[.int .i64 0, .slice none 0 0, .slice none 0 0], .bool false])
set_option maxRecDepth 100000 in
set_option maxHeartbeats 4000000 in
theorem pivot_any (V : Nat) (A : Option Addr) (n c : Nat) (ns : List Nat) (B : Option Addr) (m d : Nat) (bs : List Int) (r cc : Nat) (w : World) (hN : FltsAt w A n ns) (hB : IntsAt w B m bs) (hV : 1 ≤ V ∧ V ≤ 8) (hm : 1 ≤ m ∧ m ≤ 8) (hn : n = (m + 1) * (V + m + 1)) (hr : r < m) (hcc : cc < V + m) :
    Calls Try.prog 41 #[.agg #[.int .i64 V, .slice A n c, .slice B m d], .int .i64 r, .int .i64 cc] w (RetPivZ V (pivT V ns bs r cc) w) := by
  have hbd : n ≤ 153 := by rw [hn]; exact Nat.mul_le_mul (show m + 1 ≤ 9 by omega) (show V + m + 1 ≤ 17 by omega)
  have hpos : 0 < n := by rw [hn]; exact Nat.mul_pos (by omega) (by omega)
  have HLB := Lib.hid hB.len
  have HLN := Lib.hid hN.len
  have HAT := Lib.hid (fun i k (w : World) hN hi hk => tat_any V A n c ns B m d i k w hN hV.2 hm.2 hn hi hk)
  have HWC := Lib.hid (fun (w : World) => wide_any V A n c B m d w hV.2 hm.2)
  have HPZ := Lib.hid (fun h => pivT_zero (V := V) (ns := ns) (bs := bs) (r := r) (c := cc) h)
  have HPO := Lib.hid (fun h xs hx => pivT_of (V := V) (ns := ns) (bs := bs) (r := r) (c := cc) h hV (by rw [HLB.out]; exact hm) (xs := xs) hx)
  rw [HLB.out] at HPZ HPO
  have hlo : ∀ ad, A = some ad → ad.block < w.heap.size := fun ad ha => by
    obtain ⟨ad', e, h2, _⟩ := hN.at_ hpos
    rw [ha] at e; injection e with e; subst e; exact h2
  have HLO := Lib.hid hlo
  obtain ⟨Wd, hWd⟩ : ∃ Wd : Nat, V + m + 1 = Wd := ⟨_, rfl⟩
  have hccW : cc < Wd := by omega
  have hWb : Wd ≤ 17 := by omega
  rw [hWd] at hn HAT HWC HPZ HPO
  have HCI := Lib.hid (fun (i k : Nat) (hi : i < m + 1) (hk : k < Wd) => (show i * Wd + k < n by rw [hn]; exact cell_lt hi hk))
  have HCE := Lib.hid (fun (i : Nat) (hi : i < m + 1) => (show i * Wd + Wd ≤ n by rw [hn, ← Nat.succ_mul]; exact Nat.mul_le_mul_right _ hi))
  have HNM := Lib.hid hn
  obtain ⟨P, hP⟩ : ∃ P : Nat, r * Wd = P := ⟨_, rfl⟩
  have HP := Lib.hid hP
  have hPm : (r : Int) * (Wd : Int) = (P : Int) := by rw [← hP]; push_cast; rfl
  have hPe : P + Wd ≤ n := by rw [← hP]; exact HCE.out r (by omega)
  have hPw : IntKind.i64.wrap (P : Int) = (P : Int) := IntWalk.i64_in _ (by omega)
  clear hn hP hlo hWd
  obtain ⟨W0, hW0⟩ : ∃ W0, W0 = (w.alloc (.cells #[.int .i64 V, .slice A n c, .slice B m d] 27)).alloc (.cells #[.int .i64 0, .slice none 0 0, .slice none 0 0] 27) := ⟨_, rfl⟩
  have KT := Lib.hid (show Blk W0 w.heap.size 27 #[.int .i64 V, .slice A n c, .slice B m d] by rw [hW0]; exact (Blk.new w _ _).alloc _)
  have KR := Lib.hid (show Blk W0 (w.heap.size + 1) 27 #[.int .i64 0, .slice none 0 0, .slice none 0 0] by
    rw [hW0]
    have h := Blk.new (w.alloc (.cells #[.int .i64 V, .slice A n c, .slice B m d] 27)) 27 #[.int .i64 0, .slice none 0 0, .slice none 0 0]
    simp only [World.size_alloc] at h
    exact h)
  have hW : Below w.heap.size w W0 := by rw [hW0]; exact ((Below.refl _ _).alloc (Nat.le_refl _) _).alloc (by simp) _
  have HN0 := Lib.hid (hN.below hW)
  have HB0 := Lib.hid (hB.below hW)
  have p0 := KT.out.cell 0
  have p1 := KT.out.cell 1
  have p2 := KT.out.cell 2
  rw [hW0] at p0 p1 p2
  have HW0 := Lib.hid hW0
  clear hN hB hW0
  go_enter Try.func41, Try.ntmps41
  go_wp2_with fail
  rw [← HW0.out]
  clear p0 p1 p2 HW0
  refine (HAT.out r cc W0 HN0.out (by omega) hccW).mono ?_
  rintro e W ⟨rfl, b1⟩
  have KT1 := Lib.hid (KT.out.ext b1)
  have KR1 := Lib.hid (KR.out.ext b1)
  have HN1 := Lib.hid (HN0.out.below b1)
  have HB1 := Lib.hid (HB0.out.below b1)
  have hW1 := below_ext hW hW.size b1
  clear KT KR HN0 HB0 hW b1
  have HFP := Lib.hid (show absK .f32 (ns.getD (P + cc) 0) = fC ns Wd r cc by unfold fC; rw [HP.out])
  rw [HP.out]
  generalize ns.getD (P + cc) 0 = p at *
  have HO := Lib.hid (show (FloatKind.f32.format.order p 0 == some .eq) = (ford .f32 (fC ns Wd r cc) (some 0) == some .eq) by rw [ford_abs, abs0, HFP.out])
  cases hz : (FloatKind.f32.format.order p 0 == some .eq)
  · have HPO2 := Lib.hid (HPO.out (by rw [← HO.out]; exact hz))
    go_upto_region 4 with (fail)
    have HKC := Lib.hid (fun (W' : World) (hW : Below W.heap.size W W') => (show W'.cell? ⟨w.heap.size, 0, none⟩ = some (.int .i64 V) ∧ W'.cell? ⟨w.heap.size, 1, none⟩ = some (.slice A n c) ∧ W'.cell? ⟨w.heap.size, 2, none⟩ = some (.slice B m d) from ⟨(KT1.out.ext hW).cell 0, (KT1.out.ext hW).cell 1, (KT1.out.ext hW).cell 2⟩))
    have B0 := Lib.hid (Below.drew (Below.refl W.heap.size W))
    have BX := Lib.hid (((Below.refl W.heap.size W).alloc (Nat.le_refl _) (.cells #[.int .i64 0, .slice none 0 0, .slice none 0 0] 27)).drew)
    have KX0 := Lib.hid (show Blk (W.alloc (.cells #[.int .i64 0, .slice none 0 0, .slice none 0 0] 27)).drew W.heap.size 27 #[.int .i64 0, .slice none 0 0, .slice none 0 0] from Blk.new W _ _)
    go_cut [9] (fun sx wx => ∃ (gO gN c' gB d' : Nat), sx = .pointer (some ⟨gO, 0, none⟩) ∧ Blk wx gO 27 #[.int .i64 V, .slice (some ⟨gN, 0, none⟩) n c', .slice (some ⟨gB, 0, none⟩) m d'] ∧ OwnF 34 W.heap.size wx (some ⟨gN, 0, none⟩) n c' ns ∧ OwnI 2 W.heap.size wx (some ⟨gB, 0, none⟩) m d' bs ∧ Below W.heap.size W wx)
    case first =>
      go_region_held3 (fun w' => w'.cell? ⟨w.heap.size, 0, none⟩ = some (.int .i64 V) ∧ w'.cell? ⟨w.heap.size, 1, none⟩ = some (.slice A n c) ∧ w'.cell? ⟨w.heap.size, 2, none⟩ = some (.slice B m d))
        (first
          | exact HKC.out _ B0.out
          | exact HKC.out _ BX.out
          | exact HKC.out _ HB5.out
          | exact HKC.out _ HB6.out
          | exact HKC.out _ (HB5.out.alloc HB5.out.size _)
          | exact HKC.out _ (HB6.out.alloc HB6.out.size _)
          | exact HKC.out _ (((HB5.out.setCell (p := ⟨W.heap.size, 0, none⟩) (Nat.le_refl _) _).setCell (p := ⟨W.heap.size, 1, none⟩) (Nat.le_refl _) _).setCell (p := ⟨W.heap.size, 2, none⟩) (Nat.le_refl _) _)
          | exact HKC.out _ (((HB5.out.setCell (p := ⟨w5.heap.size, 0, none⟩) HB5.out.size _).setCell (p := ⟨w5.heap.size, 1, none⟩) HB5.out.size _).setCell (p := ⟨w5.heap.size, 2, none⟩) HB5.out.size _)
          | exact HKC.out _ (((HB5.out.setCell (p := ⟨w6.heap.size, 0, none⟩) HB6.out.size _).setCell (p := ⟨w6.heap.size, 1, none⟩) HB6.out.size _).setCell (p := ⟨w6.heap.size, 2, none⟩) HB6.out.size _)
          | exact HKC.out _ (((HB6.out.setCell (p := ⟨W.heap.size, 0, none⟩) (Nat.le_refl _) _).setCell (p := ⟨W.heap.size, 1, none⟩) (Nat.le_refl _) _).setCell (p := ⟨W.heap.size, 2, none⟩) (Nat.le_refl _) _)
          | exact HKC.out _ (((HB6.out.setCell (p := ⟨w5.heap.size, 0, none⟩) HB5.out.size _).setCell (p := ⟨w5.heap.size, 1, none⟩) HB5.out.size _).setCell (p := ⟨w5.heap.size, 2, none⟩) HB5.out.size _)
          | exact HKC.out _ (((HB6.out.setCell (p := ⟨w6.heap.size, 0, none⟩) HB6.out.size _).setCell (p := ⟨w6.heap.size, 1, none⟩) HB6.out.size _).setCell (p := ⟨w6.heap.size, 2, none⟩) HB6.out.size _))
        (first
          | (go_at_call 51; refine (copyNumbers_any A n c ns _ (HN1.out.below (HB6.out.alloc HB6.out.size (.cells #[.int .i64 0, .slice none 0 0, .slice none 0 0] 27))) (by omega)).mono ?_; rintro e w5 ⟨A5, c5, rfl, o5, b5⟩; obtain ⟨g5, rfl, _⟩ := o5.pos hpos; have HB5 := Lib.hid (below_ext (HB6.out.alloc HB6.out.size (.cells #[.int .i64 0, .slice none 0 0, .slice none 0 0] 27)) (HB6.out.alloc HB6.out.size (.cells #[.int .i64 0, .slice none 0 0, .slice none 0 0] 27)).size b5); have HO5 := Lib.hid (OwnF.low o5 (HB6.out.alloc HB6.out.size (.cells #[.int .i64 0, .slice none 0 0, .slice none 0 0] 27)).size); have HO6f := Lib.hid ((HO6.out.alloc (.cells #[.int .i64 0, .slice none 0 0, .slice none 0 0] 27)).below b5); have HKB5 := Lib.hid ((Blk.new w6 27 #[.int .i64 0, .slice none 0 0, .slice none 0 0]).ext b5); have r0 := HKB5.out.cell 0; have r1 := HKB5.out.cell 1; have r2 := HKB5.out.cell 2; have f0 := HKB5.out.free 0; have f1 := HKB5.out.free 1; have f2 := HKB5.out.free 2; clear o5 b5)
          | (go_at_call 51; refine (copyNumbers_any A n c ns _ (HN1.out.below HB6.out) (by omega)).mono ?_; rintro e w5 ⟨A5, c5, rfl, o5, b5⟩; obtain ⟨g5, rfl, _⟩ := o5.pos hpos; have HB5 := Lib.hid (below_ext HB6.out HB6.out.size b5); have HO5 := Lib.hid (OwnF.low o5 HB6.out.size); have HO6f := Lib.hid (HO6.out.below b5); have HKB5 := Lib.hid (HKB6.out.ext b5); clear r0 r1 r2 f0 f1 f2; have r0 := HKB5.out.cell 0; have r1 := HKB5.out.cell 1; have r2 := HKB5.out.cell 2; have f0 := HKB5.out.free 0; have f1 := HKB5.out.free 1; have f2 := HKB5.out.free 2; clear o5 b5)
          | (go_at_call 51; refine (copyNumbers_any A n c ns _ (HN1.out.below HB6.out) (by omega)).mono ?_; rintro e w5 ⟨A5, c5, rfl, o5, b5⟩; obtain ⟨g5, rfl, _⟩ := o5.pos hpos; have HB5 := Lib.hid (below_ext HB6.out HB6.out.size b5); have HO5 := Lib.hid (OwnF.low o5 HB6.out.size); have HO6f := Lib.hid (HO6.out.below b5); clear o5 b5)
          | (go_at_call 51; refine (copyNumbers_any A n c ns _ (HN1.out.below BX.out) (by omega)).mono ?_; rintro e w5 ⟨A5, c5, rfl, o5, b5⟩; obtain ⟨g5, rfl, _⟩ := o5.pos hpos; have HB5 := Lib.hid (below_ext BX.out BX.out.size b5); have HO5 := Lib.hid (OwnF.low o5 BX.out.size); have HKB5 := Lib.hid (KX0.out.ext b5); have r0 := HKB5.out.cell 0; have r1 := HKB5.out.cell 1; have r2 := HKB5.out.cell 2; have f0 := HKB5.out.free 0; have f1 := HKB5.out.free 1; have f2 := HKB5.out.free 2; clear o5 b5)
          | (go_at_call 51; refine (copyNumbers_any A n c ns _ (HN1.out.below B0.out) (by omega)).mono ?_; rintro e w5 ⟨A5, c5, rfl, o5, b5⟩; obtain ⟨g5, rfl, _⟩ := o5.pos hpos; have HB5 := Lib.hid (below_ext B0.out B0.out.size b5); have HO5 := Lib.hid (OwnF.low o5 B0.out.size); clear o5 b5)
          | (go_at_call 52; refine (copyInts_t B m d bs _ (HB1.out.below (HB5.out.alloc HB5.out.size (.cells #[.int .i64 0, .slice none 0 0, .slice none 0 0] 27))) (by omega)).mono ?_; rintro e w6 ⟨A6, c6, rfl, o6, b6⟩; obtain ⟨g6, rfl, _⟩ := o6.pos (by omega); have HB6 := Lib.hid (below_ext (HB5.out.alloc HB5.out.size (.cells #[.int .i64 0, .slice none 0 0, .slice none 0 0] 27)) (HB5.out.alloc HB5.out.size (.cells #[.int .i64 0, .slice none 0 0, .slice none 0 0] 27)).size b6); have HO6 := Lib.hid (OwnI.low o6 (HB5.out.alloc HB5.out.size (.cells #[.int .i64 0, .slice none 0 0, .slice none 0 0] 27)).size); have HO5f := Lib.hid ((HO5.out.alloc (.cells #[.int .i64 0, .slice none 0 0, .slice none 0 0] 27)).below b6); have HKB6 := Lib.hid ((Blk.new w5 27 #[.int .i64 0, .slice none 0 0, .slice none 0 0]).ext b6); have r0 := HKB6.out.cell 0; have r1 := HKB6.out.cell 1; have r2 := HKB6.out.cell 2; have f0 := HKB6.out.free 0; have f1 := HKB6.out.free 1; have f2 := HKB6.out.free 2; clear o6 b6)
          | (go_at_call 52; refine (copyInts_t B m d bs _ (HB1.out.below HB5.out) (by omega)).mono ?_; rintro e w6 ⟨A6, c6, rfl, o6, b6⟩; obtain ⟨g6, rfl, _⟩ := o6.pos (by omega); have HB6 := Lib.hid (below_ext HB5.out HB5.out.size b6); have HO6 := Lib.hid (OwnI.low o6 HB5.out.size); have HO5f := Lib.hid (HO5.out.below b6); have HKB6 := Lib.hid (HKB5.out.ext b6); clear r0 r1 r2 f0 f1 f2; have r0 := HKB6.out.cell 0; have r1 := HKB6.out.cell 1; have r2 := HKB6.out.cell 2; have f0 := HKB6.out.free 0; have f1 := HKB6.out.free 1; have f2 := HKB6.out.free 2; clear o6 b6)
          | (go_at_call 52; refine (copyInts_t B m d bs _ (HB1.out.below HB5.out) (by omega)).mono ?_; rintro e w6 ⟨A6, c6, rfl, o6, b6⟩; obtain ⟨g6, rfl, _⟩ := o6.pos (by omega); have HB6 := Lib.hid (below_ext HB5.out HB5.out.size b6); have HO6 := Lib.hid (OwnI.low o6 HB5.out.size); have HO5f := Lib.hid (HO5.out.below b6); clear o6 b6)
          | (go_at_call 52; refine (copyInts_t B m d bs _ (HB1.out.below BX.out) (by omega)).mono ?_; rintro e w6 ⟨A6, c6, rfl, o6, b6⟩; obtain ⟨g6, rfl, _⟩ := o6.pos (by omega); have HB6 := Lib.hid (below_ext BX.out BX.out.size b6); have HO6 := Lib.hid (OwnI.low o6 BX.out.size); have HKB6 := Lib.hid (KX0.out.ext b6); have r0 := HKB6.out.cell 0; have r1 := HKB6.out.cell 1; have r2 := HKB6.out.cell 2; have f0 := HKB6.out.free 0; have f1 := HKB6.out.free 1; have f2 := HKB6.out.free 2; clear o6 b6)
          | (go_at_call 52; refine (copyInts_t B m d bs _ (HB1.out.below B0.out) (by omega)).mono ?_; rintro e w6 ⟨A6, c6, rfl, o6, b6⟩; obtain ⟨g6, rfl, _⟩ := o6.pos (by omega); have HB6 := Lib.hid (below_ext B0.out B0.out.size b6); have HO6 := Lib.hid (OwnI.low o6 B0.out.size); clear o6 b6))
      all_goals
        go_wp2_with fail
        go_meet
        first
          | exact ⟨_, _, _, _, _, rfl, Blk.new w6 _ _, HO5f.out.alloc _, HO6.out.alloc _, HB6.out.alloc HB6.out.size _⟩
          | exact ⟨_, _, _, _, _, rfl, Blk.new w5 _ _, HO5.out.alloc _, HO6f.out.alloc _, HB5.out.alloc HB5.out.size _⟩
          | exact box_filled2 HKB6.out HO5f.out HO6.out (Nat.le_refl _) HB6.out
          | exact box_filled2 HKB6.out HO5f.out HO6.out HB5.out.size HB6.out
          | exact box_filled2 HKB6.out HO5f.out HO6.out HB6.out.size HB6.out
          | exact box_filled2 HKB5.out HO5.out HO6f.out (Nat.le_refl _) HB5.out
          | exact box_filled2 HKB5.out HO5.out HO6f.out HB5.out.size HB5.out
          | exact box_filled2 HKB5.out HO5.out HO6f.out HB6.out.size HB5.out
    case rest =>
      obtain ⟨gO, gN, c', gB, d', rfl, kO, oN, oB, bO⟩ := hcut
      have HS1 := Lib.hid (show PivSt w.heap.size w.heap.size (w.heap.size + 1) gO V A n c ns B m d gN c' gB d' w wc ns bs from ⟨KT1.out.ext bO, KR1.out.ext bO, kO, HN1.out.below bO, OwnF.low oN hW1.size, OwnI.low oB hW1.size, HLO.out, below_ext hW1 hW1.size bO⟩)
      clear kO oN oB bO KT1 KR1 HN1 HB1 hW1 HKC B0 BX KX0
      have p0 := HS1.out.kx.cell 0
      have p1 := HS1.out.kx.cell 1
      have p2 := HS1.out.kx.cell 2
      go_wp2_with fail
      refine (HWC.out _).mono ?_
      rintro e w2 ⟨rfl, b2⟩
      have HS2 := Lib.hid (HS1.out.ext b2 HS1.out.bl.size)
      clear p0 p1 p2 b2 HS1
      obtain ⟨hc1, hc2⟩ := HS2.out.oN.cap2P
      have hc3 : c' ≤ 9223372036854775807 := hc2
      obtain ⟨E, hE⟩ : ∃ E : Nat, P + Wd = E := ⟨_, rfl⟩
      have HEP := Lib.hid (show E - P = Wd by omega)
      have hEm : ((r : Int) + 1) * (Wd : Int) = (E : Int) := by rw [Int.add_mul, hPm, Int.one_mul]; omega
      have hEw : IntKind.i64.wrap (E : Int) = (E : Int) := IntWalk.i64_in _ (by omega)
      have hrw : IntKind.i64.wrap ((r : Int) + 1) = (r : Int) + 1 := IntWalk.i64_in _ (by omega)
      have hPE : P ≤ E := by omega
      have hEc : E ≤ c' := by omega
      have hPEi : (P : Int) ≤ (E : Int) := by omega
      have hEci : (E : Int) ≤ (c' : Int) := by omega
      have hP0 : (0 : Int) ≤ (P : Int) := by omega
      have p1 := HS2.out.ko.cell 1
      clear hE
      go_upto_region 7 with (fail)
      all_goals first | (exfalso; omega) | skip
      rw [HEP.out]
      clear p1 hPEi hEci hPE hEc hc3 hc1 hc2 hEm hEw
      have HX0 := Lib.hid (g1_zero (r := r) (c := cc) (Cells.of ns (m + 1) Wd (by rw [HLN.out, HNM.out])))
      have hst := run_store_f
      go_wp2_with fail
      go_loopg [47] Wd (fun rr iv wi => ∃ (k : Nat) (xs : List Nat), rr = Wd - k ∧ k ≤ Wd ∧ iv = .int .i64 k ∧ Hid (PivSt w.heap.size w.heap.size (w.heap.size + 1) gO V A n c ns B m d gN c' gB d' w wi xs bs) ∧ Hid (Cells xs (m + 1) Wd (g1C (fC ns Wd) r cc k)))
      case atStart => exact ⟨0, ns, rfl, Nat.zero_le _, rfl, HS2, HX0⟩
      case round =>
        obtain ⟨k, xs, hr', hk, rfl, HS, HX⟩ := hrel
        have HRK := Lib.hid hr'
        clear hr' HS2 HX0
        by_cases hlt : k < Wd
        · have hlt' : (k : Int) < (Wd : Int) := by omega
          have hJn : P + k < n := by omega
          have cJ := HS.out.oN.cell hJn
          have fJ := HS.out.oN.free (P + k)
          have HA := Lib.hid (show absK .f32 (xs.getD (P + k) 0) = fC ns Wd r k by have h9 := g1_at HX.out (show r < m + 1 by omega) hlt; rw [HP.out] at h9; exact h9)
          generalize xs.getD (P + k) 0 = x at *
          go_wp2_with (refine wp_fop _ rfl .quo _ _ _ _ rfl rfl .f32 x p rfl rfl ?_; intro b w9 hb9 hlt9 hd9; obtain ⟨q9, rfl⟩ := hd9; have HB9 := Lib.hid hb9; clear hb9)
          have HX9 := Lib.hid (show Cells (xs.set (P + k) b) (m + 1) Wd (g1C (fC ns Wd) r cc (k + 1)) by have h9 := g1_step (b := b) HX.out (show r < m + 1 by omega) hlt (by rw [HB9.out, HA.out, HFP.out]); rw [HP.out] at h9; exact h9)
          go_roundg (Wd - (k + 1))
          case measure => rw [HRK.out]; omega
          case rel => exact ⟨k + 1, _, rfl, by omega, by go_num, Lib.hid ((HS.out.drewN q9).set (P + k) b), HX9⟩
        · have e : k = Wd := by omega
          have HXE := Lib.hid (show Cells xs (m + 1) Wd (g1C (fC ns Wd) r cc Wd) by have h9 := HX.out; rw [e] at h9; exact h9)
          have hkg : ¬ ((k : Int) < (Wd : Int)) := by omega
          clear e hk HX
          have hccWi : (cc : Int) < (Wd : Int) := by omega
          have hJn : P + cc < n := by omega
          have cJ := HS.out.oN.cell hJn
          have fJ := HS.out.oN.free (P + cc)
          generalize xs.getD (P + cc) 0 = y0 at *
          have HS5 := Lib.hid (HS.out.set (P + cc) 1065353216)
          have HX5 := Lib.hid (show Cells (xs.set (P + cc) 1065353216) (m + 1) Wd (s1C (fC ns Wd) r cc 0) by have h9 := s1_zero HXE.out (by omega) hccW; rw [HP.out] at h9; exact h9)
          clear HS HXE
          go_wp2_with fail
          generalize wr.setCell ⟨gN, P + cc, none⟩ (.float .f32 1065353216) = W5 at *
          generalize xs.set (P + cc) 1065353216 = xs5 at *
          clear cJ fJ hkg
          go_loopg [13] (m + 1) (fun rr iv wi => ∃ (i : Nat) (xs : List Nat), rr = m + 1 - i ∧ i ≤ m + 1 ∧ iv = .int .i64 i ∧ Hid (PivSt w.heap.size w.heap.size (w.heap.size + 1) gO V A n c ns B m d gN c' gB d' w wi xs bs) ∧ Hid (Cells xs (m + 1) Wd (s1C (fC ns Wd) r cc i)))
          case atStart => exact ⟨0, xs5, rfl, Nat.zero_le _, rfl, HS5, HX5⟩
          case round =>
            obtain ⟨i, ys, hr', hi, rfl, HSi, HXi⟩ := hrel
            have HRI := Lib.hid hr'
            clear hr' HS5 HX5
            obtain ⟨wo, hwo⟩ : ∃ x, x = wr := ⟨_, rfl⟩
            rw [← hwo]
            rw [← hwo] at HSi
            clear hwo
            have p2 := HSi.out.kx.cell 2
            by_cases hilt : i < m + 1
            · have hilt' : (i : Int) ≤ (m : Int) := by omega
              by_cases hir : i = r
              · have d1 : ((i : Int) == (r : Int)) = true := by rw [hir]; simp
                have HX6 := Lib.hid (show Cells ys (m + 1) Wd (s1C (fC ns Wd) r cc (i + 1)) by have h9 := HXi.out; rw [hir] at h9 ⊢; exact s1_skip h9)
                clear hir
                go_wp2_with fail
                go_roundg (m + 1 - (i + 1))
                case measure => rw [HRI.out]; omega
                case rel => exact ⟨i + 1, _, rfl, by omega, by go_num, HSi, HX6⟩
              · have d1 : ((i : Int) == (r : Int)) = false := by rw [beq_eq_false_iff_ne]; omega
                have HIR := Lib.hid hir
                clear hir
                obtain ⟨hc1, hc2⟩ := HSi.out.oN.cap2P
                have hc3 : c' ≤ 9223372036854775807 := hc2
                obtain ⟨Q, hQ⟩ : ∃ Q : Nat, i * Wd = Q := ⟨_, rfl⟩
                have HQQ := Lib.hid hQ
                have hQm : (i : Int) * (Wd : Int) = (Q : Int) := by rw [← hQ]; push_cast; rfl
                have hQe : Q + Wd ≤ n := by rw [← hQ]; exact HCE.out i hilt
                have hQw : IntKind.i64.wrap (Q : Int) = (Q : Int) := IntWalk.i64_in _ (by omega)
                obtain ⟨E2, hE2⟩ : ∃ E : Nat, Q + Wd = E := ⟨_, rfl⟩
                have HEQ := Lib.hid (show E2 - Q = Wd by omega)
                have hEm2 : ((i : Int) + 1) * (Wd : Int) = (E2 : Int) := by rw [Int.add_mul, hQm, Int.one_mul]; omega
                have hEw2 : IntKind.i64.wrap (E2 : Int) = (E2 : Int) := IntWalk.i64_in _ (by omega)
                have hiw : IntKind.i64.wrap ((i : Int) + 1) = (i : Int) + 1 := IntWalk.i64_in _ (by omega)
                have hQE : Q ≤ E2 := by omega
                have hEc2 : E2 ≤ c' := by omega
                have hQEi : (Q : Int) ≤ (E2 : Int) := by omega
                have hEci2 : (E2 : Int) ≤ (c' : Int) := by omega
                have hQ0 : (0 : Int) ≤ (Q : Int) := by omega
                have p1 := HSi.out.ko.cell 1
                have hQcc : Q + cc < n := by omega
                have cI := HSi.out.oN.cell hQcc
                have HFI := Lib.hid (show absK .f32 (ys.getD (Q + cc) 0) = fC ns Wd i cc by have h9 := s1_at HXi.out hilt hccW HIR.out; rw [hQ] at h9; exact h9)
                generalize ys.getD (Q + cc) 0 = fi at *
                clear hE2 hQ
                go_upto_region 18 with (fail)
                all_goals first | (exfalso; omega) | skip
                rw [HEQ.out]
                clear p1 hQEi hEci2 hQE hEc2 hc1 hc2 hc3 hEm2 hEw2 hiw p2
                have HX6 := Lib.hid (s2_zero HXi.out)
                have HS6 := HSi
                go_wp2_with fail
                clear HSi HXi cI
                go_loopg [87] Wd (fun rr iv wi => ∃ (k : Nat) (xs : List Nat), rr = Wd - k ∧ k ≤ Wd ∧ iv = .int .i64 k ∧ Hid (PivSt w.heap.size w.heap.size (w.heap.size + 1) gO V A n c ns B m d gN c' gB d' w wi xs bs) ∧ Hid (Cells xs (m + 1) Wd (s2C (fC ns Wd) r cc i k)))
                case atStart => exact ⟨0, ys, rfl, Nat.zero_le _, rfl, HS6, HX6⟩
                case round =>
                  obtain ⟨k, xs, hr', hk, rfl, HS, HX⟩ := hrel
                  have HRK := Lib.hid hr'
                  clear hr' HS6 HX6
                  obtain ⟨wo2, hwo⟩ : ∃ x, x = wr := ⟨_, rfl⟩
                  rw [← hwo]
                  rw [← hwo] at HS
                  clear hwo
                  by_cases hlt : k < Wd
                  · have hlt' : (k : Int) < (Wd : Int) := by omega
                    have hJ1n : P + k < n := by omega
                    have hJ2n : Q + k < n := by omega
                    have HNE := Lib.hid (show Q + k ≠ P + k from fun e => HIR.out (cell_inj hlt hlt (by rw [HP.out, HQQ.out, e])).1)
                    have c1 := HS.out.oN.cell hJ1n
                    have c2 := HS.out.oN.cell hJ2n
                    have f2 := HS.out.oN.free (Q + k)
                    have HY := Lib.hid (show absK .f32 (xs.getD (P + k) 0) = ownC (fC ns Wd) r cc k by have h9 := s2_own HX.out (show r < m + 1 by omega) hlt HIR.out; rw [HP.out] at h9; exact h9)
                    have HXX := Lib.hid (show absK .f32 (xs.getD (Q + k) 0) = fC ns Wd i k by have h9 := s2_at HX.out hilt hlt HIR.out; rw [HQQ.out] at h9; exact h9)
                    have HKS := Lib.hid (fun (q b : Nat) => show ((wo2.drewN q).setCell ⟨gN, Q + k, none⟩ (.float .f32 b)).cell? ⟨gN, P + k, none⟩ = some (.float .f32 (xs.getD (P + k) 0)) ∧ ((wo2.drewN q).setCell ⟨gN, Q + k, none⟩ (.float .f32 b)).frozen? ⟨gN, Q + k, none⟩ = false from ⟨by have h9 := ((HS.out.drewN q).set (Q + k) b).oN.cell hJ1n; rw [getD_set_neN xs b HNE.out] at h9; exact h9, ((HS.out.drewN q).set (Q + k) b).oN.free _⟩)
                    obtain ⟨y, hy⟩ : ∃ y, xs.getD (P + k) 0 = y := ⟨_, rfl⟩
                    rw [hy] at c1 HY HKS
                    obtain ⟨x, hx⟩ : ∃ x, xs.getD (Q + k) 0 = x := ⟨_, rfl⟩
                    rw [hx] at c2 HXX
                    have HQ := Lib.hid (show subC (fC ns Wd) r cc i k = fop .sub .f32 (absK .f32 x) (floatBits .mul .f32 fi y) by unfold subC; rw [← HY.out, ← HFI.out, fop_abs, HXX.out])
                    have HST := Lib.hid (fun (q b : Nat) (hb : absK .f32 b = subC (fC ns Wd) r cc i k) => And.intro ((HS.out.drewN q).set (Q + k) b) (show Cells (xs.set (Q + k) b) (m + 1) Wd (s2C (fC ns Wd) r cc i (k + 1)) by have h9 := s2_step HX.out hilt hlt hb; rw [HQQ.out] at h9; exact h9))
                    clear hx hy
                    cases hmu : floatBits .mul .f32 fi y with
                    | some a =>
                      have hrm := fun W => run_fsome (P := Try.prog) .mul 34 fi y a hmu W
                      have HQ2 := Lib.hid (show subC (fC ns Wd) r cc i k = floatBits .sub .f32 x a by rw [HQ.out, hmu, ← fop_abs, absK_of (floatBits_no hmu)])
                      clear hmu
                      cases hsu : floatBits .sub .f32 x a with
                      | some b =>
                        have hrs := fun W => run_fsome (P := Try.prog) .sub 34 x a b hsu W
                        have HV := Lib.hid (show absK .f32 b = subC (fC ns Wd) r cc i k by rw [HQ2.out, hsu]; exact absK_of (floatBits_no hsu))
                        clear hsu
                        go_upto_region 22 with (fail)
                        refine wp_region_noPanic ?_
                        refine wp_region_held_drew (S := (fun w' => w'.cell? ⟨gN, P + k, none⟩ = some (.float .f32 y))) (by kernel_rfl) ?_ (fun hHeld => ?_)
                        · (try dsimp only); first | exact c1 | exact (HKS.out 2 ((Question.nanBits .f32 x a).cut _)).1 | exact (HKS.out 3 ((Question.nanBits .f32 x ((Question.nanBits .f32 fi y).cut _)).cut _)).1 | exact (HKS.out _ _).1
                        refine wpAnyH_take (i := 0) (oi := _) (v := ?_) rfl (by kernel_rfl) (by kernel_rfl) (by kernel_rfl) (fun _ _ _ h => h) (Or.inl ⟨by rfl, ?_⟩) (by assumption) ?_
                        rotate_left
                        · (intro w hSw; (try dsimp only at hSw); go_simp; try (with_reducible rfl))
                        try go_frame
                        refine wpAnyH_take (i := 1) (oi := _) (v := ?_) rfl (by kernel_rfl) (by kernel_rfl) (by kernel_rfl) (fun _ _ _ h => h) (Or.inl ⟨by rfl, ?_⟩) (by assumption) ?_
                        rotate_left
                        · (intro w hSw; (try dsimp only at hSw); go_simp; try (with_reducible rfl))
                        try go_frame
                        refine wpAnyH_take (i := 2) (oi := _) (v := ?_) rfl (by kernel_rfl) (by kernel_rfl) (by kernel_rfl) (fun _ _ _ h => h) (Or.inl ⟨by rfl, ?_⟩) (by assumption) ?_
                        rotate_left
                        · (intro w hSw; (try dsimp only at hSw); go_simp; try (with_reducible rfl))
                        try go_frame
                        refine wpAnyH_take (i := 4) (oi := _) (v := ?_) rfl (by kernel_rfl) (by kernel_rfl) (by kernel_rfl) (fun _ _ _ h => h) (Or.inl ⟨by rfl, ?_⟩) (by assumption) ?_
                        rotate_left
                        · (intro w hSw; (try dsimp only at hSw); go_simp; try (with_reducible rfl))
                        try go_frame
                        refine wpAnyH_take (i := 5) (oi := _) (v := ?_) rfl (by kernel_rfl) (by kernel_rfl) (by kernel_rfl) (fun _ _ _ h => h) (Or.inl ⟨by rfl, ?_⟩) (by assumption) ?_
                        rotate_left
                        · (intro w hSw; (try dsimp only at hSw); go_simp; try (with_reducible rfl))
                        try go_frame
                        refine wpAnyH_take (i := 6) (oi := _) (v := ?_) rfl (by kernel_rfl) (by kernel_rfl) (by kernel_rfl) (fun _ _ _ h => h) (Or.inl ⟨by rfl, ?_⟩) (by assumption) ?_
                        rotate_left
                        · (intro w hSw; (try dsimp only at hSw); go_simp; try (with_reducible rfl))
                        try go_frame
                        refine wpAnyH_take (i := 7) (oi := _) (v := ?_) rfl (by kernel_rfl) (by kernel_rfl) (by kernel_rfl) (fun _ _ _ h => h) (Or.inl ⟨by rfl, ?_⟩) (by assumption) ?_
                        rotate_left
                        · (intro w hSw; (try dsimp only at hSw); go_simp; try (with_reducible rfl))
                        try go_frame
                        refine wpAnyH_take (i := 8) (oi := _) (v := ?_) rfl (by kernel_rfl) (by kernel_rfl) (by kernel_rfl) (fun _ _ _ h => h) (Or.inl ⟨by rfl, ?_⟩) (by assumption) ?_
                        rotate_left
                        · (intro w hSw; (try dsimp only at hSw); go_simp; try (with_reducible rfl))
                        try go_frame
                        refine wpAnyH_take (i := 9) (oi := _) (v := ?_) rfl (by kernel_rfl) (by kernel_rfl) (by kernel_rfl) (fun _ _ _ h => h) (Or.inl ⟨by rfl, ?_⟩) (by assumption) ?_
                        rotate_left
                        · (intro w hSw; (try dsimp only at hSw); go_simp; try (with_reducible rfl))
                        try go_frame
                        refine wpAnyH_ready (rs := [3]) (by kernel_rfl) (by simp) ?_
                        refine AllReadyH.cons (o := _) rfl (fun K hK => ?_) ?_
                        · go_simp
                          refine hK.out _ _ ?_ (fun hHeld => ?_)
                          · (try dsimp only); first | exact c1 | exact (HKS.out 2 ((Question.nanBits .f32 x a).cut _)).1 | exact (HKS.out 3 ((Question.nanBits .f32 x ((Question.nanBits .f32 fi y).cut _)).cut _)).1 | exact (HKS.out _ _).1
                          · clear hK K
                            try go_frame
                            refine wpAnyH_take (i := 10) (oi := _) (v := ?_) rfl (by kernel_rfl) (by kernel_rfl) (by kernel_rfl) (fun _ _ _ h => h) (Or.inl ⟨by rfl, ?_⟩) (by assumption) ?_
                            rotate_left
                            · (intro w hSw; (try dsimp only at hSw); go_simp; try (with_reducible rfl))
                            try go_frame
                            refine wpAnyH_take (i := 11) (oi := _) (v := ?_) rfl (by kernel_rfl) (by kernel_rfl) (by kernel_rfl) (fun _ _ _ h => h) (Or.inl ⟨by rfl, ?_⟩) (by assumption) ?_
                            rotate_left
                            · (intro w hSw; (try dsimp only at hSw); go_simp; try (with_reducible rfl))
                            try go_frame
                            refine wpAnyH_ready (rs := [12]) (by kernel_rfl) (by simp) ?_
                            refine AllReadyH.cons (o := _) rfl (fun K hK => ?_) ?_
                            · go_simp
                              refine hK.out _ _ ?_ (fun hHeld => ?_)
                              · (try dsimp only); first | exact c1 | exact (HKS.out 2 ((Question.nanBits .f32 x a).cut _)).1 | exact (HKS.out 3 ((Question.nanBits .f32 x ((Question.nanBits .f32 fi y).cut _)).cut _)).1 | exact (HKS.out _ _).1
                              · clear hK K
                                try go_frame
                                refine wpAnyH_done (by kernel_rfl) ?_ _
                                refine NoPanic.normal ?_
                                go_wp2_with fail
                                go_roundg (Wd - (k + 1))
                                case measure => rw [HRK.out]; omega
                                case rel => first | exact ⟨k + 1, _, rfl, by omega, by go_num, Lib.hid (HST.out (1) _ HV.out).1, Lib.hid (HST.out (1) _ HV.out).2⟩
                            exact AllReadyH.nil
                        exact AllReadyH.nil
                      | none =>
                        have hrs := fun W => run_fnone (P := Try.prog) .sub rfl 34 x a hsu W
                        have HV := Lib.hid (fun (t : Nat) => show absK .f32 ((Question.nanBits .f32 x a).cut t) = subC (fC ns Wd) r cc i k by rw [HQ2.out, hsu]; exact absK_nan (cut_nan _ _ _ _))
                        clear hsu
                        go_upto_region 22 with (fail)
                        refine wp_region_noPanic ?_
                        refine wp_region_held_drew (S := (fun w' => w'.cell? ⟨gN, P + k, none⟩ = some (.float .f32 y))) (by kernel_rfl) ?_ (fun hHeld => ?_)
                        · (try dsimp only); first | exact c1 | exact (HKS.out 2 ((Question.nanBits .f32 x a).cut _)).1 | exact (HKS.out 3 ((Question.nanBits .f32 x ((Question.nanBits .f32 fi y).cut _)).cut _)).1 | exact (HKS.out _ _).1
                        refine wpAnyH_take (i := 0) (oi := _) (v := ?_) rfl (by kernel_rfl) (by kernel_rfl) (by kernel_rfl) (fun _ _ _ h => h) (Or.inl ⟨by rfl, ?_⟩) (by assumption) ?_
                        rotate_left
                        · (intro w hSw; (try dsimp only at hSw); go_simp; try (with_reducible rfl))
                        try go_frame
                        refine wpAnyH_take (i := 1) (oi := _) (v := ?_) rfl (by kernel_rfl) (by kernel_rfl) (by kernel_rfl) (fun _ _ _ h => h) (Or.inl ⟨by rfl, ?_⟩) (by assumption) ?_
                        rotate_left
                        · (intro w hSw; (try dsimp only at hSw); go_simp; try (with_reducible rfl))
                        try go_frame
                        refine wpAnyH_take (i := 2) (oi := _) (v := ?_) rfl (by kernel_rfl) (by kernel_rfl) (by kernel_rfl) (fun _ _ _ h => h) (Or.inl ⟨by rfl, ?_⟩) (by assumption) ?_
                        rotate_left
                        · (intro w hSw; (try dsimp only at hSw); go_simp; try (with_reducible rfl))
                        try go_frame
                        refine wpAnyH_take (i := 4) (oi := _) (v := ?_) rfl (by kernel_rfl) (by kernel_rfl) (by kernel_rfl) (fun _ _ _ h => h) (Or.inl ⟨by rfl, ?_⟩) (by assumption) ?_
                        rotate_left
                        · (intro w hSw; (try dsimp only at hSw); go_simp; try (with_reducible rfl))
                        try go_frame
                        refine wpAnyH_take (i := 5) (oi := _) (v := ?_) rfl (by kernel_rfl) (by kernel_rfl) (by kernel_rfl) (fun _ _ _ h => h) (Or.inl ⟨by rfl, ?_⟩) (by assumption) ?_
                        rotate_left
                        · (intro w hSw; (try dsimp only at hSw); go_simp; try (with_reducible rfl))
                        try go_frame
                        refine wpAnyH_take (i := 6) (oi := _) (v := ?_) rfl (by kernel_rfl) (by kernel_rfl) (by kernel_rfl) (fun _ _ _ h => h) (Or.inl ⟨by rfl, ?_⟩) (by assumption) ?_
                        rotate_left
                        · (intro w hSw; (try dsimp only at hSw); go_simp; try (with_reducible rfl))
                        try go_frame
                        refine wpAnyH_take (i := 7) (oi := _) (v := ?_) rfl (by kernel_rfl) (by kernel_rfl) (by kernel_rfl) (fun _ _ _ h => h) (Or.inl ⟨by rfl, ?_⟩) (by assumption) ?_
                        rotate_left
                        · (intro w hSw; (try dsimp only at hSw); go_simp; try (with_reducible rfl))
                        try go_frame
                        refine wpAnyH_take (i := 8) (oi := _) (v := ?_) rfl (by kernel_rfl) (by kernel_rfl) (by kernel_rfl) (fun _ _ _ h => h) (Or.inl ⟨by rfl, ?_⟩) (by assumption) ?_
                        rotate_left
                        · (intro w hSw; (try dsimp only at hSw); go_simp; try (with_reducible rfl))
                        try go_frame
                        refine wpAnyH_take (i := 9) (oi := _) (v := ?_) rfl (by kernel_rfl) (by kernel_rfl) (by kernel_rfl) (fun _ _ _ h => h) (Or.inl ⟨by rfl, ?_⟩) (by assumption) ?_
                        rotate_left
                        · (intro w hSw; (try dsimp only at hSw); go_simp; try (with_reducible rfl))
                        try go_frame
                        refine wpAnyH_ready (rs := [3]) (by kernel_rfl) (by simp) ?_
                        refine AllReadyH.cons (o := _) rfl (fun K hK => ?_) ?_
                        · go_simp
                          refine hK.out _ _ ?_ (fun hHeld => ?_)
                          · (try dsimp only); first | exact c1 | exact (HKS.out 2 ((Question.nanBits .f32 x a).cut _)).1 | exact (HKS.out 3 ((Question.nanBits .f32 x ((Question.nanBits .f32 fi y).cut _)).cut _)).1 | exact (HKS.out _ _).1
                          · clear hK K
                            try go_frame
                            refine wpAnyH_ready (rs := [10]) (by kernel_rfl) (by simp) ?_
                            refine AllReadyH.cons (o := _) rfl (fun K hK => ?_) ?_
                            · go_simp
                              refine hK.out _ _ ?_ (fun hHeld => ?_)
                              · (try dsimp only); first | exact c1 | exact (HKS.out 2 ((Question.nanBits .f32 x a).cut _)).1 | exact (HKS.out 3 ((Question.nanBits .f32 x ((Question.nanBits .f32 fi y).cut _)).cut _)).1 | exact (HKS.out _ _).1
                              · clear hK K
                                try go_frame
                                refine wpAnyH_take (i := 11) (oi := _) (v := ?_) rfl (by kernel_rfl) (by kernel_rfl) (by kernel_rfl) (fun _ _ _ h => h) (Or.inl ⟨by rfl, ?_⟩) (by assumption) ?_
                                rotate_left
                                · (intro w hSw; (try dsimp only at hSw); go_simp; try (with_reducible rfl))
                                try go_frame
                                refine wpAnyH_ready (rs := [12]) (by kernel_rfl) (by simp) ?_
                                refine AllReadyH.cons (o := _) rfl (fun K hK => ?_) ?_
                                · go_simp
                                  refine hK.out _ _ ?_ (fun hHeld => ?_)
                                  · (try dsimp only); first | exact c1 | exact (HKS.out 2 ((Question.nanBits .f32 x a).cut _)).1 | exact (HKS.out 3 ((Question.nanBits .f32 x ((Question.nanBits .f32 fi y).cut _)).cut _)).1 | exact (HKS.out _ _).1
                                  · clear hK K
                                    try go_frame
                                    refine wpAnyH_done (by kernel_rfl) ?_ _
                                    refine NoPanic.normal ?_
                                    go_wp2_with fail
                                    go_roundg (Wd - (k + 1))
                                    case measure => rw [HRK.out]; omega
                                    case rel => first | exact ⟨k + 1, _, rfl, by omega, by go_num, Lib.hid (HST.out (2) _ (HV.out _)).1, Lib.hid (HST.out (2) _ (HV.out _)).2⟩
                                exact AllReadyH.nil
                            exact AllReadyH.nil
                        exact AllReadyH.nil
                    | none =>
                      have hrm := fun W => run_fnone (P := Try.prog) .mul rfl 34 fi y hmu W
                      have hrs := fun t W => run_fnone (P := Try.prog) .sub rfl 34 x ((Question.nanBits .f32 fi y).cut t) (floatBits_nan_r (cut_nan _ _ _ _)) W
                      have HV := Lib.hid (fun (s t : Nat) => show absK .f32 ((Question.nanBits .f32 x ((Question.nanBits .f32 fi y).cut s)).cut t) = subC (fC ns Wd) r cc i k by rw [HQ.out, hmu, absK_nan (cut_nan _ _ _ _)]; cases absK .f32 x <;> rfl)
                      clear hmu
                      go_upto_region 22 with (fail)
                      refine wp_region_noPanic ?_
                      refine wp_region_held_drew (S := (fun w' => w'.cell? ⟨gN, P + k, none⟩ = some (.float .f32 y))) (by kernel_rfl) ?_ (fun hHeld => ?_)
                      · (try dsimp only); first | exact c1 | exact (HKS.out 2 ((Question.nanBits .f32 x a).cut _)).1 | exact (HKS.out 3 ((Question.nanBits .f32 x ((Question.nanBits .f32 fi y).cut _)).cut _)).1 | exact (HKS.out _ _).1
                      refine wpAnyH_take (i := 0) (oi := _) (v := ?_) rfl (by kernel_rfl) (by kernel_rfl) (by kernel_rfl) (fun _ _ _ h => h) (Or.inl ⟨by rfl, ?_⟩) (by assumption) ?_
                      rotate_left
                      · (intro w hSw; (try dsimp only at hSw); go_simp; try (with_reducible rfl))
                      try go_frame
                      refine wpAnyH_take (i := 1) (oi := _) (v := ?_) rfl (by kernel_rfl) (by kernel_rfl) (by kernel_rfl) (fun _ _ _ h => h) (Or.inl ⟨by rfl, ?_⟩) (by assumption) ?_
                      rotate_left
                      · (intro w hSw; (try dsimp only at hSw); go_simp; try (with_reducible rfl))
                      try go_frame
                      refine wpAnyH_take (i := 2) (oi := _) (v := ?_) rfl (by kernel_rfl) (by kernel_rfl) (by kernel_rfl) (fun _ _ _ h => h) (Or.inl ⟨by rfl, ?_⟩) (by assumption) ?_
                      rotate_left
                      · (intro w hSw; (try dsimp only at hSw); go_simp; try (with_reducible rfl))
                      try go_frame
                      refine wpAnyH_take (i := 4) (oi := _) (v := ?_) rfl (by kernel_rfl) (by kernel_rfl) (by kernel_rfl) (fun _ _ _ h => h) (Or.inl ⟨by rfl, ?_⟩) (by assumption) ?_
                      rotate_left
                      · (intro w hSw; (try dsimp only at hSw); go_simp; try (with_reducible rfl))
                      try go_frame
                      refine wpAnyH_take (i := 5) (oi := _) (v := ?_) rfl (by kernel_rfl) (by kernel_rfl) (by kernel_rfl) (fun _ _ _ h => h) (Or.inl ⟨by rfl, ?_⟩) (by assumption) ?_
                      rotate_left
                      · (intro w hSw; (try dsimp only at hSw); go_simp; try (with_reducible rfl))
                      try go_frame
                      refine wpAnyH_take (i := 6) (oi := _) (v := ?_) rfl (by kernel_rfl) (by kernel_rfl) (by kernel_rfl) (fun _ _ _ h => h) (Or.inl ⟨by rfl, ?_⟩) (by assumption) ?_
                      rotate_left
                      · (intro w hSw; (try dsimp only at hSw); go_simp; try (with_reducible rfl))
                      try go_frame
                      refine wpAnyH_take (i := 7) (oi := _) (v := ?_) rfl (by kernel_rfl) (by kernel_rfl) (by kernel_rfl) (fun _ _ _ h => h) (Or.inl ⟨by rfl, ?_⟩) (by assumption) ?_
                      rotate_left
                      · (intro w hSw; (try dsimp only at hSw); go_simp; try (with_reducible rfl))
                      try go_frame
                      refine wpAnyH_take (i := 8) (oi := _) (v := ?_) rfl (by kernel_rfl) (by kernel_rfl) (by kernel_rfl) (fun _ _ _ h => h) (Or.inl ⟨by rfl, ?_⟩) (by assumption) ?_
                      rotate_left
                      · (intro w hSw; (try dsimp only at hSw); go_simp; try (with_reducible rfl))
                      try go_frame
                      refine wpAnyH_ready (rs := [3, 9]) (by kernel_rfl) (by simp) ?_
                      refine AllReadyH.cons (o := _) rfl (fun K hK => ?_) ?_
                      · go_simp
                        refine hK.out _ _ ?_ (fun hHeld => ?_)
                        · (try dsimp only); first | exact c1 | exact (HKS.out 2 ((Question.nanBits .f32 x a).cut _)).1 | exact (HKS.out 3 ((Question.nanBits .f32 x ((Question.nanBits .f32 fi y).cut _)).cut _)).1 | exact (HKS.out _ _).1
                        · clear hK K
                          try go_frame
                          refine wpAnyH_ready (rs := [9]) (by kernel_rfl) (by simp) ?_
                          refine AllReadyH.cons (o := _) rfl (fun K hK => ?_) ?_
                          · go_simp
                            refine hK.out _ _ ?_ (fun hHeld => ?_)
                            · (try dsimp only); first | exact c1 | exact (HKS.out 2 ((Question.nanBits .f32 x a).cut _)).1 | exact (HKS.out 3 ((Question.nanBits .f32 x ((Question.nanBits .f32 fi y).cut _)).cut _)).1 | exact (HKS.out _ _).1
                            · clear hK K
                              try go_frame
                              refine wpAnyH_ready (rs := [10]) (by kernel_rfl) (by simp) ?_
                              refine AllReadyH.cons (o := _) rfl (fun K hK => ?_) ?_
                              · go_simp
                                refine hK.out _ _ ?_ (fun hHeld => ?_)
                                · (try dsimp only); first | exact c1 | exact (HKS.out 2 ((Question.nanBits .f32 x a).cut _)).1 | exact (HKS.out 3 ((Question.nanBits .f32 x ((Question.nanBits .f32 fi y).cut _)).cut _)).1 | exact (HKS.out _ _).1
                                · clear hK K
                                  try go_frame
                                  refine wpAnyH_take (i := 11) (oi := _) (v := ?_) rfl (by kernel_rfl) (by kernel_rfl) (by kernel_rfl) (fun _ _ _ h => h) (Or.inl ⟨by rfl, ?_⟩) (by assumption) ?_
                                  rotate_left
                                  · (intro w hSw; (try dsimp only at hSw); go_simp; try (with_reducible rfl))
                                  try go_frame
                                  refine wpAnyH_ready (rs := [12]) (by kernel_rfl) (by simp) ?_
                                  refine AllReadyH.cons (o := _) rfl (fun K hK => ?_) ?_
                                  · go_simp
                                    refine hK.out _ _ ?_ (fun hHeld => ?_)
                                    · (try dsimp only); first | exact c1 | exact (HKS.out 2 ((Question.nanBits .f32 x a).cut _)).1 | exact (HKS.out 3 ((Question.nanBits .f32 x ((Question.nanBits .f32 fi y).cut _)).cut _)).1 | exact (HKS.out _ _).1
                                    · clear hK K
                                      try go_frame
                                      refine wpAnyH_done (by kernel_rfl) ?_ _
                                      refine NoPanic.normal ?_
                                      go_wp2_with fail
                                      go_roundg (Wd - (k + 1))
                                      case measure => rw [HRK.out]; omega
                                      case rel => first | exact ⟨k + 1, _, rfl, by omega, by go_num, Lib.hid (HST.out (3) _ (HV.out _ _)).1, Lib.hid (HST.out (3) _ (HV.out _ _)).2⟩
                                  exact AllReadyH.nil
                              exact AllReadyH.nil
                          exact AllReadyH.nil
                      refine AllReadyH.cons (o := _) rfl (fun K hK => ?_) ?_
                      · go_simp
                        refine hK.out _ _ ?_ (fun hHeld => ?_)
                        · (try dsimp only); first | exact c1 | exact (HKS.out 2 ((Question.nanBits .f32 x a).cut _)).1 | exact (HKS.out 3 ((Question.nanBits .f32 x ((Question.nanBits .f32 fi y).cut _)).cut _)).1 | exact (HKS.out _ _).1
                        · clear hK K
                          try go_frame
                          refine wpAnyH_ready (rs := [3]) (by kernel_rfl) (by simp) ?_
                          refine AllReadyH.cons (o := _) rfl (fun K hK => ?_) ?_
                          · go_simp
                            refine hK.out _ _ ?_ (fun hHeld => ?_)
                            · (try dsimp only); first | exact c1 | exact (HKS.out 2 ((Question.nanBits .f32 x a).cut _)).1 | exact (HKS.out 3 ((Question.nanBits .f32 x ((Question.nanBits .f32 fi y).cut _)).cut _)).1 | exact (HKS.out _ _).1
                            · clear hK K
                              try go_frame
                              refine wpAnyH_ready (rs := [10]) (by kernel_rfl) (by simp) ?_
                              refine AllReadyH.cons (o := _) rfl (fun K hK => ?_) ?_
                              · go_simp
                                refine hK.out _ _ ?_ (fun hHeld => ?_)
                                · (try dsimp only); first | exact c1 | exact (HKS.out 2 ((Question.nanBits .f32 x a).cut _)).1 | exact (HKS.out 3 ((Question.nanBits .f32 x ((Question.nanBits .f32 fi y).cut _)).cut _)).1 | exact (HKS.out _ _).1
                                · clear hK K
                                  try go_frame
                                  refine wpAnyH_take (i := 11) (oi := _) (v := ?_) rfl (by kernel_rfl) (by kernel_rfl) (by kernel_rfl) (fun _ _ _ h => h) (Or.inl ⟨by rfl, ?_⟩) (by assumption) ?_
                                  rotate_left
                                  · (intro w hSw; (try dsimp only at hSw); go_simp; try (with_reducible rfl))
                                  try go_frame
                                  refine wpAnyH_ready (rs := [12]) (by kernel_rfl) (by simp) ?_
                                  refine AllReadyH.cons (o := _) rfl (fun K hK => ?_) ?_
                                  · go_simp
                                    refine hK.out _ _ ?_ (fun hHeld => ?_)
                                    · (try dsimp only); first | exact c1 | exact (HKS.out 2 ((Question.nanBits .f32 x a).cut _)).1 | exact (HKS.out 3 ((Question.nanBits .f32 x ((Question.nanBits .f32 fi y).cut _)).cut _)).1 | exact (HKS.out _ _).1
                                    · clear hK K
                                      try go_frame
                                      refine wpAnyH_done (by kernel_rfl) ?_ _
                                      refine NoPanic.normal ?_
                                      go_wp2_with fail
                                      go_roundg (Wd - (k + 1))
                                      case measure => rw [HRK.out]; omega
                                      case rel => first | exact ⟨k + 1, _, rfl, by omega, by go_num, Lib.hid (HST.out (3) _ (HV.out _ _)).1, Lib.hid (HST.out (3) _ (HV.out _ _)).2⟩
                                  exact AllReadyH.nil
                              exact AllReadyH.nil
                          exact AllReadyH.nil
                      exact AllReadyH.nil
                  · have e : k = Wd := by omega
                    have HXE := Lib.hid (show Cells xs (m + 1) Wd (s2C (fC ns Wd) r cc i Wd) by have h9 := HX.out; rw [e] at h9; exact h9)
                    have hkg : ¬ ((k : Int) < (Wd : Int)) := by omega
                    clear e hk HX
                    have cJ := HS.out.oN.cell hQcc
                    have fJ := HS.out.oN.free (Q + cc)
                    generalize xs.getD (Q + cc) 0 = y0 at *
                    have HS7 := Lib.hid (HS.out.set (Q + cc) 0)
                    have HX7 := Lib.hid (show Cells (xs.set (Q + cc) 0) (m + 1) Wd (s1C (fC ns Wd) r cc (i + 1)) by have h9 := s2_end HXE.out hilt hccW HIR.out; rw [HQQ.out] at h9; exact h9)
                    clear HS HXE
                    go_wp2_with fail
                    go_roundg (m + 1 - (i + 1))
                    case measure => rw [HRI.out]; omega
                    case rel => exact ⟨i + 1, _, rfl, by omega, by go_num, HS7, HX7⟩
            · have e : i = m + 1 := by omega
              have HXE := Lib.hid (show Cells ys (m + 1) Wd (s1C (fC ns Wd) r cc (m + 1)) by have h9 := HXi.out; rw [e] at h9; exact h9)
              have hig : ¬ ((i : Int) ≤ (m : Int)) := by omega
              clear e hi HXi
              have HRES := Lib.hid (HPO2.out ys HXE.out)
              have q2 := HSi.out.ko.cell 2
              have hri : (r : Int) < (m : Int) := by omega
              have cr := HSi.out.oB.cell hr
              have fr := HSi.out.oB.free r
              generalize bs.getD r 0 = b0 at *
              obtain ⟨kr8, ko8, oN8, oB8, bl8⟩ := HSi.out.setB r (cc : Int)
              have HKR := Lib.hid kr8
              have HKO := Lib.hid ko8
              have HON := Lib.hid oN8
              have HOB := Lib.hid oB8
              have HBL := Lib.hid bl8
              clear kr8 ko8 oN8 oB8 bl8
              go_upto_region 26 with (fail)
              clear HSi p2 q2 cr fr hst hilt hig
              generalize wo.setCell ⟨gB, r, none⟩ (.int .i64 cc) = W8 at *
              have HLT := Lib.hid (fun (w' : World) fN iB hc => validTable_r V (some ⟨gN, 0, none⟩) n c' ys (some ⟨gB, 0, none⟩) m d' (bs.set r cc) w' fN iB (by unfold maxLen; omega) (by unfold maxLen; omega) hc)
              have q0 := HKO.out.cell 0
              have q1 := HKO.out.cell 1
              have q2 := HKO.out.cell 2
              have HGE := Lib.hid (own_ne_blk HON.out HKR.out (by decide))
              have HGF := Lib.hid (own_ne_blkI HOB.out HKR.out (by decide))
              have HCAP := Lib.hid (OwnI.cap2P HOB.out)
              cases ht : tblB (V : Int) ys (bs.set r cc)
              · have HT := Lib.hid ht
                rw [ht] at HLT
                clear ht
                go_wp2_with fail
                refine (HLT.out _ HON.out.flts HOB.out.ints HCAP.out).mono ?_
                rintro e w9 ⟨rfl, b9⟩
                have KR9 := HKR.out.ext b9
                have HON9 := Lib.hid (HON.out.below b9)
                have HOB9 := Lib.hid (HOB.out.below b9)
                have hb9 := below_ext HBL.out HBL.out.size b9
                clear q0 q1 q2
                have k0 := KR9.cell 0
                have l0 := KR9.free 0
                have k1 := KR9.cell 1
                have l1 := KR9.free 1
                have k2 := KR9.cell 2
                have l2 := KR9.free 2
                clear KR9 b9
                go_wp2_with fail
                have HU := Upd.setCell (p := ⟨w.heap.size + 1, 2, none⟩) (Upd.setCell (p := ⟨w.heap.size + 1, 1, none⟩) (Upd.setCell (p := ⟨w.heap.size + 1, 0, none⟩) (Upd.refl (fun k => k = w.heap.size + 1) w9) (.inl rfl) (.int .i64 0)) (.inl rfl) (.slice none 0 0)) (.inl rfl) (.slice none 0 0)
                refine bodyPost_ret (v := .tuple #[.agg #[.int .i64 0, .slice none 0 0, .slice none 0 0], .bool false]) (by simp [results, Try.results41, go_sem, k0, k1, k2]) rfl ⟨?_, ?_⟩
                · exact hb9.trans (HU.toBelow hb9.size (fun k hk e => by omega))
                · rw [HRES.out, HT.out]
                  exact rfl
              · have HT := Lib.hid ht
                rw [ht] at HLT
                clear ht
                go_wp2_with fail
                refine (HLT.out _ HON.out.flts HOB.out.ints HCAP.out).mono ?_
                rintro e w9 ⟨rfl, b9⟩
                have KR9 := HKR.out.ext b9
                have HON9 := Lib.hid (HON.out.below b9)
                have HOB9 := Lib.hid (HOB.out.below b9)
                have hb9 := below_ext HBL.out HBL.out.size b9
                have KO9 := HKO.out.ext b9
                clear q0 q1 q2
                have q0 := KO9.cell 0
                have q1 := KO9.cell 1
                have q2 := KO9.cell 2
                clear KO9
                have k0 := KR9.cell 0
                have l0 := KR9.free 0
                have k1 := KR9.cell 1
                have l1 := KR9.free 1
                have k2 := KR9.cell 2
                have l2 := KR9.free 2
                clear KR9 b9
                go_wp2_with fail
                have HU := Upd.setCell (p := ⟨w.heap.size + 1, 2, none⟩) (Upd.setCell (p := ⟨w.heap.size + 1, 1, none⟩) (Upd.setCell (p := ⟨w.heap.size + 1, 0, none⟩) (Upd.refl (fun k => k = w.heap.size + 1) w9) (.inl rfl) (.int .i64 V)) (.inl rfl) (.slice (some ⟨gN, 0, none⟩) n c')) (.inl rfl) (.slice (some ⟨gB, 0, none⟩) m d')
                refine bodyPost_ret (v := .tuple #[.agg #[.int .i64 V, .slice (some ⟨gN, 0, none⟩) n c', .slice (some ⟨gB, 0, none⟩) m d'], .bool true]) (by simp [results, Try.results41, go_sem, k0, k1, k2]) rfl ⟨?_, ?_⟩
                · exact hb9.trans (HU.toBelow hb9.size (fun k hk e => by omega))
                · rw [HRES.out, HT.out]
                  exact ⟨_, _, _, _, _, _, rfl, OwnF.upd HON9.out HU (fun x hx e => by injection hx with hx; subst hx; exact HGE.out e), OwnI.upd HOB9.out HU (fun x hx e => by injection hx with hx; subst hx; exact HGF.out e)⟩
  · have HR := Lib.hid (HPZ.out (by rw [← HO.out]; exact hz))
    have k0 := KR1.out.cell 0
    have k1 := KR1.out.cell 1
    have k2 := KR1.out.cell 2
    have l0 := KR1.out.free 0
    have l1 := KR1.out.free 1
    have l2 := KR1.out.free 2
    go_wp2_with fail
    refine bodyPost_ret (v := .tuple #[.agg #[.int .i64 0, .slice none 0 0, .slice none 0 0], .bool false]) (by simp [results, Try.results41, go_sem, k0, k1, k2]) rfl ⟨?_, ?_⟩
    · exact ((hW1.setCell (p := ⟨w.heap.size + 1, 0, none⟩) (Nat.le_succ _) _).setCell (p := ⟨w.heap.size + 1, 1, none⟩) (Nat.le_succ _) _).setCell (p := ⟨w.heap.size + 1, 2, none⟩) (Nat.le_succ _) _
    · rw [HR.out]
end Go.Proofs.Ytckfmemjcjhaaaa
