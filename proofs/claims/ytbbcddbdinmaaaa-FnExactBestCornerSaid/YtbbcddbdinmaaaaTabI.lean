/- The table of rows: the program's walk (written by gen_tabi.py). -/
import Derived.Test.YtbbcddbdinmaaaaTabR
import Derived.Test.YtbbcddbdinmaaaaAppend
namespace Go.Proofs.Ytbbcddbdinmaaaa
open Go.RowKit

theorem tabT_last {V m : Nat} {ns bs gs : List Nat} : tabT V m ns bs gs (m + 1) = tabT V m ns bs gs m ++ upV V m ns gs m V ++ List.replicate (m + 1) 0 := by
  rw [tabT, rowT, List.append_assoc (upV V m ns gs m V), show cellL m bs m = 0 from if_neg (by omega), upU_last, List.append_assoc]
/-- what TableOf hands back -/
def RetTab (v : Int) (nums : List Nat) (bas : List Int) (b : Bool) (w : World) (e : Ending) (w' : World) : Prop :=
  ∃ (N : Option Addr) (nn cn : Nat) (Q : Option Addr) (qn cq : Nat), e = .returned (.tuple #[.agg #[.int .i64 v, .slice N nn cn, .slice Q qn cq], .bool b]) ∧ OwnF 34 w.heap.size w' N nn cn nums ∧ OwnI 2 w.heap.size w' Q qn cq bas ∧ Below w.heap.size w w'
def tabV (v : Int) (ns bs gs : List Nat) : Int := if rowsB v ns bs gs = true then v else 0
def tabN (v : Int) (ns bs gs : List Nat) : List Nat := if rowsB v ns bs gs = true then tabT v.toNat bs.length ns bs gs (bs.length + 1) else []
def tabQ (v : Int) (ns bs gs : List Nat) : List Int := if rowsB v ns bs gs = true then seqI v bs.length else []
theorem rows_bd {v : Int} {ns bs gs : List Nat} (h : rowsB v ns bs gs = true) : ∃ V : Nat, v = (V : Int) ∧ (1 ≤ V ∧ V ≤ 8) ∧ (1 ≤ bs.length ∧ bs.length ≤ 8) ∧ ns.length = V * bs.length ∧ gs.length = V := by
  unfold rowsB shapeB at h
  simp only [Bool.and_eq_true, decide_eq_true_eq] at h
  obtain ⟨⟨h1, h2, h3, h4⟩, _⟩ := h
  obtain ⟨a, b⟩ := inB_iff.1 h1
  obtain ⟨c, d⟩ := inB_iff.1 h2
  obtain ⟨V, rfl⟩ := Int.eq_ofNat_of_zero_le (show 0 ≤ v by omega)
  refine ⟨V, rfl, by omega, by omega, ?_, by omega⟩
  have : ((ns.length : Nat) : Int) = ((V * bs.length : Nat) : Int) := by rw [h4]; push_cast; rfl
  omega

theorem blk_flts {w : World} {g : Nat} {bd : Nat} (h : Blk w g 34 #[.float .f32 bd]) : FltsAt w (some ⟨g, 0, none⟩) 1 [bd] := by
  refine ⟨rfl, fun _ => ⟨_, rfl, h.lt, fun j hj => ?_⟩⟩
  obtain rfl : j = 0 := by omega
  exact h.cell 0
theorem tab_end {gO : Nat} {V : Int} {k : Nat} {w W : World} {N : Option Addr} {nn cn : Nat} {nums : List Nat} {Q : Option Addr} {qn cq : Nat} {bas : List Int} (h : TabSt gO V W N nn cn nums Q qn cq bas) (hb : Below k w W) (hk : k ≤ w.heap.size) (hg : k + 1 < gO) (w' : World) (hu : Upd (fun b => b = k + 1) W w') :
    OwnF 34 k w' N nn cn nums ∧ OwnI 2 k w' Q qn cq bas ∧ Below k w w' := by
  have := hb.size
  refine ⟨(OwnF.upd h.oN hu (fun ad ha e => ?_)).low (by omega), (OwnI.upd h.oQ hu (fun ad ha e => ?_)).low (by omega), hb.trans (hu.toBelow (by omega) (fun j hj e => by omega))⟩
  · have := (h.oN.lt ha).1; omega
  · have := (h.oQ.lt ha).1; omega

set_option maxRecDepth 100000 in
set_option maxHeartbeats 2000000 in
theorem implTableOf_r (v : Int) (A : Option Addr) (n c : Nat) (ns : List Nat) (B : Option Addr) (m d : Nat) (bs : List Nat) (G : Option Addr) (p g : Nat) (gs : List Nat) (w : World) (hN : FltsAt w A n ns) (hB : FltsAt w B m bs) (hG : FltsAt w G p gs) (hn : n ≤ maxLen) (hm : m ≤ maxLen) (hp : p ≤ maxLen) (hcap : n ≤ c ∧ c ≤ maxLen) :
    Calls Try.prog 60 #[.agg #[.int .i64 v, .slice A n c, .slice B m d, .slice G p g]] w (RetTab (tabV v ns bs gs) (tabN v ns bs gs) (tabQ v ns bs gs) (rowsB v ns bs gs) w) := by
  obtain ⟨W0, hW0⟩ : ∃ W0, W0 = (w.alloc (.cells #[.int .i64 v, .slice A n c, .slice B m d, .slice G p g] 43)).alloc (.cells #[.int .i64 0, .slice none 0 0, .slice none 0 0] 27) := ⟨_, rfl⟩
  have k1 : Blk W0 w.heap.size 43 #[.int .i64 v, .slice A n c, .slice B m d, .slice G p g] := by rw [hW0]; exact (Blk.new w _ _).alloc _
  have k2 : Blk W0 (w.heap.size + 1) 27 #[.int .i64 0, .slice none 0 0, .slice none 0 0] := by
    rw [hW0]
    have h := Blk.new (w.alloc (.cells #[.int .i64 v, .slice A n c, .slice B m d, .slice G p g] 43)) 27 #[.int .i64 0, .slice none 0 0, .slice none 0 0]
    simp only [World.size_alloc] at h
    exact h
  have hW : Below w.heap.size w W0 := by rw [hW0]; exact ((Below.refl _ _).alloc (Nat.le_refl _) _).alloc (by simp) _
  have HK1 := Lib.hid k1
  have HK2 := Lib.hid k2
  have HLN := Lib.hid hN.len
  have HLB := Lib.hid hB.len
  have HLG := Lib.hid hG.len
  have p0 := k1.cell 0
  have p1 := k1.cell 1
  have p2 := k1.cell 2
  have p3 := k1.cell 3
  rw [hW0] at p0 p1 p2 p3
  have HW0 := Lib.hid hW0
  have hg2 := k2.lt
  have HNA := Lib.hid hN
  have HBA := Lib.hid hB
  have HGA := Lib.hid hG
  clear k1 k2 hW0 hN hB hG
  cases hrb : rowsB v ns bs gs
  · have HV := Lib.hid (show tabV v ns bs gs = 0 ∧ tabN v ns bs gs = [] ∧ tabQ v ns bs gs = [] from ⟨by unfold tabV; rw [if_neg (by rw [hrb]; decide)], by unfold tabN; rw [if_neg (by rw [hrb]; decide)], by unfold tabQ; rw [if_neg (by rw [hrb]; decide)]⟩)
    go_enter Try.func60, Try.ntmps60
    go_wp2_with fail
    rw [← HW0.out]
    clear p0 p1 p2 p3 HW0
    refine (validRows_r v A n c ns B m d bs G p g gs _ (HNA.out.below hW) (HBA.out.below hW) (HGA.out.below hW) hn hm hp).mono ?_
    rw [hrb]
    rintro e w1 ⟨rfl, b1⟩
    have k2 := HK2.out.ext b1
    have x0 := k2.cell 0
    have x1 := k2.cell 1
    have x2 := k2.cell 2
    have fx0 := k2.free 0
    have fx1 := k2.free 1
    have fx2 := k2.free 2
    have hb1 := below_ext hW hW.size b1
    clear k2
    go_wp2_with fail
    refine bodyPost_ret (v := .tuple #[.agg #[.int .i64 0, .slice none 0 0, .slice none 0 0], .bool false]) (by simp [results, Try.results60, go_sem, x0, x1, x2]) rfl ?_
    rw [HV.out.1, HV.out.2.1, HV.out.2.2]
    exact ⟨none, 0, 0, none, 0, 0, rfl, OwnF.nil_ _ _ _, OwnI.nil_ _ _ _, ((hb1.setCell (p := ⟨w.heap.size + 1, 0, none⟩) (Nat.le_succ _) _).setCell (p := ⟨w.heap.size + 1, 1, none⟩) (Nat.le_succ _) _).setCell (p := ⟨w.heap.size + 1, 2, none⟩) (Nat.le_succ _) _⟩
  · obtain ⟨V, rfl, ⟨hV1, hV8⟩, ⟨hm1, hm8⟩, hnl, hpl⟩ := rows_bd hrb
    rw [HLB.out] at hm1 hm8 hnl
    rw [HLN.out] at hnl
    rw [HLG.out] at hpl
    have HNL := Lib.hid hnl
    have HPL := Lib.hid hpl
    have HV := Lib.hid (show tabV V ns bs gs = (V : Int) ∧ tabN V ns bs gs = tabT V m ns bs gs (m + 1) ∧ tabQ V ns bs gs = seqI V m from ⟨by unfold tabV; rw [if_pos hrb], by unfold tabN; rw [if_pos hrb, HLB.out]; rfl, by unfold tabQ; rw [if_pos hrb, HLB.out]⟩)
    clear hnl hpl
    go_enter Try.func60, Try.ntmps60
    go_wp2_with fail
    rw [← HW0.out]
    clear p0 p1 p2 p3 HW0
    refine (validRows_r V A n c ns B m d bs G p g gs _ (HNA.out.below hW) (HBA.out.below hW) (HGA.out.below hW) hn hm hp).mono ?_
    rw [hrb]
    rintro e w1 ⟨rfl, b1⟩
    have hb1 := below_ext hW hW.size b1
    have K1 := Lib.hid (HK1.out.ext b1)
    have K2 := Lib.hid (HK2.out.ext b1)
    have r0 := K1.out.cell 0
    have hst0 : TabSt w1.heap.size V (w1.alloc (.cells #[.int .i64 V, .slice none 0 0, .slice none 0 0] 27)) none 0 0 [] none 0 0 (seqI V 0) := ⟨Blk.new _ _ _, OwnF.nil_ _ _ _, OwnI.nil_ _ _ _⟩
    have r2 := (K1.out.alloc (.cells #[.int .i64 V, .slice none 0 0, .slice none 0 0] 27)).cell 2
    have hbW1 : Below w1.heap.size w1 (w1.alloc (.cells #[.int .i64 V, .slice none 0 0, .slice none 0 0] 27)) := (Below.refl _ _).alloc (Nat.le_refl _) _
    have hg1 : w.heap.size + 1 < w1.heap.size := by have := b1.size; omega
    clear b1 hrb hW HK1 HK2
    go_wp2_with fail
    clear r0 r2
    generalize w1.alloc (.cells #[.int .i64 V, .slice none 0 0, .slice none 0 0] 27) = W1 at *
    obtain ⟨gO, hgO⟩ : ∃ gO, gO = w1.heap.size := ⟨_, rfl⟩
    rw [← hgO] at hst0 hg1 hbW1 ⊢
    have HKW := Lib.hid (fun (W : World) (hb : Below gO w1 W) => show Blk W w.heap.size 43 #[.int .i64 V, .slice A n c, .slice B m d, .slice G p g] from K1.out.below hb (by omega))
    have HK2W := Lib.hid (fun (W : World) (hb : Below gO w1 W) => show Blk W (w.heap.size + 1) 27 #[.int .i64 0, .slice none 0 0, .slice none 0 0] from K2.out.below hb (by omega))
    have HBW := Lib.hid (fun (W : World) (hb : Below gO w1 W) => show Below w.heap.size w W from hb1.trans (hb.mono (by omega)))
    clear hgO K1 K2
    go_loopg [21] m (fun r iv wi => ∃ (i : Nat) (Q : Option Addr) (cq : Nat), r = m - i ∧ i ≤ m ∧ iv = .int .i64 i ∧ TabSt gO V wi none 0 0 [] Q i cq (seqI V i) ∧ Below gO w1 wi)
    case atStart => exact ⟨0, _, _, rfl, Nat.zero_le _, rfl, hst0, hbW1⟩
    case round =>
      clear hst0 hbW1
      obtain ⟨i, Q, cq, hr, hi, rfl, st, hbw⟩ := hrel
      have HR := Lib.hid hr
      clear hr
      have HST := Lib.hid st
      have hszO : gO + 1 ≤ wr.heap.size := st.k.lt
      by_cases hlt : i < m
      · have hlt' : (i : Int) < (m : Int) := by omega
        have r0 := (HKW.out wr hbw).cell 0
        have o2 := (st.k.cell 2).trans (show _ = some (Value.slice Q i cq) from rfl)
        have hwVi : IntKind.i64.wrap ((V : Int) + (i : Int)) = (V : Int) + (i : Int) := IntWalk.i64_in _ (by omega)
        have HSQ := Lib.hid (show seqI V i ++ [(V : Int) + (i : Int)] = seqI V (i + 1) by simp [seqI, List.range_succ])
        clear st
        go_wp2_with (at_builtin; go_loud (refine wp_append_int _ _ rfl _ _ _ rfl 2 (gO + 1) Try.underlying23 info64 Q i cq _ rfl HST.out.oQ rfl (by omega) hszO ?_; intro g5 c5 w5 o5 u5 b5 _; obtain ⟨s1, s2⟩ := HST.out.boxFreeQ u5 2; have HST5 := Lib.hid (HST.out.basTo o5 u5); have hb5 := (below_app hbw (Nat.le_of_succ_le hszO) u5 (show OwnC 2 (gO + 1) 1 _ Q i cq ((seqI V i).map (Value.int .i64)) from HST.out.oQ) (Nat.le_succ gO)).setCell (p := ⟨gO, 2, none⟩) (Nat.le_refl _) (.slice (some ⟨g5, 0, none⟩) (i + 1) c5); clear o5 u5 b5))
        have HST7 := HST5.out
        rw [HSQ.out] at HST7
        go_roundg (m - (i + 1))
        case measure => rw [HR.out]; omega
        case rel => exact ⟨i + 1, _, _, rfl, by omega, by go_num, HST7, hb5⟩
      · obtain rfl : m = i := by omega
        have stB : TabSt gO V wr none 0 0 (tabT V m ns bs gs 0) Q m cq (seqI V m) := st
        clear st HST
        have r2 := (HKW.out wr hbw).cell 2
        obtain ⟨wo, rfl⟩ : ∃ wo : World, wo = wr := ⟨_, rfl⟩
        go_wp2_with fail
        clear r2
        go_loopg [37] m (fun r iv wi => ∃ (i : Nat) (N : Option Addr) (nn cn : Nat), r = m - i ∧ i ≤ m ∧ iv = .int .i64 i ∧ TabSt gO V wi N nn cn (tabT V m ns bs gs i) Q m cq (seqI V m) ∧ Below gO w1 wi)
        case atStart => exact ⟨0, _, _, _, rfl, Nat.zero_le _, rfl, stB, hbw⟩
        case round =>
          clear stB hbw hszO
          obtain ⟨i, N, nn, cn, hr, hi, rfl, st, hbw⟩ := hrel
          have HR2 := Lib.hid hr
          clear hr
          by_cases hlt : i < m
          · have hlt' : (i : Int) < (m : Int) := by omega
            have HST := Lib.hid st
            have hszO : gO + 1 ≤ wr.heap.size := st.k.lt
            have hnn : nn ≤ 200 := by
              have h1 := st.oN.len
              have h2 := tabT_le (V := V) (ns := ns) (bs := bs) (gs := gs) hV8 hm8 (show i ≤ 9 by omega)
              omega
            have hnpos : 0 < n := by rw [HNL.out]; exact Nat.mul_pos (by omega) (by omega)
            obtain ⟨ad, rfl, _, _⟩ := HNA.out.2 hnpos
            obtain ⟨adB, rfl, _, cb⟩ := (HBA.out.below (HBW.out wr hbw)).at_ hlt
            have HSN := Lib.hid (show tabT V m ns bs gs (i + 1) = tabT V m ns bs gs i ++ upV V m ns gs i V ++ upU i m ++ [bs.getD i 0] by rw [tabT, rowT, show cellL m bs i = bs.getD i 0 from if_pos hlt]; simp only [List.append_assoc])
            generalize tabT V m ns bs gs i = NUMS at *
            generalize bs.getD i 0 = bd at *
            have r2 := (HKW.out wr hbw).cell 2
            clear st hnpos
            have hst := run_store_f
            go_wp2_with (at_make; refine wp_make_flts _ rfl _ _ 22 rfl 34 Try.underlying22 infoF .i64 .i64 _ _ m rfl rfl rfl rfl (by omega) ?_; intro wu gU oU bU; have hfree := oU.free i; have hc0 := oU.cell hlt; have hgU : wr.heap.size ≤ gU := (oU.lt rfl).1; have hbm0 := bU.setCell (p := ⟨gU, i, none⟩) hgU (.float .f32 1065353216); have HUM := Lib.hid (show OwnF 34 wr.heap.size (wu.setCell ⟨gU, i, none⟩ (.float .f32 1065353216)) (some ⟨gU, 0, none⟩) m m (upU i m) from by rw [← unit_eq hlt]; exact oU.set i 1065353216); clear oU bU)
            go_upto_region 14 with (fail)
            generalize wu.setCell ⟨gU, i, none⟩ (.float .f32 1065353216) = wm at *
            have HSTM := Lib.hid (HST.out.below hbm0)
            have hbm : Below gO w1 wm := hbw.trans (hbm0.mono (by omega))
            have hszm : gO + 1 ≤ wm.heap.size := HSTM.out.k.lt
            have hgU2 : gU < wm.heap.size := (HUM.out.lt rfl).2
            have HOW := Lib.hid HSTM.out.oN
            have HBF := Lib.hid (fun (W : World) (H : Upd (fun b => blk N b ∨ wm.heap.size ≤ b) wm W) => show Below gO w1 W from hbm.trans (H.toBelow (by omega) (fun k hk hb => by
              rcases hb with ⟨x, h1, h2⟩ | h
              · have := (HOW.out.lt h1).1; omega
              · omega)))
            have HF1 := Lib.hid (fun (W : World) (H : Upd (fun b => blk N b ∨ wm.heap.size ≤ b) wm W) => show W.cell? ⟨gO, 1, none⟩ = some (.slice N nn cn) ∧ W.frozen? ⟨gO, 1, none⟩ = false from by
              have hk := HSTM.out.k.upd H (fun hb => by
                rcases hb with ⟨x, h1, h2⟩ | h
                · have := (HOW.out.lt h1).1; omega
                · omega)
              exact ⟨(hk.cell 1).trans rfl, hk.free 1⟩)
            have HFU := Lib.hid (fun (W : World) (H : Upd (fun b => blk N b ∨ wm.heap.size ≤ b) wm W) => show FltsAt W (some ⟨gU, 0, none⟩) m (upU i m) from (OwnF.upd HUM.out H (fun x hx hb => by
              injection hx with hx
              subst hx
              rcases hb with ⟨y, h1, h2⟩ | h
              · have := (HST.out.oN.lt h1).2; simp at h2; omega
              · simp at h; omega)).flts)
            have HFR := Lib.hid (fun (W : World) (H : Upd (fun b => blk N b ∨ wm.heap.size ≤ b) wm W) => show FltsAt W (some (ad.add (i * V))) V (upV V m ns gs i V) from flts_row (HNA.out.below (HBW.out W (HBF.out W H))) hlt (by omega) HNL.out)
            have HRD := Lib.hid (show Upd (fun b => blk N b ∨ wm.heap.size ≤ b) wm wm.drew from (Upd.refl _ wm).drew)
            have HRA := Lib.hid (show Upd (fun b => blk N b ∨ wm.heap.size ≤ b) wm (wm.alloc (.cells #[.float .f32 bd] 34)).drew from ((Upd.refl _ wm).alloc _).drew)
            have HOD := Lib.hid (show OwnF 34 (gO + 1) wm.drew N nn cn NUMS from HOW.out)
            have HOA := Lib.hid (show OwnF 34 (gO + 1) (wm.alloc (.cells #[.float .f32 bd] 34)).drew N nn cn NUMS from HOW.out.alloc _)
            have HKS0 := Lib.hid (show Blk (wm.alloc (.cells #[.float .f32 bd] 34)).drew wm.heap.size 34 #[.float .f32 bd] from (Blk.new wm 34 #[.float .f32 bd]))
            have kr := HKW.out wm hbm
            have r0 := kr.cell 0
            have r1 := kr.cell 1
            have r2 := kr.cell 2
            have r3 := kr.cell 3
            have e0 : wm.drew.cell? ⟨w.heap.size, 0, none⟩ = _ := r0
            have e1 : wm.drew.cell? ⟨w.heap.size, 1, none⟩ = _ := r1
            have e2 : wm.drew.cell? ⟨w.heap.size, 2, none⟩ = _ := r2
            have e3 : wm.drew.cell? ⟨w.heap.size, 3, none⟩ = _ := r3
            have kq := kr.alloc (.cells #[.float .f32 bd] 34)
            have q0 := kq.cell 0
            have q1 := kq.cell 1
            have q2 := kq.cell 2
            have q3 := kq.cell 3
            have o1 := (HF1.out wm (Upd.refl _ wm)).1
            have o1d : wm.drew.cell? ⟨gO, 1, none⟩ = _ := o1
            have o2 := (HF1.out (wm.alloc (.cells #[.float .f32 bd] 34)) ((Upd.refl _ wm).alloc _)).1
            clear kr kq
            go_region_law (first | (refine step_app_flts (by rfl) _ _ _ (by rfl) 34 (gO + 1) Try.underlying22 infoF N nn cn NUMS (by rfl) (by first | exact HO7.out | exact (OwnF.alloc HO7.out _) | exact (OwnF.drew (OwnF.alloc HO7.out _))) (ad.add (i * V)) V c7 (upV V m ns gs i V) (by rfl) (by first | exact HFR.out _ H7.out | exact HFR.out _ (H7.out.alloc _)) (by omega) (by omega) (by first | exact HB7 | (have hq9 := HB7; simp; omega)) ?_; intro g8 c8 w8 o8w u8 hg8; have H8 := Lib.hid (show Upd (fun b => blk N b ∨ wm.heap.size ≤ b) wm w8 from by first | exact H7.out.then u8 (fun _ _ h => .inl h) | exact (H7.out.alloc _).then u8 (fun _ _ h => .inl h)); have HO8 := Lib.hid o8w; have HG8 := Lib.hid (show blk N g8 ∨ wm.heap.size ≤ g8 from Or.elim hg8 .inl (fun h => .inr (by have hq9 := H7.out.size; (try simp at h); omega))); have HB8 : gO + 1 ≤ w8.heap.size := (by have hq9 := u8.size; (try simp at hq9); omega); (try have HKS8 := Lib.hid (HKS.out.upd u8 (fun ⟨x, h1, h2⟩ => by have hq9 := (HOW.out.lt h1).2; omega))); (try have HKT8 := Lib.hid ((show Blk (w7.alloc (.cells #[.float .f32 bd] 34)) w7.heap.size 34 #[.float .f32 bd] from Blk.new w7 34 #[.float .f32 bd]).upd u8 (fun ⟨x, h1, h2⟩ => by have hq9 := (HO7.out.lt h1).2; omega))); (try have HN8T : ¬ g8 = w7.heap.size := Or.elim hg8 (fun ⟨x, h1, h2⟩ e => by have hq9 := (HOW.out.lt h1).2; have hq8 := H7.out.size; omega) (fun h e => by (try simp at h); omega)); (try have HN8S : ¬ g8 = wm.heap.size := Or.elim hg8 (fun ⟨x, h1, h2⟩ e => by have hq9 := (HOW.out.lt h1).2; omega) (fun h e => by (try simp at h); omega)); clear o8w u8 hg8) | (refine step_app_flts (by rfl) _ _ _ (by rfl) 34 (gO + 1) Try.underlying22 infoF (some ⟨g8, 0, none⟩) (nn + V) c8 (NUMS ++ upV V m ns gs i V) (by rfl) (by first | exact HO8.out | exact (OwnF.alloc HO8.out _) | exact (OwnF.drew (OwnF.alloc HO8.out _))) ⟨gU, 0, none⟩ m m (upU i m) (by rfl) (by first | exact HFU.out _ H8.out | exact HFU.out _ (H8.out.alloc _)) (by omega) (by omega) (by first | exact HB8 | (have hq9 := HB8; simp; omega)) ?_; intro g9 c9 w9 o9w u9 hg9; have H9 := Lib.hid (show Upd (fun b => blk N b ∨ wm.heap.size ≤ b) wm w9 from by first | exact H8.out.then u9 (fun b _ ⟨x, h1, h2⟩ => by injection h1 with h1; subst h1; subst h2; exact HG8.out) | exact (H8.out.alloc _).then u9 (fun b _ ⟨x, h1, h2⟩ => by injection h1 with h1; subst h1; subst h2; exact HG8.out)); have HO9 := Lib.hid o9w; have HG9 := Lib.hid (show blk N g9 ∨ wm.heap.size ≤ g9 from Or.elim hg9 (fun ⟨x, h1, h2⟩ => by injection h1 with h1; subst h1; subst h2; exact HG8.out) (fun h => .inr (by have hq9 := H8.out.size; (try simp at h); omega))); have HB9 : gO + 1 ≤ w9.heap.size := (by have hq9 := u9.size; (try simp at hq9); omega); (try have HKS9 := Lib.hid (HKS8.out.upd u9 (fun ⟨x, h1, h2⟩ => by injection h1 with h1; subst h1; exact HN8S h2))); (try have HKT9 := Lib.hid (HKT8.out.upd u9 (fun ⟨x, h1, h2⟩ => by injection h1 with h1; subst h1; exact HN8T h2))); (try have HKV9 := Lib.hid ((show Blk (w8.alloc (.cells #[.float .f32 bd] 34)) w8.heap.size 34 #[.float .f32 bd] from Blk.new w8 34 #[.float .f32 bd]).upd u9 (fun ⟨x, h1, h2⟩ => by have hq9 := (HO8.out.lt h1).2; omega))); clear o9w u9 hg9) | (first | (refine step_app_flts (by rfl) _ _ _ (by rfl) 34 (gO + 1) Try.underlying22 infoF (some ⟨g9, 0, none⟩) (nn + V + m) c9 (NUMS ++ upV V m ns gs i V ++ upU i m) (by rfl) (by first | exact HO9.out | exact (OwnF.alloc HO9.out _) | exact (OwnF.drew (OwnF.alloc HO9.out _))) ⟨wm.heap.size, 0, none⟩ 1 1 [bd] (by rfl) (blk_flts HKS9.out) (by omega) (by omega) (by first | exact HB9 | (have hq9 := HB9; simp; omega)) ?_; intro g10 c10 w10 o10w u10 hg10; have H10 := Lib.hid (show Upd (fun b => blk N b ∨ wm.heap.size ≤ b) wm w10 from by first | exact H9.out.then u10 (fun b _ ⟨x, h1, h2⟩ => by injection h1 with h1; subst h1; subst h2; exact HG9.out) | exact (H9.out.alloc _).then u10 (fun b _ ⟨x, h1, h2⟩ => by injection h1 with h1; subst h1; subst h2; exact HG9.out)); obtain ⟨s1, s2⟩ := HF1.out _ H10.out; have HST9 := Lib.hid (HSTM.out.numsTo' o10w H10.out); have hb9 := (HBF.out _ H10.out).setCell (p := ⟨gO, 1, none⟩) (Nat.le_refl _) (.slice (some ⟨g10, 0, none⟩) (nn + V + m + 1) c10); clear o10w u10 hg10) | (refine step_app_flts (by rfl) _ _ _ (by rfl) 34 (gO + 1) Try.underlying22 infoF (some ⟨g9, 0, none⟩) (nn + V + m) c9 (NUMS ++ upV V m ns gs i V ++ upU i m) (by rfl) (by first | exact HO9.out | exact (OwnF.alloc HO9.out _) | exact (OwnF.drew (OwnF.alloc HO9.out _))) ⟨w7.heap.size, 0, none⟩ 1 1 [bd] (by rfl) (blk_flts HKT9.out) (by omega) (by omega) (by first | exact HB9 | (have hq9 := HB9; simp; omega)) ?_; intro g10 c10 w10 o10w u10 hg10; have H10 := Lib.hid (show Upd (fun b => blk N b ∨ wm.heap.size ≤ b) wm w10 from by first | exact H9.out.then u10 (fun b _ ⟨x, h1, h2⟩ => by injection h1 with h1; subst h1; subst h2; exact HG9.out) | exact (H9.out.alloc _).then u10 (fun b _ ⟨x, h1, h2⟩ => by injection h1 with h1; subst h1; subst h2; exact HG9.out)); obtain ⟨s1, s2⟩ := HF1.out _ H10.out; have HST9 := Lib.hid (HSTM.out.numsTo' o10w H10.out); have hb9 := (HBF.out _ H10.out).setCell (p := ⟨gO, 1, none⟩) (Nat.le_refl _) (.slice (some ⟨g10, 0, none⟩) (nn + V + m + 1) c10); clear o10w u10 hg10) | (refine step_app_flts (by rfl) _ _ _ (by rfl) 34 (gO + 1) Try.underlying22 infoF (some ⟨g9, 0, none⟩) (nn + V + m) c9 (NUMS ++ upV V m ns gs i V ++ upU i m) (by rfl) (by first | exact HO9.out | exact (OwnF.alloc HO9.out _) | exact (OwnF.drew (OwnF.alloc HO9.out _))) ⟨w8.heap.size, 0, none⟩ 1 1 [bd] (by rfl) (blk_flts HKV9.out) (by omega) (by omega) (by first | exact HB9 | (have hq9 := HB9; simp; omega)) ?_; intro g10 c10 w10 o10w u10 hg10; have H10 := Lib.hid (show Upd (fun b => blk N b ∨ wm.heap.size ≤ b) wm w10 from by first | exact H9.out.then u10 (fun b _ ⟨x, h1, h2⟩ => by injection h1 with h1; subst h1; subst h2; exact HG9.out) | exact (H9.out.alloc _).then u10 (fun b _ ⟨x, h1, h2⟩ => by injection h1 with h1; subst h1; subst h2; exact HG9.out)); obtain ⟨s1, s2⟩ := HF1.out _ H10.out; have HST9 := Lib.hid (HSTM.out.numsTo' o10w H10.out); have hb9 := (HBF.out _ H10.out).setCell (p := ⟨gO, 1, none⟩) (Nat.le_refl _) (.slice (some ⟨g10, 0, none⟩) (nn + V + m + 1) c10); clear o10w u10 hg10) | (refine step_app_flts (by rfl) _ _ _ (by rfl) 34 (gO + 1) Try.underlying22 infoF (some ⟨g9, 0, none⟩) (nn + V + m) c9 (NUMS ++ upV V m ns gs i V ++ upU i m) (by rfl) (by first | exact HO9.out | exact (OwnF.alloc HO9.out _) | exact (OwnF.drew (OwnF.alloc HO9.out _))) ⟨w9.heap.size, 0, none⟩ 1 1 [bd] (by rfl) (blk_flts (Blk.new w9 34 #[.float .f32 bd])) (by omega) (by omega) (by first | exact HB9 | (have hq9 := HB9; simp; omega)) ?_; intro g10 c10 w10 o10w u10 hg10; have H10 := Lib.hid (show Upd (fun b => blk N b ∨ wm.heap.size ≤ b) wm w10 from by first | exact H9.out.then u10 (fun b _ ⟨x, h1, h2⟩ => by injection h1 with h1; subst h1; subst h2; exact HG9.out) | exact (H9.out.alloc _).then u10 (fun b _ ⟨x, h1, h2⟩ => by injection h1 with h1; subst h1; subst h2; exact HG9.out)); obtain ⟨s1, s2⟩ := HF1.out _ H10.out; have HST9 := Lib.hid (HSTM.out.numsTo' o10w H10.out); have hb9 := (HBF.out _ H10.out).setCell (p := ⟨gO, 1, none⟩) (Nat.le_refl _) (.slice (some ⟨g10, 0, none⟩) (nn + V + m + 1) c10); clear o10w u10 hg10)) | (go_simp; go_at_call 76; refine (row_any V m ad n c _ m d G p g i _ ⟨hV1, hV8⟩ hm8 hlt HNL.out hcap).mono ?_; rintro e w7 ⟨c7, rfl, b7⟩; have H7 := Lib.hid (show Upd (fun b => blk N b ∨ wm.heap.size ≤ b) wm w7 from by first | exact HRD.out.below b7 | exact HRA.out.below b7); have o7 := (HF1.out w7 H7.out).1; have o8 := (HF1.out (w7.alloc (.cells #[.float .f32 bd] 34)) (H7.out.alloc _)).1; have HO7 := Lib.hid (show OwnF 34 (gO + 1) w7 N nn cn NUMS from by first | exact OwnF.below HOD.out b7 | exact OwnF.below HOA.out b7); have HB7 : gO + 1 ≤ w7.heap.size := (by have hq9 := b7.size; (try simp at hq9); omega); (try have HKS := Lib.hid (HKS0.out.ext b7)); (try have HBS : wm.heap.size + 1 ≤ w7.heap.size := (by have hq9 := b7.size; simp at hq9; omega)); clear b7))
            all_goals
              go_wp2_with fail
              go_roundg (m - (i + 1))
              case measure => rw [HR2.out]; omega
              case rel => exact ⟨i + 1, _, _, _, rfl, by omega, by go_num, by rw [HSN.out]; exact HST9.out, hb9⟩
          · obtain rfl : m = i := by omega
            have st3 : TabSt gO V wr N nn cn (tabT V m ns bs gs m ++ upV V m ns gs m 0) Q m cq (seqI V m) := by
              show TabSt gO V wr N nn cn (tabT V m ns bs gs m ++ []) Q m cq (seqI V m)
              rw [List.append_nil]; exact st
            clear st
            have r3 := (HKW.out wr hbw).cell 3
            have HLT := Lib.hid (tabT_le (V := V) (ns := ns) (bs := bs) (gs := gs) hV8 hm8 (show m ≤ 9 by omega))
            obtain ⟨wo2, rfl⟩ : ∃ wo2 : World, wo2 = wr := ⟨_, rfl⟩
            go_wp2_with fail
            clear r3
            go_loopg [65] p (fun r iv wi => ∃ (k : Nat) (N : Option Addr) (nn cn : Nat), r = p - k ∧ k ≤ p ∧ iv = .int .i64 k ∧ TabSt gO V wi N nn cn (tabT V m ns bs gs m ++ upV V m ns gs m k) Q m cq (seqI V m) ∧ Below gO w1 wi)
            case atStart => exact ⟨0, _, _, _, rfl, Nat.zero_le _, rfl, st3, hbw⟩
            case round =>
              clear st3 hbw
              obtain ⟨k, N, nn, cn, hr, hk, rfl, st, hbw⟩ := hrel
              have HR3 := Lib.hid hr
              clear hr
              have HST := Lib.hid st
              have hszO : gO + 1 ≤ wr.heap.size := st.k.lt
              have hpV : p ≤ 8 := by rw [HPL.out]; exact hV8
              have hnn : nn ≤ 200 := by have := st.oN.len; have := HLT.out; rw [List.length_append, upV_len] at *; omega
              have o1 := (st.k.cell 1).trans (show _ = some (Value.slice N nn cn) from rfl)
              clear st
              by_cases hlk : k < p
              · have hlk' : (k : Int) < (p : Int) := by omega
                obtain ⟨ad, rfl, _, cx⟩ := (HGA.out.below (HBW.out wr hbw)).at_ hlk
                have HSN := Lib.hid (show tabT V m ns bs gs m ++ upV V m ns gs m (k + 1) = (tabT V m ns bs gs m ++ upV V m ns gs m k) ++ [Op.negFloat .f32 (gs.getD k 0)] by rw [upV_succ, List.append_assoc, show cellV V m ns gs m k = Op.negFloat .f32 (gs.getD k 0) from if_neg (by omega)])
                generalize tabT V m ns bs gs m ++ upV V m ns gs m k = NUMS at *
                generalize gs.getD k 0 = x at *
                have hneg := fun (w : World) (b : Nat) => run_neg_f (P := Try.prog) w b
                go_wp2_with (at_builtin; refine wp_append_flt _ (Op.negFloat .f32 x) rfl _ _ _ rfl 34 (gO + 1) Try.underlying22 infoF N nn cn NUMS rfl HST.out.oN rfl (by omega) hszO ?_; intro g5 c5 w5 o5 u5 b5 _; obtain ⟨s1, s2⟩ := HST.out.boxFree u5 1; have HST5 := Lib.hid (HST.out.numsTo o5 u5); have hb5 := (below_app hbw (Nat.le_of_succ_le hszO) u5 (show OwnC 34 (gO + 1) 1 _ N nn cn (List.map (Value.float .f32) NUMS) from HST.out.oN) (Nat.le_succ gO)).setCell (p := ⟨gO, 1, none⟩) (Nat.le_refl _) (.slice (some ⟨g5, 0, none⟩) (nn + 1) c5); clear o5 u5 b5)
                go_roundg (p - (k + 1))
                case measure => rw [HR3.out]; omega
                case rel => exact ⟨k + 1, _, _, _, rfl, by omega, by go_num, by rw [HSN.out]; exact HST5.out, hb5⟩
              · obtain rfl : p = k := by omega
                have HLT2 := Lib.hid (show tabT V m ns bs gs m ++ upV V m ns gs m p ++ List.replicate (m + 1) 0 = tabT V m ns bs gs (m + 1) by rw [tabT_last, HPL.out])
                have hpos : 0 < nn := by
                  have := HST.out.oN.len
                  rw [List.length_append, upV_len] at this
                  have := HPL.out
                  omega
                generalize tabT V m ns bs gs m ++ upV V m ns gs m p = NUMS at *
                obtain ⟨gN, rfl, _⟩ := HST.out.oN.pos hpos
                have r2 := (HKW.out wr hbw).cell 2
                have HK2 := Lib.hid (HK2W.out wr hbw)
                have hm9 : m ≤ 8 := hm8
                go_wp2_with (at_builtin; go_loud (refine wp_append_zeros _ rfl _ _ _ _ rfl .i64 (by kernel_rfl) 34 (gO + 1) Try.underlying22 infoF gN nn cn NUMS rfl HST.out.oN (m + 1) (by go_num) (by omega) (by omega) hszO ?_; intro g5 c5 w5 o5 u5 hg5; obtain ⟨s1, s2⟩ := HST.out.boxFree u5 1; have HST5 := Lib.hid (HST.out.numsTo o5 u5); have hb5 := (below_app hbw (Nat.le_of_succ_le hszO) u5 (show OwnC 34 (gO + 1) 1 _ (some ⟨gN, 0, none⟩) nn cn (List.map (Value.float .f32) NUMS) from HST.out.oN) (Nat.le_succ gO)).setCell (p := ⟨gO, 1, none⟩) (Nat.le_refl _) (.slice (some ⟨g5, 0, none⟩) (nn + (m + 1)) c5); have y0 := HST5.out.k.cell 0; have HU := Lib.hid (tab_end HST5.out (HBW.out _ hb5) (Nat.le_refl _) hg1); have y1 := HST5.out.k.cell 1; have y2 := HST5.out.k.cell 2; have K2w := HK2W.out _ hb5; have x0 := K2w.cell 0; have x1 := K2w.cell 1; have x2 := K2w.cell 2; have fx0 := K2w.free 0; have fx1 := K2w.free 1; have fx2 := K2w.free 2; clear o5 u5 hg5 K2w))
                refine bodyPost_ret (v := .tuple #[.agg #[.int .i64 V, .slice (some ⟨g5, 0, none⟩) (nn + (m + 1)) c5, .slice Q m cq], .bool true]) (by simp [results, Try.results60, go_sem, x0, x1, x2]) rfl ?_
                rw [HV.out.1, HV.out.2.1, HV.out.2.2, ← HLT2.out]
                exact ⟨_, _, _, _, _, _, rfl, HU.out _ ((((Upd.refl (fun k => k = w.heap.size + 1) _).setCell (p := ⟨w.heap.size + 1, 0, none⟩) (.inl rfl) _).setCell (p := ⟨w.heap.size + 1, 1, none⟩) (.inl rfl) _).setCell (p := ⟨w.heap.size + 1, 2, none⟩) (.inl rfl) _)⟩
end Go.Proofs.Ytbbcddbdinmaaaa
