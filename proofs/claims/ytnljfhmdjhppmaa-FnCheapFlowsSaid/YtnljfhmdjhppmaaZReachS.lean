/- Which nodes are reached: the walk of the reference. -/
import Derived.Test.YtnljfhmdjhppmaaZReach
namespace Go.Proofs.Ytnljfhmdjhppmaa
open Go.RowKit

/-- the cells of the j-th left over arc of a slice -/
theorem left_cells {T base g m q : Nat} {w : World} {ls : List LinkR} (h : OwnC T base 6 w (some ⟨g, 0, none⟩) m q (flatV LinkR.cellsS ls)) {j : Nat} (hj : j < m) :
    w.cell? ⟨g, j * 6, none⟩ = some (.int .i64 (ls.getD j default).fr) ∧ w.cell? ⟨g, j * 6 + 1, none⟩ = some (.int .i64 (ls.getD j default).to_) ∧ w.cell? ⟨g, j * 6 + 2, none⟩ = some (.int .i64 (ls.getD j default).room) ∧
    w.cell? ⟨g, j * 6 + 3, none⟩ = some (.int .i64 (ls.getD j default).cost) ∧ w.cell? ⟨g, j * 6 + 4, none⟩ = some (.int .i64 (ls.getD j default).arc) ∧ w.cell? ⟨g, j * 6 + 5, none⟩ = some (.bool (ls.getD j default).back) := by
  have hl : ls.length = m := by
    have := OwnC.len h
    rw [flatV_len LinkR.cellsS 6 (fun _ => rfl)] at this
    omega
  have key : ∀ i, i < 6 → w.cell? ⟨g, j * 6 + i, none⟩ = (ls.getD j default).cellsS[i]? := fun i hi => by
    rw [OwnC.cell h (by omega), flatV_get LinkR.cellsS 6 (fun _ => rfl) default ls j i (by omega) hi]
  exact ⟨key 0 (by omega), key 1 (by omega), key 2 (by omega), key 3 (by omega), key 4 (by omega), key 5 (by omega)⟩
theorem rep_snoc (k : Nat) (x : Int) : List.replicate k x ++ [x] = List.replicate (k + 1) x := by
  rw [List.replicate_succ']

theorem infoInt : (Try.prog.info? 3).map (fun i => (i.zero, i.size, i.bytes)) = some (some (.int .i64 0), 1, 8) := by kernel_rfl
set_option maxRecDepth 100000 in
set_option maxHeartbeats 3200000 in
theorem l03Reach_any (g N : Nat) (V : Value) (L : Option Addr) (m q : Nat) (ls : List LinkR) (F : Nat) (base : Nat) (w : World) (hb : Blk w g 26 #[.int .i64 N, V]) (hN1 : 1 ≤ N) (hN : N ≤ 16) (hF : F < N) (hls : LinksOk ls N) (hm : ls.length = m) (hm2 : m ≤ 96)
    (hown : OwnC 88 base 6 w L m q (flatV LinkR.cellsS ls)) :
    Calls Try.prog 69 #[.pointer (some ⟨g, 0, none⟩), .slice L m q, .int .i64 F] w fun e w' => ∃ (gB cB : Nat), e = .returned (.slice (some ⟨gB, 0, none⟩) N cB) ∧ OwnI 3 w.heap.size w' (some ⟨gB, 0, none⟩) N cB (reachL ls N F) ∧ Below w.heap.size w w' := by
  have HLS := Lib.hid hls
  have HM := Lib.hid hm
  have he : OwnI 3 w.heap.size (w.alloc (.cells #[] 3)) (some ⟨w.heap.size, 0, none⟩) 0 0 (List.replicate 0 (-2)) := World.ownsRow_lit (e := 3) (base := w.heap.size) (size := 1) w #[] 0 (Nat.le_refl _) (Nat.zero_le _) rfl
  have hW : Below w.heap.size w (w.alloc (.cells #[] 3)) := (Below.refl _ _).alloc (Nat.le_refl _) _
  clear hls hm
  go_enter Try.func69, Try.ntmps69
  go_wp2_with fail
  generalize w.alloc (.cells #[] 3) = W at *
  go_loopg [7, 8] N (fun r bv iv wr => ∃ (k : Nat) (B : Option Addr) (c : Nat), r = N - k ∧ k ≤ N ∧ iv = .int .i64 k ∧ bv = .slice B k c ∧ OwnI 3 w.heap.size wr B k c (List.replicate k (-2)) ∧ Below w.heap.size w wr)
  case atStart => exact ⟨0, _, 0, rfl, by omega, rfl, rfl, he, hW⟩
  case round =>
    clear he hW
    obtain ⟨k, B, c, hr, hk, rfl, rfl, ob, hbw⟩ := hrel
    have HR := Lib.hid hr
    clear hr
    have p0 := (hb.ext hbw).cell 0
    have hsz := hbw.size
    by_cases hlt : k < N
    · go_wp2_with (at_builtin; refine wp_append_int _ _ rfl _ _ _ rfl 3 w.heap.size Try.underlying85 infoInt B k c _ rfl ob rfl (by omega) hsz ?_; intro g5 c5 w6 o6 u6 b6 hg6)
      rw [rep_snoc] at o6
      go_roundg (N - (k + 1))
      case measure => rw [HR.out]; omega
      case rel => exact ⟨k + 1, _, c5, rfl, by omega, by go_num, rfl, o6, hbw.trans b6⟩
    · have e : k = N := by omega
      subst e
      obtain ⟨gB, rfl, hgB, hgBl, _, _⟩ := OwnI.pos ob (by omega)
      have hFN : (F : Int) < (k : Int) := by omega
      have fr := OwnI.free ob F
      have cF := OwnI.cell ob hF
      have ob2 := OwnI.set ob F (-1)
      have hb2 := hbw.setCell (p := ⟨gB, F, none⟩) hgB (.int .i64 (-1))
      have eq0 : OwnI 2 w.heap.size ((wr.setCell ⟨gB, F, none⟩ (.int .i64 (-1))).alloc (.cells #[.int .i64 F] 2)) (some ⟨(wr.setCell ⟨gB, F, none⟩ (.int .i64 (-1))).heap.size, 0, none⟩) 1 1 [(F : Int)] := World.ownsRow_lit (e := 2) (base := w.heap.size) (size := 1) (wr.setCell ⟨gB, F, none⟩ (.int .i64 (-1))) #[.int .i64 F] 1 hb2.size (by simp [maxLen]) rfl
      have hszw : (wr.setCell ⟨gB, F, none⟩ (.int .i64 (-1))).heap.size = wr.heap.size := by simp
      have hb3 := hb2.alloc hb2.size (.cells #[.int .i64 F] 2)
      replace ob2 := OwnI.alloc ob2 (.cells #[.int .i64 F] 2)
      rw [hszw] at eq0
      go_wp2_with fail
      generalize (wr.setCell ⟨gB, F, none⟩ (.int .i64 (-1))).alloc (.cells #[.int .i64 F] 2) = W2 at *
      have hQ0 : ∀ ad, some (⟨wr.heap.size, 0, none⟩ : Addr) = some ad → ad.block ≠ gB := by
        intro ad ha
        injection ha with ha
        subst ha
        show wr.heap.size ≠ gB
        omega
      clear fr cF hszw hb2 ob
      generalize hgs : wr.heap.size = gs at *
      clear hgs
      go_loopg [9, 10] k (fun r qv iv wr => ∃ (i : Nat) (Q : Option Addr) (qn qc : Nat), r = k - i ∧ i ≤ qn ∧ qn ≤ k ∧ iv = .int .i64 i ∧ qv = .slice Q qn qc ∧ OwnI 2 w.heap.size wr Q qn qc (bfsTo ls k F i).2 ∧ OwnI 3 w.heap.size wr (some ⟨gB, 0, none⟩) k c (bfsTo ls k F i).1 ∧ (∀ ad, Q = some ad → ad.block ≠ gB) ∧ Below w.heap.size w wr)
      case atStart => exact ⟨0, _, 1, 1, rfl, by omega, by omega, rfl, rfl, eq0, ob2, hQ0, hb3⟩
      case round =>
        clear eq0 ob2 hQ0 hb3
        obtain ⟨i, Q, qn, qc, hr, hi, hqN, rfl, rfl, oq, ob, hQ, hbx⟩ := hrel
        have HR := Lib.hid hr
        clear hr
        have HQL := Lib.hid (OwnI.len oq)
        by_cases hlt : i < qn
        · have hok := bfs_ok HLS.out hF i
          have HST := Lib.hid (bfs_step (ls := ls) (N := k) (f := F) (i := i) (by rw [HQL.out]; exact hlt))
          generalize bfsTo ls k F i = st at *
          have hu := hok.qin i (by rw [HQL.out]; exact hlt)
          have HSC := Lib.hid (bfs_scan HLS.out hok (by rw [HQL.out]; exact hlt) _ rfl)
          generalize st.2.getD i 0 = u at *
          have HBL := Lib.hid (fun k (hk : k ≤ ls.length) => (HSC.out k hk).1)
          clear hok
          go_wp2_with fail
          obtain ⟨wo, rfl⟩ : ∃ wo : World, wo = wr := ⟨_, rfl⟩
          go_loopg [9, 37] m (fun r qv kv wi => ∃ (j : Nat) (Q : Option Addr) (qn qc : Nat), r = m - j ∧ j ≤ m ∧ i + 1 ≤ qn ∧ qn ≤ k ∧ kv = .int .i64 j ∧ qv = .slice Q qn qc ∧ OwnI 2 w.heap.size wi Q qn qc (scanTo ls u st j).2 ∧ OwnI 3 w.heap.size wi (some ⟨gB, 0, none⟩) k c (scanTo ls u st j).1 ∧ (∀ ad, Q = some ad → ad.block ≠ gB) ∧ Below w.heap.size w wi)
          case atStart => exact ⟨0, Q, qn, qc, rfl, by omega, by omega, hqN, rfl, rfl, oq, ob, hQ, hbx⟩
          case round =>
            clear oq ob hQ hbx hqN hlt hi HQL
            obtain ⟨j, Q, qn, qc, hr, hj, hi, hqN, rfl, rfl, oq, ob, hQ, hbx⟩ := hrel
            have HR2 := Lib.hid hr
            clear hr
            by_cases hlk : j < m
            · obtain ⟨hok, hi', hu'⟩ := HSC.out j (by rw [HM.out]; omega)
              have hlk2 := HLS.out j (by rw [HM.out]; exact hlk)
              have hown4 := OwnC.below hown hbx
              obtain ⟨gL, rfl, _, hgLlt, _⟩ := OwnC.pos hown4 (by omega)
              obtain ⟨c0, c1, c2, c3, c4, c5⟩ := left_cells hown4 hlk
              have HY := Lib.hid (@scan_yes ls u st j)
              have HN1 := Lib.hid (@scan_no1 ls u st j)
              have HN2 := Lib.hid (@scan_no2 ls u st j)
              have HBLN := Lib.hid hok.len
              have hgLo := (OwnC.lt hown rfl).2
              have HLD := Lib.hid (show ls.getD j default = ls.getD j default from rfl)
              generalize hl : ls.getD j default = l at *
              have HL := Lib.hid hl
              clear hl HLD
              obtain ⟨la, lb, lf, lt, lr, lc⟩ := l
              obtain ⟨⟨a0, a1⟩, ⟨b0, b1⟩⟩ := hlk2
              have b0' : 0 ≤ lt := b0
              have b1' : lt < k := b1
              obtain ⟨t, rfl⟩ := Int.eq_ofNat_of_zero_le b0'
              have htN : t < k := by omega
              have hcq := OwnI.ints oq
              obtain ⟨qd, rfl, _, hcu⟩ := hcq.at_ (k := i) (by omega)
              have hu2 : (scanTo ls u st j).2.getD i 0 = u := hu'
              rw [hu2] at hcu
              have hcb := OwnI.cell ob htN
              clear hok hi' hu' hu2 hcq a0 a1 b0 b1 b0' hown4
              by_cases hfu : lf = u
              · have hfb : (lf == u) = true := by rw [beq_iff_eq]; exact hfu
                by_cases hby : (scanTo ls u st j).1.getD t 0 = -2
                · have HE := Lib.hid (HY.out hfu hby)
                  have HBL2 := Lib.hid (show qn + 1 ≤ k by
                    have h1 := HBL.out (j + 1) (by rw [HM.out]; omega)
                    have h2 := h1.cnt
                    rw [HE.out] at h2
                    have h3 := OwnI.len oq
                    simp only [List.length_append, List.length_singleton] at h2
                    omega)
                  rw [hby] at hcb
                  clear hfu hby
                  go_wp2_with fail
                  go_quiet (fail)
                  have hgBl' := (OwnI.lt ob rfl)
                  have fb : (wr.drewN nq).frozen? ⟨gB, t, none⟩ = false := OwnI.free ob t
                  have hcb3 : (wr.drewN nq).cell? ⟨gB, t, none⟩ = some (.int .i64 (-2)) := hcb
                  have d0 : (wr.drewN nq).cell? ⟨gL, j * 6 + 1, none⟩ = some (.int .i64 t) := c1
                  have ob3 := OwnI.set (OwnI.drewN ob nq) t (j : Int)
                  have oq3 := OwnI.far (OwnI.drewN oq nq) (p := ⟨gB, t, none⟩) (fun ad ha => hQ ad ha) (.int .i64 j)
                  have hb3 := (below_drewN hbx nq).setCell (p := ⟨gB, t, none⟩) hgBl'.1 (.int .i64 j)
                  have HD : ((wr.drewN nq).setCell ⟨gB, t, none⟩ (.int .i64 j)).cell? ⟨gL, j * 6 + 1, none⟩ = some (.int .i64 t) := by
                    have h := (left_cells (OwnC.below hown hb3) hlk).2.1
                    rw [HL.out] at h
                    exact h
                  clear hcb hcu c0 c1 c2 c3 c4 c5 ob oq hbx
                  go_upto_region 16 with (fail)
                  generalize (wr.drewN nq).setCell ⟨gB, t, none⟩ (.int .i64 j) = W3 at *
                  clear fb hcb3 d0
                  have hsz3 := hb3.size
                  have hqN2 := HBL2.out
                  go_wp2_with (at_builtin; refine wp_append_int _ _ rfl _ _ _ rfl 2 w.heap.size Try.underlying29 info64 (some qd) qn qc _ rfl oq3 rfl (by omega) hsz3 ?_; intro g5 c5 w6 o6 u6 b6 hg6)
                  have hnew : ∀ ad, some (⟨g5, 0, none⟩ : Addr) = some ad → ad.block ≠ gB := by
                    intro ad ha
                    injection ha with ha
                    subst ha
                    rcases hg6 with ⟨x, e1, e2⟩ | h6
                    · have := hQ x e1; rw [e2] at this; exact this
                    · have h7 : gB < W3.heap.size := (OwnI.lt ob3 rfl).2
                      show g5 ≠ gB
                      omega
                  have hS1 : Sep (some (⟨gB, 0, none⟩ : Addr)) (some qd) := fun a b ha hb e => by injection ha with ha; injection hb with hb; subst ha hb; exact (hQ _ rfl) e.symm
                  go_wp2_with fail
                  go_roundg (m - (j + 1))
                  case measure => rw [HR2.out]; omega
                  case rel => exact ⟨j + 1, _, qn + 1, c5, rfl, by omega, by omega, hqN2, by go_num, rfl, by rw [HE.out]; exact o6, by rw [HE.out]; exact OwnI.sep ob3 u6 hS1, hnew, hb3.trans b6⟩
                · have HE := Lib.hid (HN2.out hby)
                  have hrb : ((scanTo ls u st j).1.getD t 0 == -2) = false := by rw [beq_eq_false_iff_ne]; exact hby
                  generalize (scanTo ls u st j).1.getD t 0 = bt at *
                  clear hfu hby
                  go_wp2_with fail
                  go_quiet (fail)
                  go_wp2_with fail
                  go_roundg (m - (j + 1))
                  case measure => rw [HR2.out]; omega
                  case rel => exact ⟨j + 1, _, qn, qc, rfl, by omega, hi, hqN, by go_num, rfl, by rw [HE.out]; exact OwnI.drewN oq _, by rw [HE.out]; exact OwnI.drewN ob _, hQ, below_drewN hbx _⟩
              · have hfb : (lf == u) = false := by rw [beq_eq_false_iff_ne]; exact hfu
                have HE := Lib.hid (HN1.out hfu)
                clear hfu
                go_wp2_with fail
                go_quiet (fail)
                go_wp2_with fail
                go_roundg (m - (j + 1))
                case measure => rw [HR2.out]; omega
                case rel => exact ⟨j + 1, _, qn, qc, rfl, by omega, hi, hqN, by go_num, rfl, by rw [HE.out]; exact OwnI.drewN oq _, by rw [HE.out]; exact OwnI.drewN ob _, hQ, below_drewN hbx _⟩
            · have e : j = m := by omega
              subst e
              go_wp2_with fail
              go_roundg (k - (i + 1))
              case measure => rw [HR.out]; omega
              case rel => exact ⟨i + 1, Q, qn, qc, rfl, hi, hqN, by go_num, rfl, by rw [HST.out, HM.out]; exact oq, by rw [HST.out, HM.out]; exact ob, hQ, hbx⟩
        · have HD := Lib.hid (show bfsTo ls k F k = bfsTo ls k F i from bfs_done (by rw [HQL.out]; exact hlt) (by omega))
          go_wp2_with fail
          go_ret
          exact ⟨gB, c, rfl, by unfold reachL; rw [HD.out]; exact ob, hbx⟩
end Go.Proofs.Ytnljfhmdjhppmaa
