/- 'least' of the program: the walk. -/
import Derived.Test.YtpaahjeohigngaaJ4
import Derived.RegionTactic
namespace Go.Proofs.Ytpaahjeohigngaa
open Go.RowKit

theorem boolsC_get {ks : List Bool} {v N : Nat} (hl : ks.length = N) (h : v < N) : (ks.map Value.bool)[v]? = some (.bool (ks.getD v false)) := by
  rw [List.getElem?_map, List.getElem?_eq_getElem (by omega)]
  simp [List.getD, List.getElem?_eq_getElem (show v < ks.length by omega)]
/-- the cells of a link, some of them as told -/
def cellsG (x0 x1 x4 : LinkR → Int) (l : LinkR) : List Value := [.int .i64 (x0 l), .int .i64 (x1 l), .int .i64 l.fr, .int .i64 l.to_, .int .i64 (x4 l), .int .i64 l.cost]
def lastG (x0 x1 x4 : LinkR → Int) (ls : List LinkR) (b : Int) : List Value := if b < 0 then zero6 else cellsG x0 x1 x4 (ls.getD b.toNat default)
theorem cells_G : LinkR.cells = cellsG (fun l => l.arc) LinkR.by_ LinkR.room := rfl
theorem last_G (ls : List LinkR) : lastC ls = lastG (fun l => l.arc) LinkR.by_ LinkR.room ls := rfl
theorem lastG_len (x0 x1 x4 : LinkR → Int) (ls : List LinkR) (b : Int) : (lastG x0 x1 x4 ls b).length = 6 := by unfold lastG; split <;> rfl
theorem link_cellsG {x0 x1 x4 : LinkR → Int} {T base g m q : Nat} {w : World} {ls : List LinkR} (h : OwnC T base 6 w (some ⟨g, 0, none⟩) m q (flatV (cellsG x0 x1 x4) ls)) {j : Nat} (hj : j < m) :
    w.cell? ⟨g, j * 6, none⟩ = some (.int .i64 (x0 (ls.getD j default))) ∧ w.cell? ⟨g, j * 6 + 1, none⟩ = some (.int .i64 (x1 (ls.getD j default))) ∧ w.cell? ⟨g, j * 6 + 2, none⟩ = some (.int .i64 (ls.getD j default).fr) ∧
    w.cell? ⟨g, j * 6 + 3, none⟩ = some (.int .i64 (ls.getD j default).to_) ∧ w.cell? ⟨g, j * 6 + 4, none⟩ = some (.int .i64 (x4 (ls.getD j default))) ∧ w.cell? ⟨g, j * 6 + 5, none⟩ = some (.int .i64 (ls.getD j default).cost) := by
  have hl : ls.length = m := by
    have := OwnC.len h
    rw [flatV_len (cellsG x0 x1 x4) 6 (fun _ => rfl)] at this
    omega
  have key : ∀ i, i < 6 → w.cell? ⟨g, j * 6 + i, none⟩ = (cellsG x0 x1 x4 (ls.getD j default))[i]? := fun i hi => by
    rw [OwnC.cell h (by omega), flatV_get (cellsG x0 x1 x4) 6 (fun _ => rfl) default ls j i (by omega) hi]
  exact ⟨key 0 (by omega), key 1 (by omega), key 2 (by omega), key 3 (by omega), key 4 (by omega), key 5 (by omega)⟩
theorem last_cellG {x0 x1 x4 : LinkR → Int} {T base g N v : Nat} {w : World} {ls : List LinkR} {by_ : List Int} (h : OwnC T base 6 w (some ⟨g, 0, none⟩) N N (flatV (lastG x0 x1 x4 ls) by_)) (hl : by_.length = N) (hv : v < N) (i : Nat) (hi : i < 6) :
    w.cell? ⟨g, v * 6 + i, none⟩ = some ((lastG x0 x1 x4 ls (by_.getD v 0))[i]'(by rw [lastG_len]; exact hi)) := by
  rw [OwnC.cell h (by omega), flatV_get (lastG x0 x1 x4 ls) 6 (lastG_len x0 x1 x4 ls) 0 by_ v i (by omega) hi, List.getElem?_eq_getElem (by rw [lastG_len]; exact hi)]
def three (a b c : Nat) (x : Nat) : Prop := x = a ∨ x = b ∨ x = c

set_option maxRecDepth 100000 in
set_option maxHeartbeats 6400000 in
theorem least_any (x0 x1 x4 : LinkR → Int) (base bL gD gK gl N T : Nat) (L : Option Addr) (m q : Nat) (ls : List LinkR) (s : LeastS) (w : World) (hN : N ≤ 16) (hT : T ≤ 16) (hls : LinksOk ls N) (hlc : LinksC ls) (hm : ls.length = m) (hm2 : m ≤ 96) (hs : LeastOk N s 0)
    (hL : OwnC 59 bL 6 w L m q (flatV (cellsG x0 x1 x4) ls)) (hsep : ∀ ad, L = some ad → ad.block ≠ gD ∧ ad.block ≠ gK ∧ ad.block ≠ gl) (h1 : gD ≠ gK) (h2 : gD ≠ gl) (h3 : gK ≠ gl)
    (hD : OwnI 2 base w (some ⟨gD, 0, none⟩) N N s.d) (hK : OwnC 4 base 1 w (some ⟨gK, 0, none⟩) N N (s.k.map Value.bool)) (hB : OwnC 59 base 6 w (some ⟨gl, 0, none⟩) N N (flatV (lastG x0 x1 x4 ls) s.b)) :
    Calls Try.prog 34 #[.slice L m q, .slice (some ⟨gD, 0, none⟩) N N, .slice (some ⟨gK, 0, none⟩) N N, .slice (some ⟨gl, 0, none⟩) N N, .int .i64 T] w fun e w' => e = .returned (.int .i64 (leastR ls { s with e := -1 } T).e) ∧
      OwnI 2 base w' (some ⟨gD, 0, none⟩) N N (leastR ls { s with e := -1 } T).d ∧ OwnC 4 base 1 w' (some ⟨gK, 0, none⟩) N N ((leastR ls { s with e := -1 } T).k.map Value.bool) ∧ OwnC 59 base 6 w' (some ⟨gl, 0, none⟩) N N (flatV (lastG x0 x1 x4 ls) (leastR ls { s with e := -1 } T).b) ∧ Upd (three gD gK gl) w w' := by
  have HLS := Lib.hid hls
  have HLC := Lib.hid hlc
  have HM := Lib.hid hm
  have HSEP := Lib.hid hsep
  have HOK := Lib.hid (fun r => least_r_ok (s := { s with e := -1 }) hls hlc (by rw [hm]; exact hm2) ⟨hs.dl, hs.kl, hs.bl, hs.bd⟩ r)
  have HS0 := Lib.hid (show leastR ls { s with e := -1 } 0 = { s with e := -1 } from rfl)
  have HD := Lib.hid hD
  have HK := Lib.hid hK
  have HB := Lib.hid hB
  clear hls hlc hm hsep hs hD hK hB
  go_enter Try.func34, Try.ntmps34
  go_wp2_with fail
  go_loopg [4, 11] T (fun r tv ev wr => ∃ (k : Nat) (st : LeastS), r = T - k ∧ k ≤ T ∧ tv = .int .i64 ((T : Int) - k) ∧ ev = .int .i64 st.e ∧ Hid (st = leastR ls { s with e := -1 } k) ∧ OwnI 2 base wr (some ⟨gD, 0, none⟩) N N st.d ∧ OwnC 4 base 1 wr (some ⟨gK, 0, none⟩) N N (st.k.map Value.bool) ∧ OwnC 59 base 6 wr (some ⟨gl, 0, none⟩) N N (flatV (lastG x0 x1 x4 ls) st.b) ∧ Upd (three gD gK gl) w wr)
  case atStart => exact ⟨0, { s with e := -1 }, rfl, by omega, by simp, rfl, Lib.hid HS0.out.symm, HD.out, HK.out, HB.out, Upd.refl _ _⟩
  case round =>
    obtain ⟨k, st, hr, hk, rfl, rfl, hst, oD, oK, oB, hu⟩ := hrel
    have HR := Lib.hid hr
    clear hr
    by_cases hlt : k < T
    · have hpos : (0 : Int) < (T : Int) - k := by omega
      have HST := Lib.hid (show leastTo ls st ls.length = leastR ls { s with e := -1 } (k + 1) by rw [leastR, ← hst.out])
      have HLO := Lib.hid (show LeastOk N st (96000 * k) by have := HOK.out k; rwa [← hst.out] at this)
      have HT0 := Lib.hid (show leastTo ls st 0 = { st with e := -1 } from rfl)
      go_wp2_with fail
      obtain ⟨wo, rfl⟩ : ∃ wo : World, wo = wr := ⟨_, rfl⟩
      go_loopg [11, 21] m (fun r ev jv wi => ∃ (j : Nat) (t : LeastS), r = m - j ∧ j ≤ m ∧ jv = .int .i64 j ∧ ev = .int .i64 t.e ∧ Hid (t = leastTo ls st j) ∧ OwnI 2 base wi (some ⟨gD, 0, none⟩) N N t.d ∧ OwnC 4 base 1 wi (some ⟨gK, 0, none⟩) N N (t.k.map Value.bool) ∧ OwnC 59 base 6 wi (some ⟨gl, 0, none⟩) N N (flatV (lastG x0 x1 x4 ls) t.b) ∧ Upd (three gD gK gl) w wi)
      case atStart => exact ⟨0, { st with e := -1 }, rfl, by omega, rfl, rfl, Lib.hid HT0.out.symm, oD, oK, oB, hu⟩
      case round =>
        clear oD oK oB hu
        obtain ⟨j, t, hr, hj, rfl, rfl, ht, oD, oK, oB, hu⟩ := hrel
        have HR2 := Lib.hid hr
        clear hr
        by_cases hlj : j < m
        · have hto := least_to_ok HLS.out HLC.out HLO.out (by omega) j (by rw [HM.out]; omega)
          rw [← ht.out] at hto
          have HTO := Lib.hid hto
          have hlk := HLS.out j (by rw [HM.out]; exact hlj)
          have hlcc := HLC.out j (by rw [HM.out]; exact hlj)
          have hL2 := OwnC.upd hL hu (fun ad hh1 hh2 => by
            have := HSEP.out ad hh1
            rcases hh2 with e | e | e <;> omega)
          obtain ⟨gL, rfl, _, hgLl, _⟩ := OwnC.pos hL2 (by omega)
          obtain ⟨c0, c1, c2, c3, c4, c5⟩ := link_cellsG hL2 hlj
          have HN := Lib.hid (show leastTo ls st (j + 1) = leastStep t (ls.getD j default) j by rw [leastTo, ← ht.out])
          generalize hl : ls.getD j default = l at *
          have HL := Lib.hid hl
          clear hl hL2
          obtain ⟨la, lb, lf, lt, lr, lc⟩ := l
          obtain ⟨⟨a0, a1⟩, ⟨b0, b1⟩⟩ := hlk
          have a0' : 0 ≤ lf := a0
          have a1' : lf < N := a1
          have b0' : 0 ≤ lt := b0
          have b1' : lt < N := b1
          obtain ⟨cc0, cc1⟩ := hlcc
          have cc0' : -1000 ≤ lc := cc0
          have cc1' : lc ≤ 1000 := cc1
          obtain ⟨f, rfl⟩ := Int.eq_ofNat_of_zero_le a0'
          obtain ⟨v, rfl⟩ := Int.eq_ofNat_of_zero_le b0'
          have hfN : f < N := by omega
          have hvN : v < N := by omega
          have bdf := hto.bd f hfN
          have bdv := hto.bd v hvN
          have HBY := Lib.hid (show cellsG x0 x1 x4 ⟨la, lb, f, v, lr, lc⟩ = [.int .i64 (x0 ⟨la, lb, f, v, lr, lc⟩), .int .i64 (x1 ⟨la, lb, f, v, lr, lc⟩), .int .i64 f, .int .i64 v, .int .i64 (x4 ⟨la, lb, f, v, lr, lc⟩), .int .i64 lc] from rfl)
          have HLG := Lib.hid (show leastGo t ⟨la, lb, f, v, lr, lc⟩ = (t.k.getD f false && (!t.k.getD v false || decide (t.d.getD f 0 + lc < t.d.getD v 0))) from rfl)
          generalize x0 ⟨la, lb, f, v, lr, lc⟩ = y0 at *
          generalize x1 ⟨la, lb, f, v, lr, lc⟩ = y1 at *
          generalize x4 ⟨la, lb, f, v, lr, lc⟩ = y4 at *
          clear a0 a1 b0 b1 a0' a1' b0' b1' cc0 cc1 hto
          have ka := Blk.new wr 59 #[.int .i64 y0, .int .i64 y1, .int .i64 f, .int .i64 v, .int .i64 y4, .int .i64 lc]
          have oD1 := OwnI.alloc oD (.cells #[.int .i64 y0, .int .i64 y1, .int .i64 f, .int .i64 v, .int .i64 y4, .int .i64 lc] 59)
          have oK1 := OwnC.alloc oK (.cells #[.int .i64 y0, .int .i64 y1, .int .i64 f, .int .i64 v, .int .i64 y4, .int .i64 lc] 59)
          have oB1 := OwnC.alloc oB (.cells #[.int .i64 y0, .int .i64 y1, .int .i64 f, .int .i64 v, .int .i64 y4, .int .i64 lc] 59)
          have hu1 := hu.alloc (.cells #[.int .i64 y0, .int .i64 y1, .int .i64 f, .int .i64 v, .int .i64 y4, .int .i64 lc] 59)
          have nD := (OwnI.lt oD rfl).2
          have nK := (OwnC.lt oK rfl).2
          have nB := (OwnC.lt oB rfl).2
          have e0 := ka.cell 0
          have e1 := ka.cell 1
          have e2 := ka.cell 2
          have e3 := ka.cell 3
          have e4 := ka.cell 4
          have e5 := ka.cell 5
          have hsz := ka.lt
          have uKf := OwnC.cell oK1 (j := f) (by omega)
          rw [boolsC_get HTO.out.kl hfN] at uKf
          have uKv := OwnC.cell oK1 (j := v) (by omega)
          rw [boolsC_get HTO.out.kl hvN] at uKv
          have uDf := OwnI.cell oD1 hfN
          have uDv := OwnI.cell oD1 hvN
          have KA := Lib.hid ka
          clear ka oD oK oB hu
          cases hkf : t.k.getD f false
          · have HE := Lib.hid (show leastTo ls st (j + 1) = t by rw [HN.out]; unfold leastStep; rw [if_neg]; rw [HLG.out, hkf]; simp)
            rw [hkf] at uKf
            clear hkf
            go_wp2_with fail
            go_roundg (m - (j + 1))
            case measure => rw [HR2.out]; omega
            case rel => exact ⟨j + 1, t, rfl, by omega, by go_num, rfl, Lib.hid HE.out.symm, oD1, oK1, oB1, hu1⟩
          · rw [hkf] at uKf
            have v1 : IntKind.i64.wrap (t.d.getD f 0 + lc) = t.d.getD f 0 + lc := IntWalk.i64_in _ (by omega)
            cases hkv : t.k.getD v false
            · have HE := Lib.hid (show leastTo ls st (j + 1) = ⟨t.d.set v (t.d.getD f 0 + lc), t.k.set v true, t.b.set v (j : Int), v⟩ by rw [HN.out]; unfold leastStep; exact if_pos (by rw [HLG.out, hkf, hkv]; simp))
              rw [hkv] at uKv
              have HKV := Lib.hid hkv
              clear hkf hkv
              generalize t.d.getD f 0 = df at *
              generalize t.d.getD v 0 = dv at *
              go_wp2_with fail
              generalize wr.alloc (.cells #[.int .i64 y0, .int .i64 y1, .int .i64 f, .int .i64 v, .int .i64 y4, .int .i64 lc] 59) = W1 at *
              go_quiet (fail)
              have KA2 := KA.out.drewN nq
              have f2 : (W1.drewN nq).cell? ⟨wr.heap.size, 2, none⟩ = some (.int .i64 f) := e2
              have f3 : (W1.drewN nq).cell? ⟨wr.heap.size, 3, none⟩ = some (.int .i64 v) := e3
              have g1 : (W1.drewN nq).cell? ⟨gK, v, none⟩ = some (.bool false) := uKv
              have g2 : (W1.drewN nq).cell? ⟨gD, v, none⟩ = some (.int .i64 dv) := uDv
              have oD2 := OwnI.drewN oD1 nq
              have oK2 := OwnC.drewN oK1 nq
              have oB2 := OwnC.drewN oB1 nq
              have hu2 := hu1.drewN nq
              have KA3 := Lib.hid KA2
              clear e0 e1 e2 e3 e4 e5 uKf uKv uDf uDv oD1 oK1 oB1 hu1 KA KA2
              go_upto_region 11 with (fail)
              generalize W1.drewN nq = W2 at *
              have my0 : W2.cell? ⟨wr.heap.size, 0, none⟩ = some (.int .i64 y0) := KA3.out.cell 0
              have my1 : W2.cell? ⟨wr.heap.size, 1, none⟩ = some (.int .i64 y1) := KA3.out.cell 1
              have my4 : W2.cell? ⟨wr.heap.size, 4, none⟩ = some (.int .i64 y4) := KA3.out.cell 4
              have my5 : W2.cell? ⟨wr.heap.size, 5, none⟩ = some (.int .i64 lc) := KA3.out.cell 5
              have n1 : wr.heap.size ≠ gD := by omega
              have n2 : wr.heap.size ≠ gK := by omega
              have n3 : wr.heap.size ≠ gl := by omega
              have z0 : W2.frozen? ⟨gD, v, none⟩ = false := OwnI.free oD2 v
              have oD3 := OwnI.set oD2 v (df + lc)
              have oK3 := OwnC.far oK2 (p := ⟨gD, v, none⟩) (fun ad ha => by injection ha with ha; subst ha; exact fun e => h1 e.symm) (.int .i64 (df + lc))
              have oB3 := OwnC.far oB2 (p := ⟨gD, v, none⟩) (fun ad ha => by injection ha with ha; subst ha; exact fun e => h2 e.symm) (.int .i64 (df + lc))
              have hu3 := Upd.setCell hu2 (p := ⟨gD, v, none⟩) (.inl (.inl rfl)) (.int .i64 (df + lc))
              have z1 : (W2.setCell ⟨gD, v, none⟩ (.int .i64 (df + lc))).frozen? ⟨gK, v, none⟩ = false := OwnC.free oK3 v
              have z2 : (W2.setCell ⟨gD, v, none⟩ (.int .i64 (df + lc))).cell? ⟨gK, v, none⟩ = some (.bool false) := by
                have h := OwnC.cell oK3 (j := v) (by omega)
                rw [boolsC_get HTO.out.kl hvN, HKV.out] at h
                exact h
              have oD4 := OwnI.far oD3 (p := ⟨gK, v, none⟩) (fun ad ha => by injection ha with ha; subst ha; exact h1) (.bool true)
              have oK4 := OwnC.set oK3 v (.bool true)
              have oB4 := OwnC.far oB3 (p := ⟨gK, v, none⟩) (fun ad ha => by injection ha with ha; subst ha; exact fun e => h3 e.symm) (.bool true)
              have hu4 := Upd.setCell hu3 (p := ⟨gK, v, none⟩) (.inl (.inr (.inl rfl))) (.bool true)
              have b0 : ((W2.setCell ⟨gD, v, none⟩ (.int .i64 (df + lc))).setCell ⟨gK, v, none⟩ (.bool true)).frozen? ⟨gl, v * 6, none⟩ = false := OwnC.free oB4 (v * 6)
              obtain ⟨u0, k0⟩ : ∃ x, ((W2.setCell ⟨gD, v, none⟩ (.int .i64 (df + lc))).setCell ⟨gK, v, none⟩ (.bool true)).cell? ⟨gl, v * 6, none⟩ = some x := ⟨_, last_cellG oB4 HTO.out.bl hvN 0 (by omega)⟩
              have b1 : ((W2.setCell ⟨gD, v, none⟩ (.int .i64 (df + lc))).setCell ⟨gK, v, none⟩ (.bool true)).frozen? ⟨gl, v * 6 + 1, none⟩ = false := OwnC.free oB4 (v * 6 + 1)
              obtain ⟨u1, k1⟩ : ∃ x, ((W2.setCell ⟨gD, v, none⟩ (.int .i64 (df + lc))).setCell ⟨gK, v, none⟩ (.bool true)).cell? ⟨gl, v * 6 + 1, none⟩ = some x := ⟨_, last_cellG oB4 HTO.out.bl hvN 1 (by omega)⟩
              have b2 : ((W2.setCell ⟨gD, v, none⟩ (.int .i64 (df + lc))).setCell ⟨gK, v, none⟩ (.bool true)).frozen? ⟨gl, v * 6 + 2, none⟩ = false := OwnC.free oB4 (v * 6 + 2)
              obtain ⟨u2, k2⟩ : ∃ x, ((W2.setCell ⟨gD, v, none⟩ (.int .i64 (df + lc))).setCell ⟨gK, v, none⟩ (.bool true)).cell? ⟨gl, v * 6 + 2, none⟩ = some x := ⟨_, last_cellG oB4 HTO.out.bl hvN 2 (by omega)⟩
              have b3 : ((W2.setCell ⟨gD, v, none⟩ (.int .i64 (df + lc))).setCell ⟨gK, v, none⟩ (.bool true)).frozen? ⟨gl, v * 6 + 3, none⟩ = false := OwnC.free oB4 (v * 6 + 3)
              obtain ⟨u3, k3⟩ : ∃ x, ((W2.setCell ⟨gD, v, none⟩ (.int .i64 (df + lc))).setCell ⟨gK, v, none⟩ (.bool true)).cell? ⟨gl, v * 6 + 3, none⟩ = some x := ⟨_, last_cellG oB4 HTO.out.bl hvN 3 (by omega)⟩
              have b4 : ((W2.setCell ⟨gD, v, none⟩ (.int .i64 (df + lc))).setCell ⟨gK, v, none⟩ (.bool true)).frozen? ⟨gl, v * 6 + 4, none⟩ = false := OwnC.free oB4 (v * 6 + 4)
              obtain ⟨u4, k4⟩ : ∃ x, ((W2.setCell ⟨gD, v, none⟩ (.int .i64 (df + lc))).setCell ⟨gK, v, none⟩ (.bool true)).cell? ⟨gl, v * 6 + 4, none⟩ = some x := ⟨_, last_cellG oB4 HTO.out.bl hvN 4 (by omega)⟩
              have b5 : ((W2.setCell ⟨gD, v, none⟩ (.int .i64 (df + lc))).setCell ⟨gK, v, none⟩ (.bool true)).frozen? ⟨gl, v * 6 + 5, none⟩ = false := OwnC.free oB4 (v * 6 + 5)
              obtain ⟨u5, k5⟩ : ∃ x, ((W2.setCell ⟨gD, v, none⟩ (.int .i64 (df + lc))).setCell ⟨gK, v, none⟩ (.bool true)).cell? ⟨gl, v * 6 + 5, none⟩ = some x := ⟨_, last_cellG oB4 HTO.out.bl hvN 5 (by omega)⟩
              have oD5 := (OwnI.far (OwnI.far (OwnI.far (OwnI.far (OwnI.far (OwnI.far oD4 (p := ⟨gl, v * 6, none⟩) (fun ad ha => by injection ha with ha; subst ha; exact h2) (.int .i64 y0)) (p := ⟨gl, v * 6 + 1, none⟩) (fun ad ha => by injection ha with ha; subst ha; exact h2) (.int .i64 y1)) (p := ⟨gl, v * 6 + 2, none⟩) (fun ad ha => by injection ha with ha; subst ha; exact h2) (.int .i64 f)) (p := ⟨gl, v * 6 + 3, none⟩) (fun ad ha => by injection ha with ha; subst ha; exact h2) (.int .i64 v)) (p := ⟨gl, v * 6 + 4, none⟩) (fun ad ha => by injection ha with ha; subst ha; exact h2) (.int .i64 y4)) (p := ⟨gl, v * 6 + 5, none⟩) (fun ad ha => by injection ha with ha; subst ha; exact h2) (.int .i64 lc))
              have oK5 := (OwnC.far (OwnC.far (OwnC.far (OwnC.far (OwnC.far (OwnC.far oK4 (p := ⟨gl, v * 6, none⟩) (fun ad ha => by injection ha with ha; subst ha; exact h3) (.int .i64 y0)) (p := ⟨gl, v * 6 + 1, none⟩) (fun ad ha => by injection ha with ha; subst ha; exact h3) (.int .i64 y1)) (p := ⟨gl, v * 6 + 2, none⟩) (fun ad ha => by injection ha with ha; subst ha; exact h3) (.int .i64 f)) (p := ⟨gl, v * 6 + 3, none⟩) (fun ad ha => by injection ha with ha; subst ha; exact h3) (.int .i64 v)) (p := ⟨gl, v * 6 + 4, none⟩) (fun ad ha => by injection ha with ha; subst ha; exact h3) (.int .i64 y4)) (p := ⟨gl, v * 6 + 5, none⟩) (fun ad ha => by injection ha with ha; subst ha; exact h3) (.int .i64 lc))
              have oB5 := (OwnC.set (OwnC.set (OwnC.set (OwnC.set (OwnC.set (OwnC.set oB4 (v * 6) (.int .i64 y0)) (v * 6 + 1) (.int .i64 y1)) (v * 6 + 2) (.int .i64 f)) (v * 6 + 3) (.int .i64 v)) (v * 6 + 4) (.int .i64 y4)) (v * 6 + 5) (.int .i64 lc))
              have hu5 := (Upd.setCell (Upd.setCell (Upd.setCell (Upd.setCell (Upd.setCell (Upd.setCell hu4 (p := ⟨gl, v * 6, none⟩) (.inl (.inr (.inr rfl))) (.int .i64 y0)) (p := ⟨gl, v * 6 + 1, none⟩) (.inl (.inr (.inr rfl))) (.int .i64 y1)) (p := ⟨gl, v * 6 + 2, none⟩) (.inl (.inr (.inr rfl))) (.int .i64 f)) (p := ⟨gl, v * 6 + 3, none⟩) (.inl (.inr (.inr rfl))) (.int .i64 v)) (p := ⟨gl, v * 6 + 4, none⟩) (.inl (.inr (.inr rfl))) (.int .i64 y4)) (p := ⟨gl, v * 6 + 5, none⟩) (.inl (.inr (.inr rfl))) (.int .i64 lc))
              have HLC2 := Lib.hid (show lastG x0 x1 x4 ls (j : Int) = [.int .i64 y0, .int .i64 y1, .int .i64 f, .int .i64 v, .int .i64 y4, .int .i64 lc] by unfold lastG; rw [if_neg (by omega), Int.toNat_natCast, HL.out]; exact HBY.out)
              rw [flatV_set6 (lastG x0 x1 x4 ls) _ v (j : Int) _ _ _ _ _ _ (lastG_len x0 x1 x4 ls) HLC2.out (by rw [HTO.out.bl]; exact hvN)] at oB5
              rw [show (t.k.map Value.bool).set v (.bool true) = (t.k.set v true).map Value.bool by rw [List.map_set]] at oK5
              clear oD3 oK3 oB3 hu3 oD4 oK4 oB4 hu4 oD2 oK2 oB2
              have KA5 := Lib.hid (Blk.far (Blk.far (Blk.far (Blk.far (Blk.far (Blk.far (Blk.far (Blk.far KA3.out (p := ⟨gD, v, none⟩) n1 (.int .i64 (df + lc))) (p := ⟨gK, v, none⟩) n2 (.bool true)) (p := ⟨gl, v * 6, none⟩) n3 (.int .i64 y0)) (p := ⟨gl, v * 6 + 1, none⟩) n3 (.int .i64 y1)) (p := ⟨gl, v * 6 + 2, none⟩) n3 (.int .i64 f)) (p := ⟨gl, v * 6 + 3, none⟩) n3 (.int .i64 v)) (p := ⟨gl, v * 6 + 4, none⟩) n3 (.int .i64 y4)) (p := ⟨gl, v * 6 + 5, none⟩) n3 (.int .i64 lc))
              have yy : ((((((((W2.setCell ⟨gD, v, none⟩ (.int .i64 (df + lc))).setCell ⟨gK, v, none⟩ (.bool true)).setCell ⟨gl, v * 6, none⟩ (.int .i64 y0)).setCell ⟨gl, v * 6 + 1, none⟩ (.int .i64 y1)).setCell ⟨gl, v * 6 + 2, none⟩ (.int .i64 f)).setCell ⟨gl, v * 6 + 3, none⟩ (.int .i64 v)).setCell ⟨gl, v * 6 + 4, none⟩ (.int .i64 y4)).setCell ⟨gl, v * 6 + 5, none⟩ (.int .i64 lc)).cell? ⟨wr.heap.size, 3, none⟩ = some (.int .i64 v) := KA5.out.cell 3
              go_region
              all_goals
                go_wp2_with fail
                go_roundg (m - (j + 1))
                case measure => rw [HR2.out]; omega
                case rel => exact ⟨j + 1, _, rfl, by omega, by go_num, by rw [HE.out], Lib.hid rfl, by rw [HE.out]; exact OwnI.drew oD5, by rw [HE.out]; exact OwnC.drew oK5, by rw [HE.out]; exact OwnC.drew oB5, hu5.drew⟩
            · by_cases hless : t.d.getD f 0 + lc < t.d.getD v 0
              · have HE := Lib.hid (show leastTo ls st (j + 1) = ⟨t.d.set v (t.d.getD f 0 + lc), t.k.set v true, t.b.set v (j : Int), v⟩ by rw [HN.out]; unfold leastStep; exact if_pos (by rw [HLG.out, hkf, hkv, decide_eq_true hless]; rfl))
                rw [hkv] at uKv
                have HKV := Lib.hid hkv
                clear hkf hkv
                generalize t.d.getD f 0 = df at *
                generalize t.d.getD v 0 = dv at *
                go_wp2_with fail
                generalize wr.alloc (.cells #[.int .i64 y0, .int .i64 y1, .int .i64 f, .int .i64 v, .int .i64 y4, .int .i64 lc] 59) = W1 at *
                go_quiet (fail)
                have KA2 := KA.out.drewN nq
                have f2 : (W1.drewN nq).cell? ⟨wr.heap.size, 2, none⟩ = some (.int .i64 f) := e2
                have f3 : (W1.drewN nq).cell? ⟨wr.heap.size, 3, none⟩ = some (.int .i64 v) := e3
                have g1 : (W1.drewN nq).cell? ⟨gK, v, none⟩ = some (.bool true) := uKv
                have g2 : (W1.drewN nq).cell? ⟨gD, v, none⟩ = some (.int .i64 dv) := uDv
                have oD2 := OwnI.drewN oD1 nq
                have oK2 := OwnC.drewN oK1 nq
                have oB2 := OwnC.drewN oB1 nq
                have hu2 := hu1.drewN nq
                have KA3 := Lib.hid KA2
                clear e0 e1 e2 e3 e4 e5 uKf uKv uDf uDv oD1 oK1 oB1 hu1 KA KA2
                go_upto_region 11 with (fail)
                generalize W1.drewN nq = W2 at *
                have my0 : W2.cell? ⟨wr.heap.size, 0, none⟩ = some (.int .i64 y0) := KA3.out.cell 0
                have my1 : W2.cell? ⟨wr.heap.size, 1, none⟩ = some (.int .i64 y1) := KA3.out.cell 1
                have my4 : W2.cell? ⟨wr.heap.size, 4, none⟩ = some (.int .i64 y4) := KA3.out.cell 4
                have my5 : W2.cell? ⟨wr.heap.size, 5, none⟩ = some (.int .i64 lc) := KA3.out.cell 5
                have n1 : wr.heap.size ≠ gD := by omega
                have n2 : wr.heap.size ≠ gK := by omega
                have n3 : wr.heap.size ≠ gl := by omega
                have z0 : W2.frozen? ⟨gD, v, none⟩ = false := OwnI.free oD2 v
                have oD3 := OwnI.set oD2 v (df + lc)
                have oK3 := OwnC.far oK2 (p := ⟨gD, v, none⟩) (fun ad ha => by injection ha with ha; subst ha; exact fun e => h1 e.symm) (.int .i64 (df + lc))
                have oB3 := OwnC.far oB2 (p := ⟨gD, v, none⟩) (fun ad ha => by injection ha with ha; subst ha; exact fun e => h2 e.symm) (.int .i64 (df + lc))
                have hu3 := Upd.setCell hu2 (p := ⟨gD, v, none⟩) (.inl (.inl rfl)) (.int .i64 (df + lc))
                have z1 : (W2.setCell ⟨gD, v, none⟩ (.int .i64 (df + lc))).frozen? ⟨gK, v, none⟩ = false := OwnC.free oK3 v
                have z2 : (W2.setCell ⟨gD, v, none⟩ (.int .i64 (df + lc))).cell? ⟨gK, v, none⟩ = some (.bool true) := by
                  have h := OwnC.cell oK3 (j := v) (by omega)
                  rw [boolsC_get HTO.out.kl hvN, HKV.out] at h
                  exact h
                have oD4 := OwnI.far oD3 (p := ⟨gK, v, none⟩) (fun ad ha => by injection ha with ha; subst ha; exact h1) (.bool true)
                have oK4 := OwnC.set oK3 v (.bool true)
                have oB4 := OwnC.far oB3 (p := ⟨gK, v, none⟩) (fun ad ha => by injection ha with ha; subst ha; exact fun e => h3 e.symm) (.bool true)
                have hu4 := Upd.setCell hu3 (p := ⟨gK, v, none⟩) (.inl (.inr (.inl rfl))) (.bool true)
                have b0 : ((W2.setCell ⟨gD, v, none⟩ (.int .i64 (df + lc))).setCell ⟨gK, v, none⟩ (.bool true)).frozen? ⟨gl, v * 6, none⟩ = false := OwnC.free oB4 (v * 6)
                obtain ⟨u0, k0⟩ : ∃ x, ((W2.setCell ⟨gD, v, none⟩ (.int .i64 (df + lc))).setCell ⟨gK, v, none⟩ (.bool true)).cell? ⟨gl, v * 6, none⟩ = some x := ⟨_, last_cellG oB4 HTO.out.bl hvN 0 (by omega)⟩
                have b1 : ((W2.setCell ⟨gD, v, none⟩ (.int .i64 (df + lc))).setCell ⟨gK, v, none⟩ (.bool true)).frozen? ⟨gl, v * 6 + 1, none⟩ = false := OwnC.free oB4 (v * 6 + 1)
                obtain ⟨u1, k1⟩ : ∃ x, ((W2.setCell ⟨gD, v, none⟩ (.int .i64 (df + lc))).setCell ⟨gK, v, none⟩ (.bool true)).cell? ⟨gl, v * 6 + 1, none⟩ = some x := ⟨_, last_cellG oB4 HTO.out.bl hvN 1 (by omega)⟩
                have b2 : ((W2.setCell ⟨gD, v, none⟩ (.int .i64 (df + lc))).setCell ⟨gK, v, none⟩ (.bool true)).frozen? ⟨gl, v * 6 + 2, none⟩ = false := OwnC.free oB4 (v * 6 + 2)
                obtain ⟨u2, k2⟩ : ∃ x, ((W2.setCell ⟨gD, v, none⟩ (.int .i64 (df + lc))).setCell ⟨gK, v, none⟩ (.bool true)).cell? ⟨gl, v * 6 + 2, none⟩ = some x := ⟨_, last_cellG oB4 HTO.out.bl hvN 2 (by omega)⟩
                have b3 : ((W2.setCell ⟨gD, v, none⟩ (.int .i64 (df + lc))).setCell ⟨gK, v, none⟩ (.bool true)).frozen? ⟨gl, v * 6 + 3, none⟩ = false := OwnC.free oB4 (v * 6 + 3)
                obtain ⟨u3, k3⟩ : ∃ x, ((W2.setCell ⟨gD, v, none⟩ (.int .i64 (df + lc))).setCell ⟨gK, v, none⟩ (.bool true)).cell? ⟨gl, v * 6 + 3, none⟩ = some x := ⟨_, last_cellG oB4 HTO.out.bl hvN 3 (by omega)⟩
                have b4 : ((W2.setCell ⟨gD, v, none⟩ (.int .i64 (df + lc))).setCell ⟨gK, v, none⟩ (.bool true)).frozen? ⟨gl, v * 6 + 4, none⟩ = false := OwnC.free oB4 (v * 6 + 4)
                obtain ⟨u4, k4⟩ : ∃ x, ((W2.setCell ⟨gD, v, none⟩ (.int .i64 (df + lc))).setCell ⟨gK, v, none⟩ (.bool true)).cell? ⟨gl, v * 6 + 4, none⟩ = some x := ⟨_, last_cellG oB4 HTO.out.bl hvN 4 (by omega)⟩
                have b5 : ((W2.setCell ⟨gD, v, none⟩ (.int .i64 (df + lc))).setCell ⟨gK, v, none⟩ (.bool true)).frozen? ⟨gl, v * 6 + 5, none⟩ = false := OwnC.free oB4 (v * 6 + 5)
                obtain ⟨u5, k5⟩ : ∃ x, ((W2.setCell ⟨gD, v, none⟩ (.int .i64 (df + lc))).setCell ⟨gK, v, none⟩ (.bool true)).cell? ⟨gl, v * 6 + 5, none⟩ = some x := ⟨_, last_cellG oB4 HTO.out.bl hvN 5 (by omega)⟩
                have oD5 := (OwnI.far (OwnI.far (OwnI.far (OwnI.far (OwnI.far (OwnI.far oD4 (p := ⟨gl, v * 6, none⟩) (fun ad ha => by injection ha with ha; subst ha; exact h2) (.int .i64 y0)) (p := ⟨gl, v * 6 + 1, none⟩) (fun ad ha => by injection ha with ha; subst ha; exact h2) (.int .i64 y1)) (p := ⟨gl, v * 6 + 2, none⟩) (fun ad ha => by injection ha with ha; subst ha; exact h2) (.int .i64 f)) (p := ⟨gl, v * 6 + 3, none⟩) (fun ad ha => by injection ha with ha; subst ha; exact h2) (.int .i64 v)) (p := ⟨gl, v * 6 + 4, none⟩) (fun ad ha => by injection ha with ha; subst ha; exact h2) (.int .i64 y4)) (p := ⟨gl, v * 6 + 5, none⟩) (fun ad ha => by injection ha with ha; subst ha; exact h2) (.int .i64 lc))
                have oK5 := (OwnC.far (OwnC.far (OwnC.far (OwnC.far (OwnC.far (OwnC.far oK4 (p := ⟨gl, v * 6, none⟩) (fun ad ha => by injection ha with ha; subst ha; exact h3) (.int .i64 y0)) (p := ⟨gl, v * 6 + 1, none⟩) (fun ad ha => by injection ha with ha; subst ha; exact h3) (.int .i64 y1)) (p := ⟨gl, v * 6 + 2, none⟩) (fun ad ha => by injection ha with ha; subst ha; exact h3) (.int .i64 f)) (p := ⟨gl, v * 6 + 3, none⟩) (fun ad ha => by injection ha with ha; subst ha; exact h3) (.int .i64 v)) (p := ⟨gl, v * 6 + 4, none⟩) (fun ad ha => by injection ha with ha; subst ha; exact h3) (.int .i64 y4)) (p := ⟨gl, v * 6 + 5, none⟩) (fun ad ha => by injection ha with ha; subst ha; exact h3) (.int .i64 lc))
                have oB5 := (OwnC.set (OwnC.set (OwnC.set (OwnC.set (OwnC.set (OwnC.set oB4 (v * 6) (.int .i64 y0)) (v * 6 + 1) (.int .i64 y1)) (v * 6 + 2) (.int .i64 f)) (v * 6 + 3) (.int .i64 v)) (v * 6 + 4) (.int .i64 y4)) (v * 6 + 5) (.int .i64 lc))
                have hu5 := (Upd.setCell (Upd.setCell (Upd.setCell (Upd.setCell (Upd.setCell (Upd.setCell hu4 (p := ⟨gl, v * 6, none⟩) (.inl (.inr (.inr rfl))) (.int .i64 y0)) (p := ⟨gl, v * 6 + 1, none⟩) (.inl (.inr (.inr rfl))) (.int .i64 y1)) (p := ⟨gl, v * 6 + 2, none⟩) (.inl (.inr (.inr rfl))) (.int .i64 f)) (p := ⟨gl, v * 6 + 3, none⟩) (.inl (.inr (.inr rfl))) (.int .i64 v)) (p := ⟨gl, v * 6 + 4, none⟩) (.inl (.inr (.inr rfl))) (.int .i64 y4)) (p := ⟨gl, v * 6 + 5, none⟩) (.inl (.inr (.inr rfl))) (.int .i64 lc))
                have HLC2 := Lib.hid (show lastG x0 x1 x4 ls (j : Int) = [.int .i64 y0, .int .i64 y1, .int .i64 f, .int .i64 v, .int .i64 y4, .int .i64 lc] by unfold lastG; rw [if_neg (by omega), Int.toNat_natCast, HL.out]; exact HBY.out)
                rw [flatV_set6 (lastG x0 x1 x4 ls) _ v (j : Int) _ _ _ _ _ _ (lastG_len x0 x1 x4 ls) HLC2.out (by rw [HTO.out.bl]; exact hvN)] at oB5
                rw [show (t.k.map Value.bool).set v (.bool true) = (t.k.set v true).map Value.bool by rw [List.map_set]] at oK5
                clear oD3 oK3 oB3 hu3 oD4 oK4 oB4 hu4 oD2 oK2 oB2
                have KA5 := Lib.hid (Blk.far (Blk.far (Blk.far (Blk.far (Blk.far (Blk.far (Blk.far (Blk.far KA3.out (p := ⟨gD, v, none⟩) n1 (.int .i64 (df + lc))) (p := ⟨gK, v, none⟩) n2 (.bool true)) (p := ⟨gl, v * 6, none⟩) n3 (.int .i64 y0)) (p := ⟨gl, v * 6 + 1, none⟩) n3 (.int .i64 y1)) (p := ⟨gl, v * 6 + 2, none⟩) n3 (.int .i64 f)) (p := ⟨gl, v * 6 + 3, none⟩) n3 (.int .i64 v)) (p := ⟨gl, v * 6 + 4, none⟩) n3 (.int .i64 y4)) (p := ⟨gl, v * 6 + 5, none⟩) n3 (.int .i64 lc))
                have yy : ((((((((W2.setCell ⟨gD, v, none⟩ (.int .i64 (df + lc))).setCell ⟨gK, v, none⟩ (.bool true)).setCell ⟨gl, v * 6, none⟩ (.int .i64 y0)).setCell ⟨gl, v * 6 + 1, none⟩ (.int .i64 y1)).setCell ⟨gl, v * 6 + 2, none⟩ (.int .i64 f)).setCell ⟨gl, v * 6 + 3, none⟩ (.int .i64 v)).setCell ⟨gl, v * 6 + 4, none⟩ (.int .i64 y4)).setCell ⟨gl, v * 6 + 5, none⟩ (.int .i64 lc)).cell? ⟨wr.heap.size, 3, none⟩ = some (.int .i64 v) := KA5.out.cell 3
                go_region
                all_goals
                  go_wp2_with fail
                  go_roundg (m - (j + 1))
                  case measure => rw [HR2.out]; omega
                  case rel => exact ⟨j + 1, _, rfl, by omega, by go_num, by rw [HE.out], Lib.hid rfl, by rw [HE.out]; exact OwnI.drew oD5, by rw [HE.out]; exact OwnC.drew oK5, by rw [HE.out]; exact OwnC.drew oB5, hu5.drew⟩
              · have HE := Lib.hid (show leastTo ls st (j + 1) = t by rw [HN.out]; unfold leastStep; rw [if_neg]; rw [HLG.out, hkf, hkv, decide_eq_false hless]; simp)
                rw [hkv] at uKv
                have HKV := Lib.hid hkv
                clear hkf hkv
                generalize t.d.getD f 0 = df at *
                generalize t.d.getD v 0 = dv at *
                go_wp2_with fail
                generalize wr.alloc (.cells #[.int .i64 y0, .int .i64 y1, .int .i64 f, .int .i64 v, .int .i64 y4, .int .i64 lc] 59) = W1 at *
                go_quiet (fail)
                have KA2 := KA.out.drewN nq
                have f2 : (W1.drewN nq).cell? ⟨wr.heap.size, 2, none⟩ = some (.int .i64 f) := e2
                have f3 : (W1.drewN nq).cell? ⟨wr.heap.size, 3, none⟩ = some (.int .i64 v) := e3
                have g1 : (W1.drewN nq).cell? ⟨gK, v, none⟩ = some (.bool true) := uKv
                have g2 : (W1.drewN nq).cell? ⟨gD, v, none⟩ = some (.int .i64 dv) := uDv
                have oD2 := OwnI.drewN oD1 nq
                have oK2 := OwnC.drewN oK1 nq
                have oB2 := OwnC.drewN oB1 nq
                have hu2 := hu1.drewN nq
                have KA3 := Lib.hid KA2
                clear e0 e1 e2 e3 e4 e5 uKf uKv uDf uDv oD1 oK1 oB1 hu1 KA KA2
                go_wp2_with fail
                go_roundg (m - (j + 1))
                case measure => rw [HR2.out]; omega
                case rel => exact ⟨j + 1, t, rfl, by omega, by go_num, rfl, Lib.hid HE.out.symm, oD2, oK2, oB2, hu2⟩
        · have e : j = m := by omega
          subst e
          have hc1 : (T : Int) - k - 1 = (T : Int) - ((k + 1 : Nat) : Int) := by omega
          have HC1 := Lib.hid hc1
          clear hc1
          go_wp2_with fail
          go_roundg (T - (k + 1))
          case measure => rw [HR.out]; omega
          case rel => exact ⟨k + 1, t, rfl, by omega, by rw [HC1.out], rfl, Lib.hid (by rw [ht.out, ← HST.out, HM.out]), oD, oK, oB, hu⟩
    · have e : k = T := by omega
      subst e
      have hst' := Lib.hid hst.out.symm
      go_wp2_with fail
      go_ret
      exact ⟨ret_int (by rw [hst'.out]), by rw [hst'.out]; exact oD, by rw [hst'.out]; exact oK, by rw [hst'.out]; exact oB, hu⟩
end Go.Proofs.Ytpaahjeohigngaa
