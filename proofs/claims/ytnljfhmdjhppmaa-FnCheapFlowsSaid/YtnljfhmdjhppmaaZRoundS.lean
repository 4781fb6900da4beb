/- Rounds with a loss of the reference: the walk. -/
import Derived.Test.YtnljfhmdjhppmaaZReachS
import Derived.Test.YtnljfhmdjhppmaaJ4
import Derived.StillTailTactics
namespace Go.Proofs.Ytnljfhmdjhppmaa
open Go.RowKit

/-- by which link each node was changed last, as the reference keeps it -/
def timeS (M t : Nat) : Int := (((t - 1) % M : Nat) : Int)
def byS (M : Nat) (ts : List Nat) : List Int := ts.map fun t => if t = 0 then 0 else timeS M t
theorem byS_get {M : Nat} {ts : List Nat} {v N : Nat} (hl : ts.length = N) (hv : v < N) : (byS M ts).getD v 0 = if ts.getD v 0 = 0 then 0 else timeS M (ts.getD v 0) := by
  unfold byS
  simp [List.getD, List.getElem?_eq_getElem (show v < ts.length by omega)]
theorem byS_set {M : Nat} {ts : List Nat} {v r j : Nat} (hj : j < M) : (byS M ts).set v (j : Int) = byS M (ts.set v (r * M + j + 1)) := by
  unfold byS
  rw [List.map_set]
  congr 1
  rw [if_neg (by omega)]
  unfold timeS
  rw [Nat.add_sub_cancel, Nat.mul_comm, Nat.mul_add_mod, Nat.mod_eq_of_lt hj]
theorem byS_zero (M N : Nat) : byS M (List.replicate N 0) = List.replicate N 0 := by simp [byS]
/-- numbers stay small -/
theorem loss_bd_to {ls : List LinkR} {N : Nat} {s : LossS} {r : Nat} {m : Int} (hls : LinksOk ls N) (hlc : LinksC ls) (hl : s.d.length = N) (h : ∀ v, v < N → -m ≤ s.d.getD v 0 ∧ s.d.getD v 0 ≤ m) (hm : 0 ≤ m) : ∀ j, j ≤ ls.length → (lossTo ls s r j).d.length = N ∧ ∀ v, v < N → -(m + 1000 * j) ≤ (lossTo ls s r j).d.getD v 0 ∧ (lossTo ls s r j).d.getD v 0 ≤ m + 1000 * j
  | 0, _ => ⟨hl, fun v hv => by have := h v hv; show -(m + 1000 * (0 : Nat)) ≤ s.d.getD v 0 ∧ s.d.getD v 0 ≤ m + 1000 * (0 : Nat); omega⟩
  | j + 1, hj => by
    obtain ⟨ih1, ih2⟩ := loss_bd_to (r := r) hls hlc hl h hm j (by omega)
    obtain ⟨⟨a0, a1⟩, b0, b1⟩ := hls j (by omega)
    have hc := hlc j (by omega)
    rw [lossTo]
    unfold lossStep
    split
    · refine ⟨by show (List.set _ _ _).length = N; rw [List.length_set]; exact ih1, fun v hv => ?_⟩
      show -(m + 1000 * (j + 1 : Nat)) ≤ ((lossTo ls s r j).d.set _ _).getD v 0 ∧ ((lossTo ls s r j).d.set _ _).getD v 0 ≤ m + 1000 * (j + 1 : Nat)
      rw [getD_set' _ _ v _ (by rw [ih1]; omega)]
      have := ih2 v hv
      have := ih2 (ls.getD j default).fr.toNat (by omega)
      split <;> omega
    · exact ⟨ih1, fun v hv => by have := ih2 v hv; omega⟩
theorem loss_bd_r {ls : List LinkR} {N : Nat} (hls : LinksOk ls N) (hlc : LinksC ls) (hl : ls.length ≤ 96) : ∀ r : Nat, (lossR ls N r).d.length = N ∧ ∀ v, v < N → -(96000 * (r : Int)) ≤ (lossR ls N r).d.getD v 0 ∧ (lossR ls N r).d.getD v 0 ≤ 96000 * (r : Int)
  | 0 => ⟨by simp [lossR], fun v hv => by
      show -(96000 * ((0 : Nat) : Int)) ≤ (List.replicate N (0 : Int)).getD v 0 ∧ (List.replicate N (0 : Int)).getD v 0 ≤ 96000 * ((0 : Nat) : Int)
      simp [List.getD, hv]⟩
  | r + 1 => by
    obtain ⟨h1, h2⟩ := loss_bd_r hls hlc hl r
    obtain ⟨h3, h4⟩ := loss_bd_to (r := r) hls hlc h1 h2 (by omega) ls.length (Nat.le_refl _)
    refine ⟨h3, fun v hv => ?_⟩
    have := h4 v hv
    rw [lossR]
    omega
/-- the last node changed in the r-th round, -1 if there is none -/
def lossEnd (ls : List LinkR) (N : Nat) : Nat → Int
  | 0 => -1
  | r + 1 => endTo ls (lossR ls N r) r ls.length
theorem lossEnd_E {ls : List LinkR} {N : Nat} (hN : 1 ≤ N) : lossEnd ls N N = lossE ls N := by
  obtain ⟨n, rfl⟩ : ∃ n, N = n + 1 := ⟨N - 1, by omega⟩
  rfl
theorem ret_LBr {A : Option Addr} {n c : Nat} {a b : Bool} (h : a = b) : Ending.returned (.tuple #[.slice A n c, .bool a]) = .returned (.tuple #[.slice A n c, .bool b]) := by rw [h]
/-- the list behind its first number, backwards, as both build it -/
def lossOut (ls : List LinkR) (s : LossS) (x n k : Nat) : List Int := (x : Int) :: ((backTo ls s x n).reverse.take k)
theorem lossOut_zero {ls : List LinkR} {s : LossS} {x n : Nat} : lossOut ls s x n 0 = [(x : Int)] := rfl
theorem lossOut_succ {ls : List LinkR} {s : LossS} {x n k t : Nat} (hk : n - k = t + 1) : lossOut ls s x n (k + 1) = lossOut ls s x n k ++ [(backTo ls s x n).getD t 0] := by
  have hl := backTo_len ls s x n
  unfold lossOut
  generalize backTo ls s x n = b at *
  rw [List.take_succ_eq_append_getElem (by rw [List.length_reverse]; omega)]
  simp only [List.cons_append]
  congr 3
  rw [List.getElem_reverse]
  simp only [List.getD]
  rw [List.getElem?_eq_getElem (by omega)]
  simp only [Option.getD_some]
  congr 1
  omega
theorem lossOut_all {ls : List LinkR} {N p : Nat} : lossP ls N (p + 1) = lossOut ls (lossR ls N N) (preN ls (lossR ls N N) (lossE ls N).toNat N) p p := by
  unfold lossOut lossP
  rw [Nat.add_sub_cancel, List.take_of_length_le (by rw [List.length_reverse, backTo_len]; omega)]
theorem step_back {ls : List LinkR} {N : Nat} {s : LossS} {r e : Nat} (hls : LinksOk ls N) (h : LossOk ls N s r 0) (hall : ∀ m, preN ls s e m < N ∧ 0 < s.t.getD (preN ls s e m) 0) (k : Nat) : ∃ jj : Nat, jj < ls.length ∧ (byS ls.length s.t).getD (preN ls s e k) 0 = (jj : Int) ∧ (ls.getD jj default).fr = ((preN ls s e (k + 1) : Nat) : Int) := by
  obtain ⟨h1, h2⟩ := hall k
  obtain ⟨p1, _, _⟩ := h.P _ h1 h2
  refine ⟨_, p1, ?_, ?_⟩
  · rw [byS_get h.tl h1, if_neg (by omega)]; rfl
  · rw [preN]; unfold preT
    exact (Int.toNat_of_nonneg (hls _ p1).1.1).symm

theorem infoIntR : (Try.prog.info? 3).map (fun i => (i.zero, i.size, i.bytes)) = some (some (.int .i64 0), 1, 8) := by kernel_rfl
set_option maxRecDepth 100000 in
set_option maxHeartbeats 6400000 in
theorem l03Round_any (g N : Nat) (A : Option Addr) (n c : Nat) (xs : List ArcR) (B : Option Addr) (d : Nat) (fl : List Int) (w : World) (hb : Blk w g 26 #[.int .i64 N, .slice A n c]) (h : ArcsAt w A n xs) (hn : n ≤ 48) (hy : IntsAt w B n fl) (hN1 : 2 ≤ N) (hN : N ≤ 16) (hls : LinksOk (linksTo xs fl n) N) (hlc : LinksC (linksTo xs fl n)) (hll : (linksTo xs fl n).length ≤ 96)
    (hne : ∀ k, k < (linksTo xs fl n).length → ((linksTo xs fl n).getD k default).fr ≠ ((linksTo xs fl n).getD k default).to_)
    (hf : ∀ k, k < n → (0 ≤ fl.getD k 0 ∧ fl.getD k 0 ≤ 1000000) ∧ (0 ≤ (xs.getD k default).room ∧ (xs.getD k default).room ≤ 1000000) ∧ (-1000 ≤ (xs.getD k default).cost ∧ (xs.getD k default).cost ≤ 1000))
    (p : Nat) (hp : lossE (linksTo xs fl n) N = -1 ∨ (1 ≤ p ∧ p ≤ N ∧ preN (linksTo xs fl n) (lossR (linksTo xs fl n) N N) (lossE (linksTo xs fl n) N).toNat (N + p) = preN (linksTo xs fl n) (lossR (linksTo xs fl n) N N) (lossE (linksTo xs fl n) N).toNat N ∧ ∀ m, 1 ≤ m → m < p → preN (linksTo xs fl n) (lossR (linksTo xs fl n) N N) (lossE (linksTo xs fl n) N).toNat (N + m) ≠ preN (linksTo xs fl n) (lossR (linksTo xs fl n) N N) (lossE (linksTo xs fl n) N).toNat N))
    (V : List Int) (b : Bool) (hV : V = if lossE (linksTo xs fl n) N = -1 then [] else lossP (linksTo xs fl n) N p) (hbb : b = decide (lossE (linksTo xs fl n) N ≠ -1)) :
    Calls Try.prog 55 #[.pointer (some ⟨g, 0, none⟩), .slice B n d] w (RetLB 2 V b w) := by
  have HV := Lib.hid hV
  have HBB := Lib.hid hbb
  have HF := Lib.hid hf
  have HLS := Lib.hid hls
  have HLC := Lib.hid hlc
  have HNE := Lib.hid hne
  have HP := Lib.hid hp
  have HLL := Lib.hid hll
  clear hf hls hlc hne hp hll hV hbb
  go_enter Try.func55, Try.ntmps55
  go_wp2_with fail
  refine (l03Lefts_any g N A n c xs B d fl _ hb h hn hy HF.out).mono ?_
  rintro e w1 ⟨L, m, q, rfl, hm, ol, b1⟩
  have HM := Lib.hid hm.symm
  clear hm
  generalize linksTo xs fl n = ls at *
  have hm96 : m ≤ 96 := by have := HLL.out; rw [HM.out] at this; exact this
  have q0 := (hb.ext b1).cell 0
  go_wp2_with (at_make; first | (refine wp_make_ints _ rfl _ _ 29 rfl 2 Try.underlying29 info64 .i64 .i64 _ _ N rfl rfl rfl rfl (by omega) ?_; intro w2 gD oD b2; have q2 := (hb.ext (b1.trans (b2.mono b1.size))).cell 0) | (refine wp_make_ints _ rfl _ _ 85 rfl 3 Try.underlying85 infoIntR .i64 .i64 _ _ N rfl rfl rfl rfl (by omega) ?_; intro w3 gY oY b3))
  have hgD : w1.heap.size ≤ gD ∧ gD < w2.heap.size := OwnI.lt oD rfl
  have hgY : w2.heap.size ≤ gY ∧ gY < w3.heap.size := OwnI.lt oY rfl
  have hDY : gD ≠ gY := by omega
  have hs1 := b1.size
  have hs2 := b2.size
  have oD3 := OwnI.below oD b3
  have oY3 := OwnI.low oY hs2
  have hB3 := b2.trans (b3.mono hs2)
  have HZ := Lib.hid (show List.replicate N (0 : Int) = byS m (List.replicate N 0) from (byS_zero m N).symm)
  rw [HZ.out] at oY3
  clear oD oY b2 b3 q0 q2 HZ
  go_loopg [9, 10] N (fun r ev tv wr => ∃ (t : Nat), r = N - t ∧ t ≤ N ∧ ev = .int .i64 (lossEnd ls N t) ∧ tv = .int .i64 t ∧ OwnI 2 w1.heap.size wr (some ⟨gD, 0, none⟩) N N (lossR ls N t).d ∧ OwnI 3 w1.heap.size wr (some ⟨gY, 0, none⟩) N N (byS m (lossR ls N t).t) ∧ Below w1.heap.size w1 wr)
  case atStart => exact ⟨0, rfl, by omega, rfl, rfl, oD3, oY3, hB3⟩
  case round =>
    clear oD3 oY3 hB3
    obtain ⟨t, hr, ht, rfl, rfl, oD, oY, hbw⟩ := hrel
    have HR := Lib.hid hr
    clear hr
    have p0 := (hb.ext (b1.trans (hbw.mono hs1))).cell 0
    by_cases hlt : t < N
    · have HOK := Lib.hid (loss_r HLS.out HNE.out (N := N) t)
      have HBD := Lib.hid (loss_bd_r HLS.out HLC.out HLL.out t)
      have HLE := Lib.hid (show lossEnd ls N (t + 1) = endTo ls (lossR ls N t) t ls.length from rfl)
      have HLR := Lib.hid (show lossR ls N (t + 1) = lossTo ls (lossR ls N t) t ls.length from rfl)
      generalize lossEnd ls N t = e0 at *
      generalize lossR ls N t = u at *
      go_wp2_with fail
      obtain ⟨wo, rfl⟩ : ∃ wo : World, wo = wr := ⟨_, rfl⟩
      go_loopg [9, 41] m (fun r ev jv wi => ∃ (j : Nat), r = m - j ∧ j ≤ m ∧ ev = .int .i64 (endTo ls u t j) ∧ jv = .int .i64 j ∧ OwnI 2 w1.heap.size wi (some ⟨gD, 0, none⟩) N N (lossTo ls u t j).d ∧ OwnI 3 w1.heap.size wi (some ⟨gY, 0, none⟩) N N (byS m (lossTo ls u t j).t) ∧ Below w1.heap.size w1 wi)
      case atStart => exact ⟨0, rfl, by omega, rfl, rfl, oD, oY, hbw⟩
      case round =>
        clear oD oY hbw p0
        obtain ⟨j, hr, hj, rfl, rfl, oD, oY, hbw⟩ := hrel
        have HR2 := Lib.hid hr
        clear hr
        by_cases hlj : j < m
        · have hown4 := OwnC.below ol hbw
          obtain ⟨gL, rfl, _, hgLlt, _⟩ := OwnC.pos hown4 (by omega)
          obtain ⟨c0, c1, c2, c3, c4, c5⟩ := left_cells hown4 hlj
          have hgL1 : gL < w1.heap.size := (OwnC.lt ol rfl).2
          have hLD : gL ≠ gD := by omega
          have hLY : gL ≠ gY := by omega
          have HCL := Lib.hid (fun (W : World) (hW : Below w1.heap.size w1 W) => left_cells (OwnC.below ol hW) hlj)
          obtain ⟨⟨a0, a1⟩, ⟨b0, b1'⟩⟩ := HLS.out j (by rw [HM.out]; exact hlj)
          have hcost := HLC.out j (by rw [HM.out]; exact hlj)
          have HRB := Lib.hid (loss_bd_to (r := t) HLS.out HLC.out HBD.out.1 HBD.out.2 (by omega) j (by rw [HM.out]; omega)).2
          have HTS := Lib.hid (show lossTo ls u t (j + 1) = lossStep (lossTo ls u t j) (ls.getD j default) (t * m + j + 1) from by rw [lossTo, HM.out])
          have HES := Lib.hid (show endTo ls u t (j + 1) = if lossGo (lossTo ls u t j) (ls.getD j default) = true then (ls.getD j default).to_ else endTo ls u t j from rfl)
          generalize lossTo ls u t j = s at *
          generalize endTo ls u t j = e1 at *
          generalize ls.getD j default = l at *
          obtain ⟨la, lb, lf, lt, lr, lc⟩ := l
          have a0' : 0 ≤ lf := a0
          have a1' : lf < N := a1
          have b0' : 0 ≤ lt := b0
          have b1'' : lt < N := b1'
          have k0 : -1000 ≤ lc := hcost.1
          have k1 : lc ≤ 1000 := hcost.2
          obtain ⟨f', rfl⟩ := Int.eq_ofNat_of_zero_le a0'
          obtain ⟨v, rfl⟩ := Int.eq_ofNat_of_zero_le b0'
          have hfN : f' < N := by omega
          have hvN : v < N := by omega
          have cf := OwnI.cell oD hfN
          have cv := OwnI.cell oD hvN
          have bf := HRB.out f' hfN
          have HY1 := Lib.hid (fun (hh : s.d.getD f' 0 + lc < s.d.getD v 0) => (show lossTo ls u t (j + 1) = ⟨s.d.set v (s.d.getD f' 0 + lc), s.t.set v (t * m + j + 1)⟩ from by
            rw [HTS.out]; exact if_pos (decide_eq_true hh)))
          have HY2 := Lib.hid (fun (hh : s.d.getD f' 0 + lc < s.d.getD v 0) => (show endTo ls u t (j + 1) = (v : Int) from by
            rw [HES.out]; exact if_pos (decide_eq_true hh)))
          have HN1 := Lib.hid (fun (hh : ¬ s.d.getD f' 0 + lc < s.d.getD v 0) => (show lossTo ls u t (j + 1) = s from by
            rw [HTS.out]; exact if_neg (by unfold lossGo; rw [decide_eq_true_eq]; exact hh)))
          have HN2 := Lib.hid (fun (hh : ¬ s.d.getD f' 0 + lc < s.d.getD v 0) => (show endTo ls u t (j + 1) = e1 from by
            rw [HES.out]; exact if_neg (by unfold lossGo; rw [decide_eq_true_eq]; exact hh)))
          clear HTS HES HRB a0 a1 b0 b1' a0' a1' b0' b1'' hcost hown4
          generalize s.d.getD f' 0 = df at *
          generalize s.d.getD v 0 = dv at *
          have v1 : IntKind.i64.wrap (df + lc) = df + lc := IntWalk.i64_in _ (by omega)
          have v2 : (f' : Int) < (N : Int) := by omega
          have v3 : (v : Int) < (N : Int) := by omega
          by_cases h4 : df + lc < dv
          · have d3' : decide (df + lc < dv) = true := decide_eq_true h4
            have HE := Lib.hid (HY1.out h4)
            have HE2 := Lib.hid (HY2.out h4)
            go_wp2_with fail
            go_quiet (fail)
            have fb : (wr.drewN nq).frozen? ⟨gD, v, none⟩ = false := OwnI.free oD v
            have x0 : (wr.drewN nq).cell? ⟨gL, j * 6, none⟩ = some (.int .i64 f') := c0
            have x1 : (wr.drewN nq).cell? ⟨gL, j * 6 + 1, none⟩ = some (.int .i64 v) := c1
            have x3 : (wr.drewN nq).cell? ⟨gL, j * 6 + 3, none⟩ = some (.int .i64 lc) := c3
            have y1 : (wr.drewN nq).cell? ⟨gD, f', none⟩ = some (.int .i64 df) := cf
            have y2 : (wr.drewN nq).cell? ⟨gD, v, none⟩ = some (.int .i64 dv) := cv
            have hb5 := (below_drewN hbw nq)
            have oN := OwnI.drew (OwnI.set (OwnI.drewN oD nq) v (df + lc))
            have oYN := OwnI.drew (OwnI.far (OwnI.drewN oY nq) (p := ⟨gD, v, none⟩) (by intro ad ha; injection ha with ha; subst ha; exact fun e => hDY e.symm) (.int .i64 (df + lc)))
            have hb6 := Below.drew (hb5.setCell (p := ⟨gD, v, none⟩) hgD.1 (.int .i64 (df + lc)))
            clear c0 c1 c2 c3 c4 c5 cf cv oD oY hbw
            go_wp2_with fail
            generalize wr.drewN nq = W2 at *
            refine wp_region_still_tail 18 (by kernel_rfl) (by kernel_rfl) ?_
            change wpStill _ _ W2.drew (fun a' => wpList _ _ _ _ a' W2.drew) _ _
            simp only [List.take_succ_cons, List.take_zero, List.drop_succ_cons, List.drop_zero]
            repeat still_step
            refine wpStill_nil ?_
            go_upto_region 15 with (fail)
            generalize (W2.setCell ⟨gD, v, none⟩ (.int .i64 (df + lc))).drew = W3 at *
            have z1 : W3.cell? ⟨gL, j * 6 + 1, none⟩ = some (.int .i64 v) := (HCL.out W3 hb6).2.1
            have fy : W3.frozen? ⟨gY, v, none⟩ = false := OwnI.free oYN v
            have cy := OwnI.cell oYN hvN
            have oY7 := OwnI.set oYN v (j : Int)
            have oD7 := OwnI.far oN (p := ⟨gY, v, none⟩) (by intro ad ha; injection ha with ha; subst ha; exact hDY) (.int .i64 j)
            have hb7 := hb6.setCell (p := ⟨gY, v, none⟩) (show w1.heap.size ≤ gY by omega) (.int .i64 j)
            have z2 : (W3.setCell ⟨gY, v, none⟩ (.int .i64 j)).cell? ⟨gL, j * 6 + 1, none⟩ = some (.int .i64 v) := (HCL.out _ hb7).2.1
            clear oN oYN hb6 hb5 x0 x1 x3 y1 y2 fb
            rw [byS_set (r := t) hlj] at oY7
            go_wp2_with fail
            go_roundg (m - (j + 1))
            case measure => rw [HR2.out]; omega
            case rel => exact ⟨j + 1, rfl, by omega, by rw [HE2.out], by go_num, by rw [HE.out]; exact oD7, by rw [HE.out]; exact oY7, hb7⟩
          · have d3' : decide (df + lc < dv) = false := decide_eq_false h4
            have HE := Lib.hid (HN1.out h4)
            have HE2 := Lib.hid (HN2.out h4)
            go_wp2_with fail
            go_quiet (fail)
            go_wp2_with fail
            go_roundg (m - (j + 1))
            case measure => rw [HR2.out]; omega
            case rel => exact ⟨j + 1, rfl, by omega, by rw [HE2.out], by go_num, by rw [HE.out]; exact OwnI.drewN oD _, by rw [HE.out]; exact OwnI.drewN oY _, below_drewN hbw _⟩
        · have e : m = j := by omega
          subst e
          go_wp2_with fail
          go_roundg (N - (t + 1))
          case measure => rw [HR.out]; omega
          case rel => exact ⟨t + 1, rfl, by omega, by rw [HLE.out, HM.out], by go_num, by rw [HLR.out, HM.out]; exact oD, by rw [HLR.out, HM.out]; exact oY, hbw⟩
    · have e : N = t := by omega
      subst e
      have hEq := lossEnd_E (ls := ls) (N := N) (by omega)
      have HOK := Lib.hid (loss_r HLS.out HNE.out (N := N) N)
      have HLO := Lib.hid (lossE_ok (ls := ls) (N := N) (by omega) HLS.out HNE.out)
      rw [hEq]
      clear hEq
      have hbw0 := b1.trans (hbw.mono hs1)
      by_cases hE : lossE ls N = -1
      · have HV2 := Lib.hid (HV.out.trans (if_pos hE))
        have HB2 := Lib.hid (show b = false from by rw [HBB.out, decide_eq_false_iff_not]; exact fun h => h hE)
        rw [hE]
        clear HP HLO hE
        go_wp2_with fail
        go_ret2
        exact ⟨none, 0, 0, ret_LBr HB2.out.symm, by rw [HV2.out]; exact OwnI.nil_ _ _ _, hbw0⟩
      · obtain ⟨hp1, hp2, hp3, hp4⟩ := HP.out.resolve_left hE
        obtain ⟨e, he1, he2, he3⟩ := HLO.out.resolve_left hE
        obtain ⟨p', rfl⟩ : ∃ p', p = p' + 1 := ⟨p - 1, by omega⟩
        have hV2 := HV.out.trans ((if_neg hE).trans lossOut_all)
        have HB2 := Lib.hid (show b = true from by rw [HBB.out, decide_eq_true_iff]; exact hE)
        rw [he1, Int.toNat_natCast] at hp3 hp4 hV2
        have hback := (back_ok HLS.out HOK.out (by omega) he2 he3).1
        have HSB := Lib.hid (step_back HLS.out HOK.out hback)
        have HBK := Lib.hid hback
        rw [he1]
        clear HP HLO hE he3 HV HBB HOK hback
        generalize lossR ls N N = s at *
        have hm0 : 0 < m := by
          obtain ⟨jj, h1, _, _⟩ := HSB.out 0
          rw [HM.out] at h1; omega
        obtain ⟨gL, rfl, _, hgLlt, _⟩ := OwnC.pos ol hm0
        have HP3 := Lib.hid hp3
        have HP4 := Lib.hid hp4
        have HV2 := Lib.hid hV2
        clear hp3 hp4 hV2
        -- one step back in a world
        have HST := Lib.hid (fun (W : World) (oW : OwnI 3 w1.heap.size W (some ⟨gY, 0, none⟩) N N (byS m s.t)) (hW : Below w1.heap.size w1 W) (k : Nat) => (show ∃ jj : Nat, jj < m ∧ preN ls s e k < N ∧ W.cell? ⟨gY, preN ls s e k, none⟩ = some (.int .i64 jj) ∧ W.cell? ⟨gL, jj * 6, none⟩ = some (.int .i64 ((preN ls s e (k + 1) : Nat) : Int)) from by
          obtain ⟨jj, h1, h2, h3⟩ := HSB.out k
          rw [HM.out] at h1 h2
          have h4 := OwnI.cell oW (HBK.out k).1
          rw [h2] at h4
          have h5 := (left_cells (OwnC.below ol hW) h1).1
          rw [h3] at h5
          exact ⟨jj, h1, (HBK.out k).1, h4, h5⟩))
        have heN : (e : Int) = ((preN ls s e 0 : Nat) : Int) := rfl
        rw [heN]
        clear heN
        go_wp2_with fail
        go_loop [9, 13] (fun ev tv => ∃ (k : Nat), k ≤ N ∧ ev = .int .i64 ((preN ls s e k : Nat) : Int) ∧ tv = .int .i64 k) (fun ev tv => N - (intOf tv).toNat)
        case atStart => exact ⟨0, by omega, rfl, rfl⟩
        case round =>
          obtain ⟨k, hk, rfl, rfl⟩ := hrel
          by_cases hlt : k < N
          · obtain ⟨jj, h1, h2, h3, h4⟩ := HST.out _ oY hbw k
            generalize hy : preN ls s e (k + 1) = y at *
            have HY := Lib.hid hy
            clear hy
            generalize preN ls s e k = x at *
            have v1 : (jj : Int) < (m : Int) := by omega
            have v2 : (x : Int) < (N : Int) := by omega
            go_wp2_with fail
            go_round
            case rel => exact ⟨k + 1, by omega, by rw [HY.out], by go_num⟩
            case measure => simp [intOf]; omega
          · have e9 : N = k := by omega
            subst e9
            have HNA := Lib.hid (fun i => preN_add ls s e N i)
            obtain ⟨jj, h1, h2, h3, h4⟩ := HST.out _ oY hbw N
            have hx1 : preN ls s e (N + 1) = preN ls s (preN ls s e N) 1 := preN_add ls s e N 1
            rw [hx1] at h4
            have HX := Lib.hid (fun i => (HBK.out (N + i)))
            have HSX := Lib.hid (fun (W : World) (oW : OwnI 3 w1.heap.size W (some ⟨gY, 0, none⟩) N N (byS m s.t)) (hW : Below w1.heap.size w1 W) (i : Nat) => HST.out W oW hW (N + i))
            simp only [HNA.out] at HX HSX HP3 HP4
            have hadd : ∀ i, N + i + 1 = N + (i + 1) := fun i => rfl
            simp only [hadd, HNA.out] at HSX
            clear hx1 HST HBK HSB HNA hadd
            generalize preN ls s e N = x at *
            have hx0 : preN ls s x 0 = x := rfl
            have he : OwnI 2 wr.heap.size (wr.alloc (.cells #[] 2)) (some ⟨wr.heap.size, 0, none⟩) 0 0 (backTo ls s x 0) := World.ownsRow_lit (e := 2) (base := wr.heap.size) (size := 1) wr #[] 0 (Nat.le_refl _) (Nat.zero_le _) rfl
            have hb4 := (Below.refl wr.heap.size wr).alloc (Nat.le_refl _) (.cells #[] 2)
            have oY4 := OwnI.below oY hb4
            have hbb4 := hbw.trans (hb4.mono hbw.size)
            have v1 : (jj : Int) < (m : Int) := by omega
            have v2 : (x : Int) < (N : Int) := by omega
            have hmN : ∀ i, preN ls s x i < N := fun i => (HX.out i).1
            obtain ⟨kk, g1, g2, g3, g4⟩ := HSX.out _ oY4 hbb4 0
            have g3' : (wr.alloc (.cells #[] 2)).cell? ⟨gY, x, none⟩ = some (.int .i64 kk) := g3
            clear g2 g3 v1 h1 h2 h3 h4 jj
            have v3 : (kk : Int) < (m : Int) := by omega
            go_wp2_with fail
            generalize wr.alloc (.cells #[] 2) = W4 at *
            obtain ⟨wo, rfl⟩ : ∃ wo : World, wo = wr := ⟨_, rfl⟩
            go_loopg [14, 15] p' (fun r bv av wi => ∃ (k : Nat) (Q : Option Addr) (c : Nat), r = p' - k ∧ k ≤ p' ∧ bv = .slice Q k c ∧ av = .int .i64 ((preN ls s x (k + 1) : Nat) : Int) ∧ OwnI 2 wo.heap.size wi Q k c (backTo ls s x k) ∧ Below wo.heap.size wo wi)
            case atStart => exact ⟨0, _, 0, rfl, by omega, rfl, rfl, he, hb4⟩
            case round =>
              clear he hb4 oY4 hbb4 g3' g4
              obtain ⟨k, Q, c9, hr, hk, rfl, rfl, ob, hbx⟩ := hrel
              have HR := Lib.hid hr
              clear hr
              have hsz := hbx.size
              by_cases hlt : k < p'
              · have hne := HP4.out (k + 1) (by omega) (by omega)
                have HBS := Lib.hid (backTo_succ ls s x k)
                have HSY := Lib.hid (fun (W : World) (oW : OwnI 3 w1.heap.size W (some ⟨gY, 0, none⟩) N N (byS m s.t)) (hW : Below w1.heap.size w1 W) => HSX.out W oW hW (k + 1))
                generalize hy2 : preN ls s x (k + 1 + 1) = y2 at *
                have HY2 := Lib.hid hy2
                clear hy2
                generalize preN ls s x (k + 1) = y at *
                have hfb : ((y : Int) == (x : Int)) = false := by rw [beq_eq_false_iff_ne]; omega
                go_wp2_with (at_builtin; (refine wp_append_int _ _ rfl _ _ _ rfl 2 wo.heap.size Try.underlying29 info64 Q k c9 _ rfl ob rfl (by omega) hsz ?_; intro g5 c5 w6 o6 u6 b6 hg6; have hb6 := hbx.trans b6; have hbb6 := hbw.trans (hb6.mono hbw.size); obtain ⟨kq, f1, f2, f3, f4⟩ := HSY.out _ (OwnI.below oY hb6) hbb6; have v4 : (kq : Int) < (m : Int) := (by omega); have v5 : (y : Int) < (N : Int) := (by omega)))
                go_roundg (p' - (k + 1))
                case measure => rw [HR.out]; omega
                case rel => exact ⟨k + 1, _, c5, rfl, by omega, rfl, by rw [HY2.out], by rw [HBS.out]; exact o6, hbx.trans b6⟩
              · have e8 : p' = k := by omega
                subst e8
                have hpx := HP3.out
                rw [hpx]
                have hfb : ((x : Int) == (x : Int)) = true := beq_self_eq_true _
                have oo : OwnI 2 wr.heap.size (wr.alloc (.cells #[.int .i64 x] 2)) (some ⟨wr.heap.size, 0, none⟩) 1 1 (lossOut ls s x p' 0) := World.ownsRow_lit (e := 2) (base := wr.heap.size) (size := 1) wr #[.int .i64 x] 1 (Nat.le_refl _) (by simp [maxLen]) rfl
                have hb7 := (Below.refl wr.heap.size wr).alloc (Nat.le_refl _) (.cells #[.int .i64 x] 2)
                have v6 : IntKind.i64.wrap ((p' : Int) - 1) = (p' : Int) - 1 := IntWalk.i64_in _ (by omega)
                clear hpx
                go_wp2_with fail
                generalize wr.alloc (.cells #[.int .i64 x] 2) = W7 at *
                obtain ⟨wq, rfl⟩ : ∃ wq : World, wq = wr := ⟨_, rfl⟩
                go_loopg [16, 17] p' (fun r ov iv wi => ∃ (k : Nat) (Q5 : Option Addr) (c5 : Nat), r = p' - k ∧ k ≤ p' ∧ ov = .slice Q5 (k + 1) c5 ∧ iv = .int .i64 (((p' - k : Nat) : Int) - 1) ∧ OwnI 2 wq.heap.size wi Q5 (k + 1) c5 (lossOut ls s x p' k) ∧ Below wq.heap.size wq wi)
                case atStart => exact ⟨0, _, 1, rfl, by omega, rfl, rfl, oo, hb7⟩
                case round =>
                  clear oo hb7
                  obtain ⟨k, Q5, c5, hr, hk, rfl, rfl, o5, hb5⟩ := hrel
                  have HR5 := Lib.hid hr
                  clear hr
                  have hsz5 := hb5.size
                  by_cases hlt : k < p'
                  · obtain ⟨t, ht⟩ : ∃ t, p' - k = t + 1 := ⟨p' - k - 1, by omega⟩
                    have HLS5 := Lib.hid (lossOut_succ (ls := ls) (s := s) (x := x) ht)
                    have HT := Lib.hid (show p' - (k + 1) = t by omega)
                    have htp : t < p' := by omega
                    rw [ht, show (((t + 1 : Nat) : Int) - 1) = (t : Int) by omega]
                    clear ht
                    obtain ⟨qd, rfl, _, hcu⟩ := (OwnI.ints (OwnI.below ob hb5)).at_ (k := t) (by omega)
                    generalize (backTo ls s x p').getD t 0 = z at *
                    have v7 : (t : Int) < (p' : Int) := by omega
                    have v8 : IntKind.i64.wrap ((t : Int) - 1) = (t : Int) - 1 := IntWalk.i64_in _ (by omega)
                    have v9 : decide ((t : Int) ≥ 0) = true := decide_eq_true (by omega)
                    go_wp2_with (at_builtin; refine wp_append_int _ _ rfl _ _ _ rfl 2 wq.heap.size Try.underlying29 info64 Q5 (k + 1) c5 _ rfl o5 rfl (by omega) hsz5 ?_; intro g9 c9' w9 o9 u9 b9 hg9)
                    go_roundg (p' - (k + 1))
                    case measure => rw [HR5.out]; omega
                    case rel => exact ⟨k + 1, _, c9', rfl, by omega, rfl, by rw [HT.out], by rw [HLS5.out]; exact o9, hb5.trans b9⟩
                  · have e7 : p' = k := by omega
                    subst e7
                    rw [show (((p' - p' : Nat) : Int) - 1) = -1 by omega]
                    go_wp2_with fail
                    go_ret2
                    exact ⟨_, _, _, ret_LBr HB2.out.symm, by rw [HV2.out]; exact OwnI.low o5 (by have := hbw.size; omega), (hbw0.trans (hbx.mono (by have := hbw.size; omega))).trans (hb5.mono (by have := hbw.size; omega))⟩
end Go.Proofs.Ytnljfhmdjhppmaa
