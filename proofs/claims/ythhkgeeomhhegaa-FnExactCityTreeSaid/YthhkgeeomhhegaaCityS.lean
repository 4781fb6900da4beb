/- The least tree of all cities: the reference. -/
import Derived.Test.YthhkgeeomhhegaaCity
import Derived.Test.YthhkgeeomhhegaaMore
import Derived.Deep.RegionHeld3
namespace Go.Proofs.Ythhkgeeomhhegaa
open Go.RowKit

set_option maxRecDepth 100000 in
set_option maxHeartbeats 3200000 in
theorem l04Tree_any (A : Option Addr) (n c N : Nat) (ws : List Int) (w : World) (h : IntsAt w A n ws) (hn : n = N * N) (hN1 : 1 ≤ N) (hN : N ≤ 10) (hw : ∀ j, j < N * N → 0 ≤ ws.getD j 0 ∧ ws.getD j 0 ≤ 1000) :
    Calls Try.prog 29 #[.slice A n c, .int .i64 N, .int .i64 0] w fun e w' => ∃ (E : Option Addr) (ce : Nat), e = .returned (.tuple #[.slice E (2 * (N - 1)) ce, .int .i64 (treeTo ws N (N - 1)).2.2]) ∧ OwnI 2 w.heap.size w' E (2 * (N - 1)) ce (treeTo ws N (N - 1)).2.1 ∧ Below w.heap.size w w' := by
  have HN := Lib.hid hn
  have HBD := Lib.hid (fun m (hm : m + 1 ≤ N) => treeTo_bd (N := N) (by rw [h.len]; exact hn) hw m hm)
  have HED := Lib.hid (fun m (hm : m + 1 < N) => treeTo_edge (ws := ws) hm)
  have HWB := Lib.hid hw
  have hn100 : n ≤ 100 := by rw [hn]; exact sq_bd hN
  clear hn hw
  have h0N : (0 : Int) < (N : Int) := by omega
  go_enter Try.func29, Try.ntmps29
  go_wp2_with (at_make; refine wp_make_vals _ rfl _ _ 66 rfl (.bool false) 1 rfl (by omega) 4 Try.underlying66 infoB .i64 .i64 _ _ N rfl rfl rfl rfl (by omega) ?_; intro w1 g o1 b1; have ff := OwnC.free o1 0; have cF : w1.cell? ⟨g, 0, none⟩ = some (.bool false) := (by rw [OwnC.cell o1 (j := 0) (by omega)]; simp [show 0 < N by omega]); have hset := o1.set 0 (.bool true))
  have hg := (OwnC.lt o1 rfl).1
  rw [← seenL_nil N, show (.bool true : Value) = .bool true from rfl, seenL_step [] N 0] at hset
  have b2 := b1.setCell (p := ⟨g, 0, none⟩) hg (.bool true)
  clear o1 b1 ff cF
  have e21 : (w1.setCell ⟨g, 0, none⟩ (.bool true)).heap.size = w1.heap.size := by simp
  generalize w1.setCell ⟨g, 0, none⟩ (.bool true) = w2 at *
  have hgl := (OwnC.lt hset rfl).2
  have hsz2 := b2.size
  have oE0 : OwnI 2 w.heap.size (w2.alloc (.cells #[] 2)) (some ⟨w2.heap.size, 0, none⟩) 0 0 (treeTo ws N 0).2.1 := World.ownsRow_lit (e := 2) (base := w.heap.size) (size := 1) w2 #[] 0 hsz2 (Nat.zero_le _) rfl
  have hset2 := hset.alloc (.cells #[] 2)
  have b3 := b2.alloc hsz2 (.cells #[] 2)
  have hs0 : Sep (some ⟨w2.heap.size, 0, none⟩) (some ⟨g, 0, none⟩) := by
    intro x y hx hy
    injection hx with hx
    injection hy with hy
    subst hx hy
    show w2.heap.size ≠ g
    have : g < w2.heap.size := hgl
    omega
  generalize hw3 : w2.alloc (.cells #[] 2) = w3 at *
  rw [e21] at oE0 hs0
  clear hset b2 hw3 e21
  go_loopg [9, 10, 11] (N - 1) (fun r ev tv cv wr => ∃ (m : Nat) (E : Option Addr) (ce : Nat), r = N - (m + 1) ∧ m + 1 ≤ N ∧ cv = .int .i64 ((m : Int) + 1) ∧ ev = .slice E (2 * m) ce ∧ tv = .int .i64 (treeTo ws N m).2.2 ∧ OwnC 4 w.heap.size 1 wr (some ⟨g, 0, none⟩) N N (seenL (treeTo ws N m).1 N) ∧ OwnI 2 w.heap.size wr E (2 * m) ce (treeTo ws N m).2.1 ∧ Sep E (some ⟨g, 0, none⟩) ∧ Below w.heap.size w wr)
  case atStart => exact ⟨0, _, _, rfl, hN1, rfl, rfl, rfl, hset2, oE0, hs0, b3⟩
  case round =>
    clear hset2 oE0 hs0 b3
    obtain ⟨m, E, ce, hr, hm, rfl, rfl, rfl, oI, oE, hs, hb⟩ := hrel
    have HR := Lib.hid hr
    clear hr
    have hbd := HBD.out m hm
    by_cases hlt : m + 1 < N
    · have hlt' : ((m : Int) + 1) < (N : Int) := by omega
      have HE := Lib.hid (HED.out m hlt)
      have HI1 := Lib.hid (treeTo_ins ws N m)
      have HE1 := Lib.hid (treeTo_edges ws N m)
      have HT1 := Lib.hid (treeTo_sum ws N m)
      generalize (treeTo ws N m).2.2 = tot at *
      generalize (treeTo ws N m).2.1 = eds at *
      generalize (treeTo ws N m).1 = ins at *
      have hbg := h.below hb
      obtain ⟨wo, rfl⟩ : ∃ wo : World, wo = wr := ⟨_, rfl⟩
      go_wp2_with fail
      go_loopg [12, 13] N (fun r xv iv wi => ∃ (i : Nat), r = N - i ∧ i ≤ N ∧ xv = .int .i64 (edgeTo ws N ins (i * N)) ∧ iv = .int .i64 i ∧ Drew wo wi)
      case atStart => exact ⟨0, rfl, Nat.zero_le _, by rw [Nat.zero_mul]; rfl, rfl, Drew.refl _⟩
      case round =>
        obtain ⟨i, hr, hi, rfl, rfl, q, rfl⟩ := hrel
        have HRI := Lib.hid hr
        clear hr
        by_cases hli : i < N
        · have hli' : (i : Int) < (N : Int) := by omega
          have HMR := Lib.hid (Nat.succ_mul i N)
          go_wp2_with fail
          obtain ⟨x0, hx0⟩ : ∃ x0 : Int, x0 = edgeTo ws N ins (i * N) := ⟨_, rfl⟩
          have HX0 := Lib.hid hx0
          rw [← hx0]
          clear hx0
          go_loopg [12, 14] N (fun r xv kv wi => ∃ (k : Nat), r = N - k ∧ k ≤ N ∧ xv = .int .i64 (edgeTo ws N ins (i * N + k)) ∧ kv = .int .i64 k ∧ Drew wo wi)
          case atStart => exact ⟨0, rfl, Nat.zero_le _, by rw [HX0.out]; rfl, rfl, ⟨q, rfl⟩⟩
          case round =>
            obtain ⟨k, hr, hk, rfl, rfl, q2, rfl⟩ := hrel
            have HRK := Lib.hid hr
            clear hr
            by_cases hlk : k < N
            · have hlk' : (k : Int) < (N : Int) := by omega
              have ci := oI.cell (j := i) (by omega)
              rw [seenL_get hli] at ci
              have ck := oI.cell (j := k) (by omega)
              rw [seenL_get hlk] at ck
              have HSK := Lib.hid (@edge_skip ws N ins i)
              have HIN := Lib.hid (edge_in (ws := ws) (ins := ins) (i := i) hlk)
              have HY := Lib.hid (edge_yes (ws := ws) (ins := ins) (i := i) hlk)
              have HF := Lib.hid (edge_far (ws := ws) (N := N) (ins := ins) (i := i) (k := k))
              have hbe := edgeTo_bd ws N ins (i * N + k)
              have hidx := idx_lt hli hlk
              obtain ⟨ad, rfl, _, hc3⟩ := hbg.at_ (k := i * N + k) (by rw [HN.out]; exact hidx)
              obtain ⟨f1, f2, f3⟩ := mul_facts hN HN.out hli hlk
              generalize hx : ws.getD (i * N + k) 0 = x at *
              generalize he : edgeTo ws N ins (i * N + k) = e0 at *
              have HEQ := Lib.hid he
              clear he hx
              cases hhi : hasB ins (i : Int)
              · rw [hhi] at ci
                have HV := Lib.hid (show edgeTo ws N ins (i * N + (k + 1)) = e0 by rw [HSK.out hhi (k + 1) (by omega), ← HSK.out hhi k (by omega)]; exact HEQ.out)
                clear ck hc3 f1 f2 f3
                go_wp2_with go_quiet (fail)
                go_roundg (N - (k + 1))
                case measure => rw [HRK.out]; omega
                case rel => exact ⟨k + 1, rfl, hlk, by rw [HV.out], by go_num, ⟨_, rfl⟩⟩
              · rw [hhi] at ci
                cases hhk : hasB ins (k : Int)
                · rw [hhk] at ck
                  by_cases hneg : e0 < 0
                  · have HV := Lib.hid (HY.out hhi hhk (.inl hneg))
                    go_wp2_with go_quiet (fail)
                    go_roundg (N - (k + 1))
                    case measure => rw [HRK.out]; omega
                    case rel => exact ⟨k + 1, rfl, hlk, by first | (rw [HV.out]; done) | (rw [HV.out]; push_cast; rfl), by go_num, ⟨_, rfl⟩⟩
                  · have hpos : 0 ≤ e0 := by omega
                    obtain ⟨b, rfl⟩ := Int.eq_ofNat_of_zero_le hpos
                    have hbn : b < n := by rw [HN.out]; omega
                    have hbn' : (b : Int) < (n : Int) := by omega
                    obtain ⟨ad', e1, _, hc2⟩ := hbg.at_ (k := b) hbn
                    injection e1 with e1
                    subst e1
                    rw [Int.toNat_natCast] at HY HF
                    generalize ws.getD b 0 = y at *
                    by_cases hless : x < y
                    · have HV := Lib.hid (HY.out hhi hhk (.inr hless))
                      go_wp2_with go_quiet (fail)
                      go_roundg (N - (k + 1))
                      case measure => rw [HRK.out]; omega
                      case rel => exact ⟨k + 1, rfl, hlk, by first | (rw [HV.out]; done) | (rw [HV.out]; push_cast; rfl), by go_num, ⟨_, rfl⟩⟩
                    · have HV := Lib.hid (HF.out hpos (by omega))
                      go_wp2_with go_quiet (fail)
                      go_roundg (N - (k + 1))
                      case measure => rw [HRK.out]; omega
                      case rel => exact ⟨k + 1, rfl, hlk, by rw [HV.out], by go_num, ⟨_, rfl⟩⟩
                · rw [hhk] at ck
                  have HV := Lib.hid (show edgeTo ws N ins (i * N + (k + 1)) = e0 from HIN.out hhk)
                  clear hc3 f1 f2 f3
                  go_wp2_with go_quiet (fail)
                  go_roundg (N - (k + 1))
                  case measure => rw [HRK.out]; omega
                  case rel => exact ⟨k + 1, rfl, hlk, by rw [HV.out], by go_num, ⟨_, rfl⟩⟩
            · have e : N = k := by omega
              subst e
              go_wp2_with fail
              go_roundg (N - (i + 1))
              case measure => rw [HRI.out]; omega
              case rel => exact ⟨i + 1, rfl, hli, by rw [HMR.out], by go_num, ⟨_, rfl⟩⟩
        · have e : N = i := by omega
          subst e
          obtain ⟨a0, a1⟩ := HE.out
          generalize he : edgeTo ws N ins (N * N) = e0 at *
          clear he
          obtain ⟨b, rfl⟩ := Int.eq_ofNat_of_zero_le a0
          have hbN : b < N * N := by omega
          rw [Int.toNat_natCast] at HI1 HE1 HT1
          have hbn : b < n := by rw [HN.out]; exact hbN
          have hbn' : (b : Int) < (n : Int) := by omega
          have hN0 : 0 < N := by omega
          have hmod : (b : Int) % (N : Int) = ((b % N : Nat) : Int) := rfl
          have hdiv : (b : Int) / (N : Int) = ((b / N : Nat) : Int) := rfl
          have hm3 : Int.tmod (b : Int) (N : Int) = ((b % N : Nat) : Int) := rfl
          have hm2 := Nat.mod_lt b hN0
          have hd2 : b / N < N := Nat.div_lt_of_lt_mul hbN
          have hWV := HWB.out b hbN
          obtain ⟨ad, rfl, _, _⟩ := h.at_ (k := b) hbn
          have HCX := Lib.hid (fun (W : World) (hB : Below w.heap.size w W) => ints_cell (h.below hB) hbn)
          generalize ws.getD b 0 = x at *
          clear a0 a1
          generalize b % N = kk at *
          generalize b / N = ii at *
          have hkk' : (kk : Int) < (N : Int) := by omega
          have fk := OwnC.free oI kk
          have ck := OwnC.cell oI (j := kk) (by omega)
          rw [seenL_get hm2] at ck
          have oI2 := (OwnC.drewN oI q).set kk (.bool true)
          rw [seenL_step, ← HI1.out] at oI2
          have hgb := (OwnC.lt oI rfl).1
          have b3 := (below_drewN hb q).setCell (p := ⟨g, kk, none⟩) hgb (.bool true)
          have oE2 := (oE.drewN q).far (p := ⟨g, kk, none⟩) (fun ad had => by have := hs ad ⟨g, 0, none⟩ had rfl; exact this) (.bool true)
          generalize hbv : hasB ins (kk : Int) = bv at *
          clear hbv
          go_upto_region 18 with (fail)
          have hsz2 := b3.size
          generalize hW2 : (wo.drewN q).setCell ⟨g, kk, none⟩ (.bool true) = W2 at *
          clear hW2 fk ck oE
          have v1 : IntKind.i64.wrap (ii : Int) = (ii : Int) := IntWalk.i64_in _ (by omega)
          have v2 : IntKind.i64.wrap (kk : Int) = (kk : Int) := IntWalk.i64_in _ (by omega)
          have hNz : ¬ N = 0 := by omega
          obtain ⟨i0, hi0, hz0, hz1, hz2⟩ := info_parts info64
          go_region_held3 (fun _ => True)
            (exact trivial)
            ((refine step_append_lies _ (by rfl) _ _ _ (by rfl) w.heap.size 2 i0 _ 1 8 Try.underlying22 hi0 hz0 hz1 hz2 rfl (by omega) (.slice E (2 * m) ce) (2 * m) (eds.map (Value.int .i64)) (by rfl) ((World.ownsRow.alloc oE2 _).drew) ⟨W2.heap.size, 0, none⟩ 2 2 [.int .i64 (ii : Int), .int .i64 (kk : Int)] (by rfl) (by rfl) (World.news_of_block (cs := #[.int .i64 (ii : Int), .int .i64 (kk : Int)]) (t := 2) (fr := (0, 0)) (heap_alloc_new W2 _)) (by simp [Value.oneCell']) (by omega) (by unfold maxLen; omega) (by omega) (by simp; omega) (W2.heap.size + 1) (by simp) ?_; intro gg5 cap5 w5 hown5 hgrow hat5 hlt5))
          have oE3 : OwnI 2 w.heap.size w5 (some ⟨gg5, 0, none⟩) (2 * m + 2) cap5 (eds ++ [(ii : Int), (kk : Int)]) := by
            have h5 := hown5
            rw [show (eds.map (Value.int .i64)) ++ [.int .i64 (ii : Int), .int .i64 (kk : Int)] = (eds ++ [(ii : Int), (kk : Int)]).map (Value.int .i64) by rw [List.map_append]; rfl] at h5
            exact h5
          have oI' := (oI2.alloc (.cells #[.int .i64 (ii : Int), .int .i64 (kk : Int)] 2)).drew
          have hb' := (b3.alloc hsz2 (.cells #[.int .i64 (ii : Int), .int .i64 (kk : Int)] 2)).drew
          have hsz := hb'.size
          have oE' := (oE2.alloc (.cells #[.int .i64 (ii : Int), .int .i64 (kk : Int)] 2)).drew
          have uE : Upd (blk E) (W2.alloc (.cells #[.int .i64 (ii : Int), .int .i64 (kk : Int)] 2)).drew w5 := (Upd.refl _ _).grown hgrow (by
            intro k hk
            cases E with
            | none => cases hk
            | some ad => injection hk with hk; exact .inl ⟨ad, rfl, hk⟩)
          have bE : Below w.heap.size (W2.alloc (.cells #[.int .i64 (ii : Int), .int .i64 (kk : Int)] 2)).drew w5 := uE.toBelow hsz fun k hk ⟨ad, h1, h2⟩ => by have := (OwnI.lt oE' h1).1; omega
          have oI3 := OwnC.sep oI' uE hs.symm
          have hs2 : Sep (some ⟨gg5, 0, none⟩) (some ⟨g, 0, none⟩) := by
            intro x y hx hy
            have h1 := (OwnC.lt oI2 hy).2
            injection hx with hx
            subst hx
            rcases hat5 with h5 | h5
            · cases E with
              | none => cases h5
              | some ed => injection h5 with h5; have := hs ed y rfl hy; show gg5 ≠ y.block; rw [← h5]; exact this
            · show gg5 ≠ y.block; omega
          have hb2 := hb'.trans bE
          rw [← HE1.out] at oE3
          have hc3 := HCX.out _ hb2
          clear oE' oI' uE bE oI2 oE2 hown5 hgrow hat5 hb' v1 v2 hdiv hmod hm3
          go_split_ands
          go_wp2_with fail
          go_roundg (N - (m + 1 + 1))
          case measure => rw [HR.out]; omega
          case rel => exact ⟨m + 1, _, _, rfl, by omega, by go_num, rfl, by rw [HT1.out], oI3, oE3, hs2, hb2⟩
    · have e : N - 1 = m := by omega
      have hge : ¬ ((m : Int) + 1) < (N : Int) := by omega
      have HEQ := Lib.hid e
      clear e
      go_wp2_with fail
      go_ret2
      rw [HEQ.out]
      exact ⟨_, _, rfl, oE, hb⟩
end Go.Proofs.Ythhkgeeomhhegaa
