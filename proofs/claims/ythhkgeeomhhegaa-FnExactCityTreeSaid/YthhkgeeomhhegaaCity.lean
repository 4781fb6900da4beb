/- The least tree of all cities: the walks. -/
import Derived.Test.YthhkgeeomhhegaaCityPlain
import Derived.Test.YthhkgeeomhhegaaGrid
namespace Go.Proofs.Ythhkgeeomhhegaa
open Go.RowKit

set_option maxRecDepth 100000 in
set_option maxHeartbeats 800000 in
/-- the closure that tells how long a way is -/
theorem cityWay_any (A : Option Addr) (n c N g1 g2 : Nat) (ws : List Int) (i k : Nat) (w : World) (h : IntsAt w A n ws) (hn : n = N * N) (hN : N ≤ 10) (hi : i < N) (hk : k < N)
    (hb1 : Blk w g1 22 #[.slice A n c]) (hb2 : Blk w g2 2 #[.int .i64 N]) :
    Calls Try.prog 33 #[.int .i64 i, .int .i64 k, .pointer (some ⟨g1, 0, none⟩), .pointer (some ⟨g2, 0, none⟩)] w fun e w' => e = .returned (.int .i64 (ws.getD (i * N + k) 0)) ∧ w = w' := by
  have p1 := (hb1.cell 0).trans (show _ = some (Value.slice A n c) from rfl)
  have p2 := (hb2.cell 0).trans (show _ = some (Value.int .i64 (N : Int)) from rfl)
  obtain ⟨ad, rfl, _, hc3⟩ := h.at_ (k := i * N + k) (by rw [hn]; exact idx_lt hi hk)
  obtain ⟨f1, f2, f3⟩ := mul_facts hN hn hi hk
  clear hb1 hb2 hn h
  generalize ws.getD (i * N + k) 0 = x at *
  go_enter Try.func33, Try.ntmps33
  go_wp2_with fail
  go_ret
  exact ⟨rfl, rfl⟩

/-- the pair of a number: none, or its row and column -/
def EdgeAt (N : Nat) (e x y : Int) : Prop := (e < 0 ∧ x = -1 ∧ y = -1) ∨ ∃ i k : Nat, i < N ∧ k < N ∧ x = i ∧ y = k ∧ e = ((i * N + k : Nat) : Int)
theorem edge_div {N i k : Nat} (hk : k < N) : (i * N + k) / N = i ∧ (i * N + k) % N = k := by
  constructor
  · rw [Nat.mul_comm, Nat.mul_add_div (by omega), Nat.div_eq_of_lt hk, Nat.add_zero]
  · rw [Nat.mul_comm, Nat.mul_add_mod, Nat.mod_eq_of_lt hk]
theorem edgeB_at {N : Nat} {ins : List Int} {i k : Nat} (hk : k < N) : edgeB N ins (i * N + k) = (hasB ins (i : Int) && !hasB ins (k : Int)) := by
  unfold edgeB
  rw [(edge_div hk).1, (edge_div hk).2]
theorem edge_skip {ws : List Int} {N : Nat} {ins : List Int} {i : Nat} (h : hasB ins (i : Int) = false) : ∀ k, k ≤ N → edgeTo ws N ins (i * N + k) = edgeTo ws N ins (i * N)
  | 0, _ => rfl
  | k + 1, hk => by
    rw [show i * N + (k + 1) = (i * N + k) + 1 from rfl, edgeTo_no (by rw [edgeB_at (by omega), h]; rfl)]
    exact edge_skip h k (by omega)
theorem edge_row {ws : List Int} {N : Nat} {ins : List Int} {i : Nat} (h : hasB ins (i : Int) = false) : edgeTo ws N ins ((i + 1) * N) = edgeTo ws N ins (i * N) := by
  rw [Nat.succ_mul]; exact edge_skip h N (Nat.le_refl _)
theorem edge_in {ws : List Int} {N : Nat} {ins : List Int} {i k : Nat} (hk : k < N) (h : hasB ins (k : Int) = true) : edgeTo ws N ins (i * N + (k + 1)) = edgeTo ws N ins (i * N + k) := by
  rw [show i * N + (k + 1) = (i * N + k) + 1 from rfl, edgeTo_no (by rw [edgeB_at hk, h]; simp)]
theorem edge_yes {ws : List Int} {N : Nat} {ins : List Int} {i k : Nat} (hk : k < N) (h1 : hasB ins (i : Int) = true) (h2 : hasB ins (k : Int) = false) (h3 : edgeTo ws N ins (i * N + k) < 0 ∨ ws.getD (i * N + k) 0 < ws.getD (edgeTo ws N ins (i * N + k)).toNat 0) : edgeTo ws N ins (i * N + (k + 1)) = ((i * N + k : Nat) : Int) := by
  rw [show i * N + (k + 1) = (i * N + k) + 1 from rfl, edgeTo_yes (by rw [edgeB_at hk, h1, h2]; rfl) h3]
theorem edge_far {ws : List Int} {N : Nat} {ins : List Int} {i k : Nat} (h1 : 0 ≤ edgeTo ws N ins (i * N + k)) (h2 : ws.getD (edgeTo ws N ins (i * N + k)).toNat 0 ≤ ws.getD (i * N + k) 0) : edgeTo ws N ins (i * N + (k + 1)) = edgeTo ws N ins (i * N + k) :=
  edgeTo_far h1 h2

set_option maxRecDepth 100000 in
set_option maxHeartbeats 3200000 in
theorem cityTree_any (A : Option Addr) (n c N g1 g2 : Nat) (ws : List Int) (w : World) (h : IntsAt w A n ws) (hn : n = N * N) (hN1 : 1 ≤ N) (hN : N ≤ 10) (hw : ∀ j, j < N * N → 0 ≤ ws.getD j 0 ∧ ws.getD j 0 ≤ 1000)
    (hb1 : Blk w g1 22 #[.slice A n c]) (hb2 : Blk w g2 2 #[.int .i64 N]) :
    Calls Try.prog 32 #[.int .i64 N, .int .i64 0, .func (.func 33) #[] #[.pointer (some ⟨g1, 0, none⟩), .pointer (some ⟨g2, 0, none⟩)]] w fun e w' => ∃ (E : Option Addr) (ce : Nat), e = .returned (.tuple #[.slice E (2 * (N - 1)) ce, .int .i64 (treeTo ws N (N - 1)).2.2]) ∧ OwnI 2 w.heap.size w' E (2 * (N - 1)) ce (treeTo ws N (N - 1)).2.1 ∧ Below w.heap.size w w' := by
  have HN := Lib.hid hn
  have HB1 := Lib.hid hb1
  have HB2 := Lib.hid hb2
  have HBD := Lib.hid (fun m (hm : m + 1 ≤ N) => treeTo_bd (N := N) (by rw [h.len]; exact hn) hw m hm)
  have HED := Lib.hid (fun m (hm : m + 1 < N) => treeTo_edge (ws := ws) hm)
  have HLN := Lib.hid (treeTo_len ws N)
  have HWB := Lib.hid hw
  clear hn hb1 hb2 hw
  have he : OwnI 2 w.heap.size (w.alloc (.cells #[.int .i64 0] 2)) (some ⟨w.heap.size, 0, none⟩) 1 1 (treeTo ws N 0).1 := World.ownsRow_lit (e := 2) (base := w.heap.size) (size := 1) w #[.int .i64 0] 1 (Nat.le_refl _) (by simp [maxLen]) rfl
  have hE0 : OwnI 2 w.heap.size (w.alloc (.cells #[.int .i64 0] 2)) none 0 0 (treeTo ws N 0).2.1 := OwnI.nil_ _ _ _
  have hW : Below w.heap.size w (w.alloc (.cells #[.int .i64 0] 2)) := (Below.refl _ _).alloc (Nat.le_refl _) _
  have hs0 : Sep (none : Option Addr) (some ⟨w.heap.size, 0, none⟩) := fun x y hx => by cases hx
  go_enter Try.func32, Try.ntmps32
  go_wp2_with fail
  generalize w.alloc (.cells #[.int .i64 0] 2) = w0 at *
  go_loopg [8, 9, 10] (N - 1) (fun r iv ev tv wr => ∃ (m : Nat) (I : Option Addr) (ci : Nat) (E : Option Addr) (ce : Nat), r = N - (m + 1) ∧ m + 1 ≤ N ∧ iv = .slice I (m + 1) ci ∧ ev = .slice E (2 * m) ce ∧ tv = .int .i64 (treeTo ws N m).2.2 ∧ OwnI 2 w.heap.size wr I (m + 1) ci (treeTo ws N m).1 ∧ OwnI 2 w.heap.size wr E (2 * m) ce (treeTo ws N m).2.1 ∧ Sep E I ∧ Below w.heap.size w wr)
  case atStart => exact ⟨0, _, _, _, _, rfl, hN1, rfl, rfl, rfl, he, hE0, hs0, hW⟩
  case round =>
    clear he hE0 hs0 hW
    obtain ⟨m, I, ci, E, ce, hr, hm, rfl, rfl, rfl, oI, oE, hs, hb⟩ := hrel
    have HR := Lib.hid hr
    clear hr
    have hbd := HBD.out m hm
    by_cases hlt : m + 1 < N
    · have hlt' : ((m : Int) + 1) < (N : Int) := by omega
      have HE := Lib.hid (HED.out m hlt)
      have HI1 := Lib.hid (treeTo_ins ws N m)
      have HE1 := Lib.hid (treeTo_edges ws N m)
      have HT1 := Lib.hid (treeTo_sum ws N m)
      have HBN := Lib.hid (HBD.out (m + 1) (by omega))
      generalize (treeTo ws N m).2.2 = tot at *
      generalize (treeTo ws N m).2.1 = eds at *
      generalize (treeTo ws N m).1 = ins at *
      have kb1 := HB1.out.ext hb
      have kb2 := HB2.out.ext hb
      have hbg := h.below hb
      go_wp2_with fail
      refine (size_any _ _).mono ?_
      rintro e w' ⟨rfl, rfl⟩
      go_wp2_with fail
      obtain ⟨wo, rfl⟩ : ∃ wo : World, wo = wr := ⟨_, rfl⟩
      go_loopg [11, 12, 13] N (fun r xv yv iv wi => ∃ (i : Nat) (x y : Int), r = N - i ∧ i ≤ N ∧ xv = .int .i64 x ∧ yv = .int .i64 y ∧ iv = .int .i64 i ∧ Hid (EdgeAt N (edgeTo ws N ins (i * N)) x y) ∧ wo = wi)
      case atStart => exact ⟨0, -1, -1, rfl, Nat.zero_le _, rfl, rfl, rfl, Lib.hid (.inl ⟨by rw [Nat.zero_mul]; exact (show (-1 : Int) < 0 by decide), rfl, rfl⟩), rfl⟩
      case round =>
        obtain ⟨i, x, y, hr, hi, rfl, rfl, rfl, HX, hw2⟩ := hrel
        have HRI := Lib.hid hr
        clear hr
        subst hw2
        by_cases hli : i < N
        · have hli' : (i : Int) < (N : Int) := by omega
          go_wp2_with fail
          cases hhi : hasB ins (i : Int)
          · have HSK := Lib.hid (edge_row (ws := ws) (N := N) hhi)
            refine (has_any I (m + 1) ci ins _ _ oI.ints (by omega)).mono ?_
            rw [hhi]
            rintro e w' ⟨rfl, rfl⟩
            go_wp2_with fail
            go_roundg (N - (i + 1))
            case measure => rw [HRI.out]; omega
            case rel => exact ⟨i + 1, x, y, rfl, hli, rfl, rfl, by go_num, Lib.hid (by rw [HSK.out]; exact HX.out), rfl⟩
          · have HHI := Lib.hid hhi
            refine (has_any I (m + 1) ci ins _ _ oI.ints (by omega)).mono ?_
            rw [hhi]
            clear hhi
            rintro e w' ⟨rfl, rfl⟩
            go_wp2_with fail
            go_loopg [11, 12, 14] N (fun r xv yv kv wi => ∃ (k : Nat) (x y : Int), r = N - k ∧ k ≤ N ∧ xv = .int .i64 x ∧ yv = .int .i64 y ∧ kv = .int .i64 k ∧ Hid (EdgeAt N (edgeTo ws N ins (i * N + k)) x y) ∧ wo = wi)
            case atStart => exact ⟨0, x, y, rfl, Nat.zero_le _, rfl, rfl, rfl, HX, rfl⟩
            case round =>
              clear HX
              clear x y
              obtain ⟨k, x, y, hr, hk, rfl, rfl, rfl, HX, hw2⟩ := hrel
              have HRK := Lib.hid hr
              clear hr
              subst hw2
              by_cases hlk : k < N
              · have hlk' : (k : Int) < (N : Int) := by omega
                go_wp2_with fail
                refine (has_any I (m + 1) ci ins _ _ oI.ints (by omega)).mono ?_
                cases hhk : hasB ins (k : Int)
                · have HY := Lib.hid (edge_yes (ws := ws) hlk HHI.out hhk)
                  have HF := Lib.hid (edge_far (ws := ws) (N := N) (ins := ins) (i := i) (k := k))
                  clear hhk
                  rintro e w' ⟨rfl, rfl⟩
                  rcases HX.out with ⟨e1, e2, e3⟩ | ⟨i', k', e1, e2, e3, e4, e5⟩
                  · have HV := Lib.hid (HY.out (.inl e1))
                    clear e1
                    subst e2 e3
                    go_wp2_with fail
                    go_roundg (N - (k + 1))
                    case measure => rw [HRK.out]; omega
                    case rel => exact ⟨k + 1, _, _, rfl, hlk, rfl, rfl, by go_num, Lib.hid (by rw [HV.out]; exact .inr ⟨i, k, hli, hlk, rfl, rfl, rfl⟩), rfl⟩
                  · subst e3 e4
                    have hi1 : ¬ (i' : Int) < 0 := by omega
                    rw [e5, Int.toNat_natCast] at HY HF
                    have HE5 := Lib.hid e5
                    clear e5
                    go_wp2_with fail
                    refine (cityWay_any A n c N g1 g2 ws i k _ hbg HN.out hN hli hlk kb1 kb2).mono ?_
                    rintro e w' ⟨rfl, rfl⟩
                    generalize ws.getD (i * N + k) 0 = q2 at *
                    go_wp2_with fail
                    refine (cityWay_any A n c N g1 g2 ws i' k' _ hbg HN.out hN e1 e2 kb1 kb2).mono ?_
                    rintro e w' ⟨rfl, rfl⟩
                    generalize ws.getD (i' * N + k') 0 = q1 at *
                    by_cases hq : q2 < q1
                    · have HV := Lib.hid (HY.out (.inr hq))
                      go_wp2_with fail
                      go_roundg (N - (k + 1))
                      case measure => rw [HRK.out]; omega
                      case rel => exact ⟨k + 1, _, _, rfl, hlk, rfl, rfl, by go_num, Lib.hid (by rw [HV.out]; exact .inr ⟨i, k, hli, hlk, rfl, rfl, rfl⟩), rfl⟩
                    · have HV := Lib.hid (HF.out (by omega) (by omega))
                      go_wp2_with fail
                      go_roundg (N - (k + 1))
                      case measure => rw [HRK.out]; omega
                      case rel => exact ⟨k + 1, _, _, rfl, hlk, rfl, rfl, by go_num, Lib.hid (by rw [HV.out]; exact .inr ⟨i', k', e1, e2, rfl, rfl, rfl⟩), rfl⟩
                · have HV := Lib.hid (edge_in (ws := ws) (i := i) hlk hhk)
                  clear hhk
                  rintro e w' ⟨rfl, rfl⟩
                  go_wp2_with fail
                  go_roundg (N - (k + 1))
                  case measure => rw [HRK.out]; omega
                  case rel => exact ⟨k + 1, _, _, rfl, hlk, rfl, rfl, by go_num, Lib.hid (by rw [HV.out]; exact HX.out), rfl⟩
              · have e : k = N := by omega
                subst e
                go_wp2_with fail
                go_roundg (k - (i + 1))
                case measure => rw [HRI.out]; omega
                case rel => exact ⟨i + 1, x, y, rfl, hli, rfl, rfl, by go_num, Lib.hid (by rw [Nat.succ_mul]; exact HX.out), rfl⟩
        · have e : N = i := by omega
          subst e
          obtain ⟨a0, a1⟩ := HE.out
          rcases HX.out with ⟨e1, e2, e3⟩ | ⟨i', k', e1, e2, e3, e4, e5⟩
          · omega
          · subst e3 e4
            clear a0 a1
            rw [e5, Int.toNat_natCast] at HI1 HE1 HT1
            rw [(edge_div e2).1, (edge_div e2).2] at HE1
            rw [(edge_div e2).2] at HI1
            have HE5 := Lib.hid e5
            clear e5 HX
            have oE' := oE.alloc (.cells #[.int .i64 (i' : Int), .int .i64 (k' : Int)] 2)
            have oI' := oI.alloc (.cells #[.int .i64 (i' : Int), .int .i64 (k' : Int)] 2)
            have hR : IntsAt (wo.alloc (.cells #[.int .i64 (i' : Int), .int .i64 (k' : Int)] 2)) (some ⟨wo.heap.size, 0, none⟩) 2 [(i' : Int), (k' : Int)] := OwnI.ints (World.ownsRow_lit (e := 2) (base := wo.heap.size) (size := 1) wo #[.int .i64 (i' : Int), .int .i64 (k' : Int)] 2 (Nat.le_refl _) (by simp [maxLen]) rfl)
            have hb' := hb.alloc hb.size (.cells #[.int .i64 (i' : Int), .int .i64 (k' : Int)] 2)
            have hsz := hb'.size
            generalize hW1 : wo.alloc (.cells #[.int .i64 (i' : Int), .int .i64 (k' : Int)] 2) = w1 at *
            go_wp2_with (at_builtin; refine wp_append_ints _ rfl _ _ _ rfl 2 w.heap.size Try.underlying22 info64 E (2 * m) ce _ rfl oE' (some ⟨wo.heap.size, 0, none⟩) 2 2 [(i' : Int), (k' : Int)] rfl hR (by omega) hsz ?_; intro A2 c2 w2 oE2 uE bE hAE)
            have oI2 := OwnI.sep oI' uE hs.symm
            have hs2 : Sep A2 I := by
              intro x y hx hy
              have h1 := (oI'.lt hy).2
              rcases hAE x hx with ⟨z, hz1, hz2⟩ | h2
              · have := hs z y hz1 hy; omega
              · omega
            have hb2 := hb'.trans bE
            rw [← HE1.out] at oE2
            clear oE' oI' hR uE bE hAE
            have kc1 := HB1.out.ext hb2
            have kc2 := HB2.out.ext hb2
            have hcg := h.below hb2
            have HWV := Lib.hid (HWB.out (i' * N + k') (idx_lt e1 e2))
            refine (cityWay_any A n c N g1 g2 ws i' k' _ hcg HN.out hN e1 e2 kc1 kc2).mono ?_
            rintro e w' ⟨rfl, rfl⟩
            clear kc1 kc2 hcg kb1 kb2 hbg
            have hv := HWV.out
            generalize ws.getD (i' * N + k') 0 = q at *
            have oI3 := oI2.alloc (.cells #[.int .i64 (k' : Int)] 2)
            have hsz2 := hb2.size
            have hszq : w.heap.size ≤ (w2.alloc (.cells #[.int .i64 (k' : Int)] 2)).heap.size := (hb2.alloc hsz2 _).size
            go_wp2_with (at_builtin; refine wp_append_int _ _ rfl _ _ _ rfl 2 w.heap.size Try.underlying22 info64 I (m + 1) ci _ rfl oI2 rfl (by omega) hsz2 ?_; intro g4 c4 w4 o4 u4 b4 hg4)
            go_roundg (N - (m + 1 + 1))
            case measure => rw [HR.out]; omega
            case rel =>
              refine ⟨m + 1, _, _, A2, c2, rfl, by omega, rfl, rfl, by rw [HT1.out], by rw [HI1.out]; exact o4, OwnI.sep oE2 u4 hs2, ?_, hb2.trans b4⟩
              intro x y hx hy
              injection hy with hy
              subst hy
              have h1 := (oE2.lt hx).2
              rcases hg4 with ⟨z, hz1, hz2⟩ | h2
              · have := hs2 x z hx hz1; show x.block ≠ g4; omega
              · show x.block ≠ g4; omega
    · have e : N - 1 = m := by omega
      have hge : ¬ ((m : Int) + 1) < (N : Int) := by omega
      have HEQ := Lib.hid e
      clear e
      go_wp2_with fail
      refine (size_any _ _).mono ?_
      rintro e w' ⟨rfl, rfl⟩
      go_wp2_with fail
      go_ret2
      rw [HEQ.out]
      exact ⟨_, _, rfl, oE, hb⟩
end Go.Proofs.Ythhkgeeomhhegaa
