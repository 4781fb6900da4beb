/- Costs and pairs that are drawn. -/
import Derived.Test.YtfoelpmglmaamaaAsk
import Derived.Test.YtfoelpmglmaamaaSides
namespace Go.Proofs.Ytfoelpmglmaamaa
open Go.RowKit

def DrawnC (T m : Nat) (w : World) (e : Ending) (w' : World) : Prop :=
  ∃ (S : Option Addr) (c : Nat) (zs : List Int), e = .returned (.slice S m c) ∧ OwnI T w.heap.size w' S m c zs ∧ (∀ x ∈ zs, -5 ≤ x ∧ x ≤ 14) ∧ Below w.heap.size w w'
set_option maxRecDepth 100000 in
set_option maxHeartbeats 1600000 in
theorem costs_any (A : Option Addr) (n c s : Nat) (w : World) (h : BytesAt w A n) (hl : n ≤ maxLen) (hs16 : s ≤ 16) :
    Calls Try.prog 9 #[.slice A n c, .int .i64 (s : Int)] w (DrawnC 2 (s * s) w) := by
  have hin := h.in_
  have hss : s * s ≤ 16 * 16 := Nat.mul_le_mul hs16 hs16
  have HMM := Lib.hid (show (s : Int) * (s : Int) = ((s * s : Nat) : Int) from (Int.natCast_mul s s).symm)
  have hw1 : 0 ≤ (s : Int) * (s : Int) := by rw [HMM.out]; omega
  have hw2 : (s : Int) * (s : Int) ≤ 256 := by rw [HMM.out]; omega
  go_enter Try.func9, Try.ntmps9
  go_wp2_with (go_at_call 22; refine (from_any _ _ _ _ h).mono ?_; rintro e w1 ⟨rfl, hs1, hf, hb1, hz1⟩)
  rw [HMM.out]
  clear hw1 hw2
  generalize hm : s * s = m at *
  have HM := Lib.hid hm
  clear hm
  have he := World.ownsRow_lit (e := 2) (base := w.heap.size + 1) (size := 1) w1 #[] 0 (by omega) (Nat.zero_le _) rfl
  replace he : OwnI 2 (w.heap.size + 1) (w1.alloc (.cells #[] 2)) (some ⟨w1.heap.size, 0, none⟩) 0 0 [] := he
  have hs2 := hs1.alloc (.cells #[] 2)
  have hb2 := hb1.alloc (by omega) (.cells #[] 2)
  replace h := h.below hb2
  have hz2 : w.heap.size + 1 ≤ (w1.alloc (.cells #[] 2)).heap.size := by simp; omega
  rw [hz1] at he
  generalize w1.alloc (.cells #[] 2) = w2 at *
  clear hs1 hb1 hz1
  generalize hG : w.heap.size = g at *
  have HG := Lib.hid hG
  clear hG
  go_loopg [7, 6] m (fun r iv ov wr => ∃ (j k : Nat) (s : Int) (S : Option Addr) (sc : Nat) (out : List Int), r = m - j ∧ j ≤ m ∧ k ≤ 2 * j ∧ iv = .int .i64 ((m - j : Nat) : Int) ∧ ov = .slice S j sc ∧ OwnI 2 (g + 1) wr S j sc out ∧ (∀ x ∈ out, -5 ≤ x ∧ x ≤ 14) ∧ Below g w wr ∧ g + 1 ≤ wr.heap.size ∧ SrcAt wr g A n c k s ∧ BytesAt wr A n)
  case atStart => exact ⟨0, 0, 0, _, 0, [], by omega, by omega, by omega, by go_num, rfl, he, (fun x hx => nomatch hx), hb2, hz2, hs2, h⟩
  case round =>
    clear h he hs2 hb2 hz2
    obtain ⟨j, k, s, S, sc, out, hr, hj, hk, rfl, rfl, hown, hall, hb, hz, hs, h⟩ := hrel
    have HR := Lib.hid hr
    clear hr
    by_cases hlt : j < m
    · have hp : (0 : Int) < ((m - j : Nat) : Int) := by omega
      have HN := Lib.hid (show ((m - j : Nat) : Int) - 1 = ((m - (j + 1) : Nat) : Int) by omega)
      have hb9 : ((m - j : Nat) : Int) ≤ 100001 := by omega
      generalize ((m - j : Nat) : Int) = rest at *
      go_wp2_with fail
      refine (pick_any A n c g k s 20 _ h hl hs hin.far (by omega) (by omega)).mono ?_
      rintro e w3 ⟨x, k3, s3, rfl, hx, hk3, hs3, hu3⟩
      replace hown := hown.upd hu3 fun ad h1 => blk_not (by have := (hown.lt h1).1; omega)
      replace h := h.upd hu3 hin.far.no
      have hz3 := hu3.size
      replace hb := hb.trans (hu3.belowG (by omega))
      have hz4 : g + 1 ≤ w3.heap.size := by omega
      clear hz3
      go_wp2_with (at_builtin; refine wp_append_int _ _ rfl _ _ _ rfl 2 (g + 1) Try.underlying25 info64 S j sc _ rfl hown rfl (by omega) hz4 ?_; intro g4 c4 w4 o4 u4 b4 hg4)
      go_roundg (m - (j + 1))
      case measure => rw [HR.out]; omega
      case rel =>
        refine ⟨j + 1, k3, s3, _, _, _, rfl, by omega, by omega, by rw [HN.out], rfl, o4, ?_, hb.trans (b4.mono (by omega)), Nat.le_trans hz4 b4.size, hs3.below b4 (by omega), h.belowB b4 (hin.le (by omega))⟩
        intro y hy
        rw [List.mem_append, List.mem_singleton] at hy
        rcases hy with hy | rfl
        · exact hall y hy
        · omega
    · obtain rfl : m = j := by omega
      go_wp2
      go_ret
      exact ⟨S, sc, out, rfl, by rw [HG.out]; exact hown.low (by omega), hall, by rw [HG.out]; exact hb⟩

/-- pairs that are drawn -/
def DrawnPairs (T l r : Nat) (w : World) (e : Ending) (w' : World) : Prop :=
  ∃ (S : Option Addr) (m c : Nat) (zs : List Int), e = .returned (.slice S (2 * m) c) ∧ OwnI T w.heap.size w' S (2 * m) c zs ∧ m ≤ 13 ∧ PairsOk zs m l r ∧ Below w.heap.size w w'
theorem pairs_snoc {zs : List Int} {m l r x y : Nat} (hl : zs.length = 2 * m) (h : PairsOk zs m l r) (hx : x < l) (hy : y < r) : PairsOk (zs ++ [(x : Int)] ++ [(y : Int)]) (m + 1) l r := by
  intro j hj
  by_cases e : j = m
  · subst e
    have e1 : (zs ++ [(x : Int)] ++ [(y : Int)]).getD (2 * j) 0 = x := by
      rw [List.append_assoc]
      simp only [List.getD]
      rw [List.getElem?_append_right (by omega), hl, Nat.sub_self]; rfl
    have e2 : (zs ++ [(x : Int)] ++ [(y : Int)]).getD (2 * j + 1) 0 = y := by
      rw [List.append_assoc]
      simp only [List.getD]
      rw [List.getElem?_append_right (by omega), hl, show 2 * j + 1 - 2 * j = 1 by omega]; rfl
    rw [e1, e2]; omega
  · have h1 := h j (by omega)
    have e1 : (zs ++ [(x : Int)] ++ [(y : Int)]).getD (2 * j) 0 = zs.getD (2 * j) 0 := by
      rw [List.append_assoc]
      simp only [List.getD]
      rw [List.getElem?_append_left (by omega)]
    have e2 : (zs ++ [(x : Int)] ++ [(y : Int)]).getD (2 * j + 1) 0 = zs.getD (2 * j + 1) 0 := by
      rw [List.append_assoc]
      simp only [List.getD]
      rw [List.getElem?_append_left (by omega)]
    rw [e1, e2]; exact h1
set_option maxRecDepth 100000 in
set_option maxHeartbeats 1600000 in
theorem pairs_any (A : Option Addr) (n c l r : Nat) (w : World) (h : BytesAt w A n) (hl : n ≤ maxLen) (hl1 : 1 ≤ l) (hl16 : l ≤ 16) (hr1 : 1 ≤ r) (hr16 : r ≤ 16) :
    Calls Try.prog 11 #[.slice A n c, .int .i64 (l : Int), .int .i64 (r : Int)] w (DrawnPairs 2 l r w) := by
  have hin := h.in_
  go_enter Try.func11, Try.ntmps11
  go_wp2_with fail
  refine (from_any _ _ _ _ h).mono ?_
  rintro e w1 ⟨rfl, hs1, hf, hb1, hz1⟩
  have he := World.ownsRow_lit (e := 2) (base := w.heap.size + 1) (size := 1) w1 #[] 0 (by omega) (Nat.zero_le _) rfl
  replace he : OwnI 2 (w.heap.size + 1) (w1.alloc (.cells #[] 2)) (some ⟨w1.heap.size, 0, none⟩) 0 0 [] := he
  have hs2 := hs1.alloc (.cells #[] 2)
  have hb2 := hb1.alloc (by omega) (.cells #[] 2)
  replace h := h.below hb2
  have hz2 : w.heap.size + 1 ≤ (w1.alloc (.cells #[] 2)).heap.size := by simp; omega
  rw [hz1] at he
  go_wp2_with fail
  generalize w1.alloc (.cells #[] 2) = w2 at *
  clear hs1 hb1 hz1
  generalize hG : w.heap.size = g at *
  have HG := Lib.hid hG
  clear hG
  refine (pick_any A n c g 0 0 14 _ h hl hs2 hin.far (by omega) (by omega)).mono ?_
  rintro e w0 ⟨m, k0, s0, rfl, hm, hk0, hs0, hu0⟩
  replace he := OwnI.upd he hu0 fun ad h1 => blk_not (by have := (OwnI.lt he h1).1; omega)
  replace h := h.upd hu0 hin.far.no
  have hz3 := hu0.size
  replace hb2 := hb2.trans (hu0.belowG (by omega))
  replace hz2 : g + 1 ≤ w0.heap.size := by omega
  have hm13 : m ≤ 13 := by omega
  clear hz3 hm hs2 hu0
  go_wp2_with fail
  go_loopg [9, 8] m (fun rr iv ov wr => ∃ (j k : Nat) (s : Int) (S : Option Addr) (sc : Nat) (out : List Int), rr = m - j ∧ j ≤ m ∧ k ≤ 2 + 4 * j ∧ iv = .int .i64 ((m - j : Nat) : Int) ∧ ov = .slice S (2 * j) sc ∧ OwnI 2 (g + 1) wr S (2 * j) sc out ∧ Hid (PairsOk out j l r) ∧ Below g w wr ∧ g + 1 ≤ wr.heap.size ∧ SrcAt wr g A n c k s ∧ BytesAt wr A n)
  case atStart => exact ⟨0, k0, s0, _, 0, [], by omega, by omega, by omega, by go_num, rfl, he, Lib.hid (fun j hj => by omega), hb2, hz2, hs0, h⟩
  case round =>
    clear h he hs0 hb2 hz2
    obtain ⟨j, k, s, S, sc, out, hr, hj, hk, rfl, rfl, hown, HP, hb, hz, hs, h⟩ := hrel
    have HR := Lib.hid hr
    clear hr
    by_cases hlt : j < m
    · have hp : (0 : Int) < ((m - j : Nat) : Int) := by omega
      have HN := Lib.hid (show ((m - j : Nat) : Int) - 1 = ((m - (j + 1) : Nat) : Int) by omega)
      have hb9 : ((m - j : Nat) : Int) ≤ 100001 := by omega
      generalize ((m - j : Nat) : Int) = rest at *
      have HOL := Lib.hid hown.len
      go_wp2_with fail
      refine (pick_any A n c g k s _ _ h hl hs hin.far (by omega) (by omega)).mono ?_
      rintro e w3 ⟨x, k3, s3, rfl, hx, hk3, hs3, hu3⟩
      replace hown := hown.upd hu3 fun ad h1 => blk_not (by have := (hown.lt h1).1; omega)
      replace h := h.upd hu3 hin.far.no
      have hz3 := hu3.size
      replace hb := hb.trans (hu3.belowG (by omega))
      have hz4 : g + 1 ≤ w3.heap.size := by omega
      clear hz3
      go_wp2_with (at_builtin; refine wp_append_int _ _ rfl _ _ _ rfl 2 (g + 1) Try.underlying25 info64 S (2 * j) sc _ rfl hown rfl (by omega) hz4 ?_; intro g4 c4 w4 o4 u4 b4 hg4)
      replace hb := hb.trans (b4.mono (by omega))
      have hz5 := Nat.le_trans hz4 b4.size
      replace hs3 := hs3.below b4 (by omega)
      replace h := h.belowB b4 (hin.le (by omega))
      clear u4 b4 hg4 hown
      refine (pick_any A n c g k3 s3 _ _ h hl hs3 hin.far (by omega) (by omega)).mono ?_
      rintro e w5 ⟨y, k5, s5, rfl, hy, hk5, hs5, hu5⟩
      replace o4 := OwnI.upd o4 hu5 fun ad h1 => blk_not (by have := (OwnI.lt o4 h1).1; omega)
      replace h := h.upd hu5 hin.far.no
      have hz6 := hu5.size
      replace hb := hb.trans (hu5.belowG (by omega))
      have hz7 : g + 1 ≤ w5.heap.size := by omega
      clear hz6
      go_wp2_with (at_builtin; refine wp_append_int _ _ rfl _ _ _ rfl 2 (g + 1) Try.underlying25 info64 (some ⟨g4, 0, none⟩) (2 * j + 1) c4 _ rfl o4 rfl (by omega) hz7 ?_; intro g6 c6 w6 o6 u6 b6 hg6)
      go_roundg (m - (j + 1))
      case measure => rw [HR.out]; omega
      case rel => exact ⟨j + 1, k5, s5, _, _, _, rfl, by omega, by omega, by rw [HN.out], rfl, o6, Lib.hid (pairs_snoc HOL.out HP.out (by omega) (by omega)), hb.trans (b6.mono (by omega)), Nat.le_trans hz7 b6.size, hs5.below b6 (by omega), h.belowB b6 (hin.le (by omega))⟩
    · obtain rfl : m = j := by omega
      go_wp2
      go_ret
      exact ⟨S, m, sc, out, rfl, by rw [HG.out]; exact hown.low (by omega), hm13, HP.out, by rw [HG.out]; exact hb⟩
end Go.Proofs.Ytfoelpmglmaamaa
