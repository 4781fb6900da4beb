/- CutOf: the contracts. -/
import Derived.Test.YtpaahjeohigngaaZReachS
import Derived.Test.YtpaahjeohigngaaZFlow3
namespace Go.Proofs.Ytpaahjeohigngaa
open Go.RowKit

theorem ret_LBc {A : Option Addr} {n c : Nat} {a b : Bool} (h : a = b) : Ending.returned (.tuple #[.slice A n c, .bool a]) = .returned (.tuple #[.slice A n c, .bool b]) := by rw [h]
/-- the first k nodes that are reached -/
def cutLTo (by_ : List Int) (k : Nat) : List Int := ((List.range k).filter fun v => by_.getD v 0 != -2).map fun (v : Nat) => (v : Int)
theorem cutLTo_succ (by_ : List Int) (k : Nat) : cutLTo by_ (k + 1) = if (by_.getD k 0 != -2) = true then cutLTo by_ k ++ [(k : Int)] else cutLTo by_ k := by
  unfold cutLTo
  rw [List.range_succ, List.filter_append, List.map_append]
  simp only [List.filter_cons, List.filter_nil]
  cases h : (by_.getD k 0 != -2)
  · rw [if_neg (by decide), if_neg (by decide)]; simp
  · rw [if_pos rfl, if_pos rfl]; rfl
theorem cutLTo_len (by_ : List Int) (k : Nat) : (cutLTo by_ k).length ≤ k := by
  unfold cutLTo
  rw [List.length_map]
  exact Nat.le_trans (List.length_filter_le _ _) (by simp)

def cutLV (nodes : Int) (xs : List ArcR) (fl : List Int) (f : Int) : List Int := if flowAB nodes xs fl f = true then cutLTo (reachL (linksTo xs fl xs.length) nodes.toNat f.toNat) nodes.toNat else []
theorem cutLV_no {nodes : Int} {xs : List ArcR} {fl : List Int} {f : Int} (h : flowAB nodes xs fl f = false) : cutLV nodes xs fl f = [] := by unfold cutLV; rw [if_neg (by rw [h]; decide)]
theorem cutLV_yes {nodes : Int} {xs : List ArcR} {fl : List Int} {f : Int} (h : flowAB nodes xs fl f = true) : cutLV nodes xs fl f = cutLTo (reachL (linksTo xs fl xs.length) nodes.toNat f.toNat) nodes.toNat := by unfold cutLV; rw [if_pos h]
theorem cutLV_len (nodes : Int) (xs : List ArcR) (fl : List Int) (f : Int) : (cutLV nodes xs fl f).length ≤ 1048576 := by
  cases h : flowAB nodes xs fl f
  · rw [cutLV_no h]; simp
  · rw [cutLV_yes h]
    have := cutLTo_len (reachL (linksTo xs fl xs.length) nodes.toNat f.toNat) nodes.toNat
    unfold flowAB at h
    rw [Bool.and_eq_true] at h
    obtain ⟨h1, _⟩ := h
    obtain ⟨_, b, _⟩ := valid_bd (flow_bd h1).1
    omega
theorem flow_all_bd {nodes : Int} {xs : List ArcR} {fl : List Int} {n : Nat} (hl : xs.length = n) (h : flowB nodes xs fl = true) : n ≤ 48 ∧ fl.length = n ∧ ∀ k, k < n → (0 ≤ fl.getD k 0 ∧ fl.getD k 0 ≤ 1000000) ∧ (0 ≤ (xs.getD k default).room ∧ (xs.getD k default).room ≤ 1000000) ∧ (-1000 ≤ (xs.getD k default).cost ∧ (xs.getD k default).cost ≤ 1000) := by
  subst hl
  obtain ⟨h1, h2, h3⟩ := flow_bd h
  obtain ⟨_, _, h4, h5⟩ := valid_bd h1
  exact ⟨h4, h2, fun k hk => ⟨⟨(h3 k hk).1, (h3 k hk).2.2⟩, (h5 k hk).2.2.2.1, (h5 k hk).2.2.2.2⟩⟩


set_option maxRecDepth 100000 in
set_option maxHeartbeats 1600000 in
theorem l03Cut_any (g N : Nat) (A : Option Addr) (n c : Nat) (xs : List ArcR) (B : Option Addr) (d : Nat) (fl : List Int) (F : Nat) (w : World) (hb : Blk w g 26 #[.int .i64 N, .slice A n c]) (h : ArcsAt w A n xs) (hn : n ≤ 48) (hy : IntsAt w B n fl) (hN1 : 1 ≤ N) (hN : N ≤ 16) (hF : F < N) (hls : LinksOk (linksTo xs fl n) N)
    (hf : ∀ k, k < n → (0 ≤ fl.getD k 0 ∧ fl.getD k 0 ≤ 1000000) ∧ (0 ≤ (xs.getD k default).room ∧ (xs.getD k default).room ≤ 1000000) ∧ (-1000 ≤ (xs.getD k default).cost ∧ (xs.getD k default).cost ≤ 1000)) :
    Calls Try.prog 49 #[.pointer (some ⟨g, 0, none⟩), .slice B n d, .int .i64 F] w (RetI 2 (cutLTo (reachL (linksTo xs fl n) N F) N) w) := by
  have HF := Lib.hid hf
  have hlen := linksTo_len xs fl n
  clear hf
  go_enter Try.func49, Try.ntmps49
  go_wp2_with fail
  refine (l03Lefts_any g N A n c xs B d fl _ hb h hn hy HF.out).mono ?_
  rintro e w1 ⟨L, m, q, rfl, hm, ol, b1⟩
  have HM := Lib.hid hm
  rw [← hm] at hlen
  clear hm
  go_wp2_with fail
  refine (l03Reach_any g N _ L m q (linksTo xs fl n) F _ _ (hb.ext b1) hN1 hN hF hls HM.out.symm (by omega) ol).mono ?_
  rintro e w2 ⟨gB, cB, rfl, ob, b2⟩
  have hbb := ext_trans b1 b2
  have he : OwnI 2 w.heap.size (w2.alloc (.cells #[] 2)) (some ⟨w2.heap.size, 0, none⟩) 0 0 (cutLTo (reachL (linksTo xs fl n) N F) 0) := World.ownsRow_lit (e := 2) (base := w.heap.size) (size := 1) w2 #[] 0 hbb.size (Nat.zero_le _) rfl
  have hW := hbb.alloc hbb.size (.cells #[] 2)
  have ob2 := OwnI.alloc ob (.cells #[] 2)
  have HBL := Lib.hid (OwnI.len ob)
  have hgBl : gB < w2.heap.size := (OwnI.lt ob rfl).2
  clear ob hls hlen ol b1 b2 hbb
  generalize reachL (linksTo xs fl n) N F = by_ at *
  go_wp2_with fail
  generalize w2.alloc (.cells #[] 2) = W at *
  go_loopg [8, 19] N (fun r ov iv wr => ∃ (k : Nat) (A : Option Addr) (n c : Nat), r = N - k ∧ k ≤ N ∧ iv = .int .i64 k ∧ ov = .slice A n c ∧ n ≤ k ∧ OwnI 2 w.heap.size wr A n c (cutLTo by_ k) ∧ Below w.heap.size w wr ∧ OwnI 3 w1.heap.size wr (some ⟨gB, 0, none⟩) N cB by_ ∧ (∀ ad, A = some ad → ad.block ≠ gB))
  case atStart => exact ⟨0, _, 0, 0, rfl, by omega, rfl, rfl, by omega, he, hW, ob2, fun ad ha => by
    injection ha with ha
    subst ha
    have h7 : gB < W.heap.size := (OwnI.lt ob2 rfl).2
    intro e
    have h8 : gB < w2.heap.size := by assumption
    have e' : w2.heap.size = gB := e
    omega⟩
  case round =>
    clear he hW ob2
    obtain ⟨k, A, n, c, hr, hk, rfl, rfl, hn, o, hb2, ob, hA⟩ := hrel
    have HR := Lib.hid hr
    clear hr
    by_cases hlt : k < N
    · have hc := OwnI.cell ob hlt
      have HS := Lib.hid (cutLTo_succ by_ k)
      have hsz := hb2.size
      by_cases hbv : by_.getD k 0 = -2
      · rw [hbv] at hc
        have HE := Lib.hid (show cutLTo by_ (k + 1) = cutLTo by_ k by rw [HS.out, hbv]; rfl)
        clear hbv
        go_wp2
        go_roundg (N - (k + 1))
        case measure => rw [HR.out]; omega
        case rel => exact ⟨k + 1, A, n, c, rfl, by omega, by go_num, rfl, by omega, by rw [HE.out]; exact o, hb2, ob, hA⟩
      · have HE := Lib.hid (show cutLTo by_ (k + 1) = cutLTo by_ k ++ [(k : Int)] by rw [HS.out, if_pos (bne_iff_ne.2 hbv)])
        have hbb : (by_.getD k 0 != -2) = true := bne_iff_ne.2 hbv
        generalize by_.getD k 0 = bv at *
        clear hbv
        go_wp2_with (at_builtin; refine wp_append_int _ _ rfl _ _ _ rfl 2 w.heap.size Try.underlying29 info64 A n c _ rfl o rfl (by omega) hsz ?_; intro g5 c5 w6 o6 u6 b6 hg6)
        have hS1 : Sep (some (⟨gB, 0, none⟩ : Addr)) A := fun a b ha hb e => by injection ha with ha; subst ha; exact hA b hb e.symm
        have hnew : ∀ ad, some (⟨g5, 0, none⟩ : Addr) = some ad → ad.block ≠ gB := by
          intro ad ha
          injection ha with ha
          subst ha
          rcases hg6 with ⟨x, e1, e2⟩ | h6
          · have := hA x e1; rw [e2] at this; exact this
          · have h7 : gB < wr.heap.size := (OwnI.lt ob rfl).2
            show g5 ≠ gB
            omega
        go_roundg (N - (k + 1))
        case measure => rw [HR.out]; omega
        case rel => exact ⟨k + 1, _, n + 1, c5, rfl, by omega, by go_num, rfl, by omega, by rw [HE.out]; exact o6, hb2.trans b6, OwnI.sep ob u6 hS1, hnew⟩
    · have e : k = N := by omega
      subst e
      go_wp2
      go_ret
      exact ⟨A, n, c, rfl, o, hb2⟩

end Go.Proofs.Ytpaahjeohigngaa
