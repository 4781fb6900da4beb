/- CutOf: the contracts. -/
import Derived.Test.YtjbmcdnnnkfhgaaReachS
import Derived.Test.YtjbmcdnnnkfhgaaFlow3
namespace Go.Proofs.Ytjbmcdnnnkfhgaa
open Go.RowKit

theorem ret_LBc {A : Option Addr} {n c : Nat} {a b : Bool} (h : a = b) : Ending.returned (.tuple #[.slice A n c, .bool a]) = .returned (.tuple #[.slice A n c, .bool b]) := by rw [h]
/-- the first k nodes that are reached -/
def cutLTo (by_ : List Int) (k : Nat) : List Int := ((List.range k).filter fun v => by_.getD v 0 != -2).map fun (v : Nat) => (v : Int)
theorem cutLTo_succ (by_ : List Int) (k : Nat) : cutLTo by_ (k + 1) = if (by_.getD k 0 != -2) = true then cutLTo by_ k ++ [(k : Int)] else cutLTo by_ k := by
  unfold cutLTo
  rw [List.range_succ, List.filter_append, List.map_append]
  simp only [List.filter_cons, List.filter_nil]
  cases h : (by_.getD k 0 != -2)
  · rw [if_neg (by decide), if_neg (by decide)]; simp
  · rw [if_pos rfl, if_pos rfl]; rfl
theorem cutLTo_len (by_ : List Int) (k : Nat) : (cutLTo by_ k).length ≤ k := by
  unfold cutLTo
  rw [List.length_map]
  exact Nat.le_trans (List.length_filter_le _ _) (by simp)

def cutLV (nodes : Int) (xs : List ArcR) (fl : List Int) (f : Int) : List Int := if flowAB nodes xs fl f = true then cutLTo (reachL (linksTo xs fl xs.length) nodes.toNat f.toNat) nodes.toNat else []
theorem cutLV_no {nodes : Int} {xs : List ArcR} {fl : List Int} {f : Int} (h : flowAB nodes xs fl f = false) : cutLV nodes xs fl f = [] := by unfold cutLV; rw [if_neg (by rw [h]; decide)]
theorem cutLV_yes {nodes : Int} {xs : List ArcR} {fl : List Int} {f : Int} (h : flowAB nodes xs fl f = true) : cutLV nodes xs fl f = cutLTo (reachL (linksTo xs fl xs.length) nodes.toNat f.toNat) nodes.toNat := by unfold cutLV; rw [if_pos h]
theorem cutLV_len (nodes : Int) (xs : List ArcR) (fl : List Int) (f : Int) : (cutLV nodes xs fl f).length ≤ 1048576 := by
  cases h : flowAB nodes xs fl f
  · rw [cutLV_no h]; simp
  · rw [cutLV_yes h]
    have := cutLTo_len (reachL (linksTo xs fl xs.length) nodes.toNat f.toNat) nodes.toNat
    unfold flowAB at h
    rw [Bool.and_eq_true] at h
    obtain ⟨h1, _⟩ := h
    obtain ⟨_, b, _⟩ := valid_bd (flow_bd h1).1
    omega
theorem flow_all_bd {nodes : Int} {xs : List ArcR} {fl : List Int} {n : Nat} (hl : xs.length = n) (h : flowB nodes xs fl = true) : n ≤ 48 ∧ fl.length = n ∧ ∀ k, k < n → (0 ≤ fl.getD k 0 ∧ fl.getD k 0 ≤ 1000000) ∧ (0 ≤ (xs.getD k default).room ∧ (xs.getD k default).room ≤ 1000000) ∧ (-1000 ≤ (xs.getD k default).cost ∧ (xs.getD k default).cost ≤ 1000) := by
  subst hl
  obtain ⟨h1, h2, h3⟩ := flow_bd h
  obtain ⟨_, _, h4, h5⟩ := valid_bd h1
  exact ⟨h4, h2, fun k hk => ⟨⟨(h3 k hk).1, (h3 k hk).2.2⟩, (h5 k hk).2.2.2.1, (h5 k hk).2.2.2.2⟩⟩

set_option maxRecDepth 100000 in
theorem setOf_any (base g N : Nat) (by_ : List Int) (w : World) (hN : N ≤ 1000) (hl : by_.length = N) (hown : OwnC 4 base 1 w (some ⟨g, 0, none⟩) N N (by_.map reachV)) :
    Calls Try.prog 36 #[.slice (some ⟨g, 0, none⟩) N N] w (RetI 2 (cutLTo by_ N) w) := by
  have HL := Lib.hid hl
  clear hl
  go_enter Try.func36, Try.ntmps36
  go_wp2
  go_loopg [3, 8] N (fun r ov iv wr => ∃ (k : Nat) (A : Option Addr) (n c : Nat), r = N - k ∧ k ≤ N ∧ iv = .int .i64 k ∧ ov = .slice A n c ∧ n ≤ k ∧ OwnI 2 w.heap.size wr A n c (cutLTo by_ k) ∧ Below w.heap.size w wr)
  case atStart => exact ⟨0, none, 0, 0, rfl, by omega, rfl, rfl, by omega, OwnI.nil_ _ _ _, Below.refl _ _⟩
  case round =>
    obtain ⟨k, A, n, c, hr, hk, rfl, rfl, hn, o, hb⟩ := hrel
    have HR := Lib.hid hr
    clear hr
    by_cases hlt : k < N
    · have hc := OwnC.cell (OwnC.below hown hb) (j := k) (by omega)
      rw [reachV_get HL.out hlt] at hc
      have HS := Lib.hid (cutLTo_succ by_ k)
      have hsz := hb.size
      cases hbv : (by_.getD k 0 != -2)
      · rw [hbv] at hc
        have HE := Lib.hid (show cutLTo by_ (k + 1) = cutLTo by_ k by rw [HS.out, hbv]; rfl)
        clear hbv
        go_wp2
        go_roundg (N - (k + 1))
        case measure => rw [HR.out]; omega
        case rel => exact ⟨k + 1, A, n, c, rfl, by omega, by go_num, rfl, by omega, by rw [HE.out]; exact o, hb⟩
      · rw [hbv] at hc
        have HE := Lib.hid (show cutLTo by_ (k + 1) = cutLTo by_ k ++ [(k : Int)] by rw [HS.out, hbv]; rfl)
        clear hbv
        go_wp2_with (at_builtin; refine wp_append_int _ _ rfl _ _ _ rfl 2 w.heap.size Try.underlying22 info64 A n c _ rfl o rfl (by omega) hsz ?_; intro g5 c5 w6 o6 u6 b6 hg6)
        go_roundg (N - (k + 1))
        case measure => rw [HR.out]; omega
        case rel => exact ⟨k + 1, _, n + 1, c5, rfl, by omega, by go_num, rfl, by omega, by rw [HE.out]; exact o6, hb.trans b6⟩
    · have e : k = N := by omega
      subst e
      go_wp2
      go_ret
      exact ⟨A, n, c, rfl, o, hb⟩


end Go.Proofs.Ytjbmcdnnnkfhgaa
