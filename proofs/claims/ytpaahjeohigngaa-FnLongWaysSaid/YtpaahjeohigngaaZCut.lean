/- Rooms of cuts. -/
import Derived.Test.YtpaahjeohigngaaJ2
namespace Go.Proofs.Ytpaahjeohigngaa
open Go.RowKit

def risesTo (zs : List Int) (k : Nat) : Bool := (List.range k).all fun i => decide (i = 0) || decide (zs.getD (i - 1) 0 < zs.getD i 0)
theorem risesTo_succ (zs : List Int) (k : Nat) : risesTo zs (k + 1) = (risesTo zs k && (decide (k = 0) || decide (zs.getD (k - 1) 0 < zs.getD k 0))) := by
  unfold risesTo
  rw [List.range_succ, List.all_append]; simp
theorem risesTo_stop {zs : List Int} {k : Nat} (h1 : ¬ k = 0) (h : ¬ zs.getD (k - 1) 0 < zs.getD k 0) : ∀ d, risesTo zs (k + 1 + d) = false
  | 0 => by rw [Nat.add_zero, risesTo_succ, decide_eq_false h1, decide_eq_false h, Bool.or_self, Bool.and_false]
  | d + 1 => by rw [← Nat.add_assoc, risesTo_succ, risesTo_stop h1 h d, Bool.false_and]
/-- a list is a set of nodes -/
def nodesB (nodes : Int) (zs : List Int) : Bool := zs.all (fun x => inB x 0 (nodes - 1)) && risesTo zs zs.length
def cutRB (nodes : Int) (xs : List ArcR) (zs : List Int) : Bool := validB nodes xs && nodesB nodes zs
def cutTo (xs : List ArcR) (zs : List Int) (k : Nat) : Int := (List.range k).foldl (fun s i => s + if hasB zs (xs.getD i default).fr && !hasB zs (xs.getD i default).to_ then (xs.getD i default).room else 0) 0
theorem cutTo_succ (xs : List ArcR) (zs : List Int) (k : Nat) : cutTo xs zs (k + 1) = cutTo xs zs k + if hasB zs (xs.getD k default).fr && !hasB zs (xs.getD k default).to_ then (xs.getD k default).room else 0 := by
  unfold cutTo
  rw [List.range_succ, List.foldl_append]; rfl
def cutRV (nodes : Int) (xs : List ArcR) (zs : List Int) : Int := if cutRB nodes xs zs = true then cutTo xs zs xs.length else 0
theorem cutRV_no {nodes : Int} {xs : List ArcR} {zs : List Int} (h : cutRB nodes xs zs = false) : cutRV nodes xs zs = 0 := by unfold cutRV; rw [if_neg (by rw [h]; decide)]
theorem cutRV_yes {nodes : Int} {xs : List ArcR} {zs : List Int} (h : cutRB nodes xs zs = true) : cutRV nodes xs zs = cutTo xs zs xs.length := by unfold cutRV; rw [if_pos h]

theorem allI_stop {p : Int → Bool} {zs : List Int} {n k : Nat} {x : Int} (hl : zs.length = n) (hk : k < n) (hx : zs.getD k 0 = x) (hp : p x = false) : zs.all p = false :=
  all_false_of p zs k 0 (by omega) (by rw [hx, hp])
theorem allI_step {p : Int → Bool} {zs : List Int} {n k : Nat} {x : Int} (hl : zs.length = n) (hk : k < n) (hx : zs.getD k 0 = x) (hall : (zs.take k).all p = true) (hp : p x = true) : (zs.take (k+1)).all p = true := by
  rw [all_take_succ p zs k 0 (by omega), hall, hx, hp]; rfl
theorem allI_done {p : Int → Bool} {zs : List Int} {n k : Nat} (hl : zs.length = n) (hk : ¬ k < n) (hall : (zs.take k).all p = true) : zs.all p = true := by
  rwa [List.take_of_length_le (by omega)] at hall

theorem l00Has_any (A : Option Addr) (n c : Nat) (zs : List Int) (x : Int) (w : World) (h : IntsAt w A n zs) (hl : n ≤ 1048576) :
    Calls Try.prog 50 #[.slice A n c, .int .i64 x] w fun e w' => e = .returned (.bool (hasB zs x)) ∧ w = w' := by
  have HL := Lib.hid h.len
  go_enter Try.func50, Try.ntmps50
  go_wp2
  go_loop [5] (fun i => ∃ k : Nat, k ≤ n ∧ i = .int .i64 k ∧ Hid (hasB (zs.take k) x = false)) (fun i => n - (intOf i).toNat)
  case atStart => exact ⟨0, Nat.zero_le _, rfl, Lib.hid (by simp [hasB])⟩
  case round =>
    obtain ⟨k, hk, rfl, hall⟩ := hrel
    by_cases hlt : k < n
    · obtain ⟨ad, rfl, _, hcell⟩ := h.at_ hlt
      have HST := Lib.hid (fun y hy => @hasB_step zs n k y x HL.out hlt hy hall.out)
      have HSP := Lib.hid (fun y hy => @hasB_stop zs n k y HL.out hlt hy)
      generalize hy : zs.getD k 0 = y at *
      have HY := Lib.hid hy
      clear hy
      by_cases he : y = x
      · subst he
        go_wp2
        go_ret
        exact ⟨ret_bool (HSP.out _ rfl).symm, rfl⟩
      · have he' : (y == x) = false := by simpa using he
        have HE := Lib.hid he
        clear he
        go_wp2
        go_round
        case rel => exact ⟨k + 1, by omega, by go_num, Lib.hid (HST.out _ rfl HE.out)⟩
        case measure => simp [intOf]; omega
    · go_wp2
      go_ret
      exact ⟨ret_bool (hasB_done HL.out hlt hall.out).symm, rfl⟩

end Go.Proofs.Ytpaahjeohigngaa
