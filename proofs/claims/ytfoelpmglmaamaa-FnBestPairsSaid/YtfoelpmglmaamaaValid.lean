/- ValidNet: the walks. -/
import Derived.Test.YtfoelpmglmaamaaNetLaw
namespace Go.Proofs.Ytfoelpmglmaamaa
open Go.RowKit

def arcOkB (nodes : Int) (a : ArcR) : Bool := inB a.fr 0 (nodes - 1) && (inB a.to_ 0 (nodes - 1) && (decide (a.fr ≠ a.to_) && (inB a.room 0 1000000 && inB a.cost (-1000) 1000)))
/-- what a valid net is -/
def validB (nodes : Int) (xs : List ArcR) : Bool := inB nodes 2 16 && (decide (xs.length ≤ 48) && xs.all (arcOkB nodes))

theorem allA_step {p : ArcR → Bool} {zs : List ArcR} {n k : Nat} {x : ArcR} (hl : zs.length = n) (hk : k < n) (hx : zs.getD k default = x) (hall : (zs.take k).all p = true) (hp : p x = true) : (zs.take (k+1)).all p = true := by
  rw [all_take_succ p zs k default (by omega), hall, hx, hp]; rfl
theorem allA_stop {p : ArcR → Bool} {zs : List ArcR} {n k : Nat} {x : ArcR} (hl : zs.length = n) (hk : k < n) (hx : zs.getD k default = x) (hp : p x = false) : zs.all p = false :=
  all_false_of p zs k default (by omega) (by rw [hx, hp])
theorem allA_done {p : ArcR → Bool} {zs : List ArcR} {n k : Nat} (hl : zs.length = n) (hk : ¬ k < n) (hall : (zs.take k).all p = true) : zs.all p = true := by
  rwa [List.take_of_length_le (by omega)] at hall

theorem l00In_q' (n lo hi : Int) (w : World) (m : Nat) :
    Calls Try.prog 31 #[.int .i64 n, .int .i64 lo, .int .i64 hi] (w.drewN m) fun e w'' => e = .returned (.bool (inB n lo hi)) ∧ ∃ q, w'' = w.drewN q := quiet_here (l00In_any n lo hi _)

end Go.Proofs.Ytfoelpmglmaamaa
