/- The walk of the law FnExactValidNet. -/
import Derived.Test.YtpmhddcbbajpkaaValid2
import Derived.Test.YtpmhddcbbajpkaaOpenNet
namespace Go.Proofs.Ytpmhddcbbajpkaa
open Go.RowKit

set_option maxRecDepth 100000 in
set_option maxHeartbeats 1600000 in
theorem walk_ValidNet (nodes : Int) (A : Option Addr) (n c : Nat) (xs : List ArcR) (w : World) (_wf : (Lit.int .i64 nodes).wf = true) (h : ArcsAt w A n xs) (_fit : FitA xs) (hm : n ≤ maxLen) :
    Calls Try.prog 8 #[.agg #[.int .i64 nodes, .slice A n c]] w fun e w' => e = .returned (.bool true) ∧ Below w.heap.size w w' := by
  have HM := Lib.hid hm
  have kb := Blk.new w 32 #[.int .i64 nodes, .slice A n c]
  have bb : Below w.heap.size w (w.alloc (.cells #[.int .i64 nodes, .slice A n c] 32)) := (Below.refl _ _).alloc (Nat.le_refl _) _
  have g := h.alloc (.cells #[.int .i64 nodes, .slice A n c] 32)
  have KB := Lib.hid kb
  clear kb
  by_cases hbig : n ≤ 1048576
  · go_enter Try.func8, Try.ntmps8
    go_wp2_with fail
    generalize w.alloc (.cells #[.int .i64 nodes, .slice A n c] 32) = w0 at *
    -- the size
    refine (szNet_yes nodes A n c _ _ (by omega) (by omega)).mono ?_
    rintro e w1 ⟨rfl, b⟩
    replace g := g.below b
    replace KB := Lib.hid (KB.out.ext b)
    replace bb := below_ext bb bb.size b
    clear b
    have p0 := KB.out.cell 0
    have p1 := KB.out.cell 1
    have hpos : ¬ ((1048576 : Int) - n < 0) := by omega
    go_wp2_with fail
    refine (toNet_any nodes A n c xs _ g hbig).mono ?_
    rintro e w2 ⟨A1, c1, rfl, o1, b⟩
    replace g := g.below b
    replace KB := Lib.hid (KB.out.ext b)
    replace bb := below_ext bb bb.size b
    clear b p0 p1
    go_wp2_with fail
    refine (specValidNet_r nodes A1 n c1 xs _ o1.arcs HM.out).mono ?_
    rintro e w3 ⟨rfl, b⟩
    replace g := g.below b
    replace KB := Lib.hid (KB.out.ext b)
    replace bb := below_ext bb bb.size b
    clear b o1
    have p0 := KB.out.cell 0
    have p1 := KB.out.cell 1
    go_wp2_with fail
    refine (toNet_any nodes A n c xs _ g hbig).mono ?_
    rintro e w4 ⟨A2, c2, rfl, o2, b⟩
    replace g := g.below b
    replace KB := Lib.hid (KB.out.ext b)
    replace bb := below_ext bb bb.size b
    clear b p0 p1
    replace g := g.alloc (.cells #[.int .i64 nodes, .slice A2 n c2] 37)
    replace o2 := OwnC.alloc o2 (.cells #[.int .i64 nodes, .slice A2 n c2] 37)
    have kx := Blk.new w4 37 #[.int .i64 nodes, .slice A2 n c2]
    have KX := Lib.hid kx
    clear kx
    replace KB := Lib.hid (KB.out.alloc (.cells #[.int .i64 nodes, .slice A2 n c2] 37))
    replace bb := bb.alloc bb.size (.cells #[.int .i64 nodes, .slice A2 n c2] 37)
    go_wp2_with fail
    generalize w4.alloc (.cells #[.int .i64 nodes, .slice A2 n c2] 37) = w5 at *
    refine (implValidNet_r nodes A2 n c2 xs _ (OwnA.arcs o2) HM.out).mono ?_
    rintro e w6 ⟨rfl, b⟩
    replace g := g.below b
    replace KB := Lib.hid (KB.out.ext b)
    replace KX := Lib.hid (KX.out.ext b)
    replace o2 := OwnC.below o2 b
    replace bb := below_ext bb bb.size b
    clear b
    have p0 := KB.out.cell 0
    have p1 := KB.out.cell 1
    have q0 := KX.out.cell 0
    have q1 := KX.out.cell 1
    have hne : (validB nodes xs != validB nodes xs) = false := by simp
    go_wp2_with fail
    go_region_with (first | (go_at_call 22; refine (toNet_any nodes A n c xs _ g.drew hbig).mono ?_; rintro e w7 ⟨A3, c3, rfl, o3, b⟩; have q0 := (KX.out.drew.ext b).cell 0; have q1 := (KX.out.drew.ext b).cell 1) | (go_at_call 24; refine (eqNet_same nodes A2 A3 n c2 n c3 xs _ (OwnA.arcs (OwnC.below (OwnC.drew o2) b)) o3.arcs HM.out).mono ?_; rintro e w8 ⟨rfl, b8⟩))
    all_goals
      go_wp2_with fail
      go_ret
      exact ⟨rfl, below_ext (below_ext bb.drew bb.size b) (Nat.le_trans bb.size b.size) b8⟩
  · go_enter Try.func8, Try.ntmps8
    go_wp2_with fail
    refine (szNet_no nodes A n c _ _ (by omega) (by omega) (by omega) HM.out).mono ?_
    rintro e w1 ⟨rfl, b⟩
    go_wp2_with fail
    go_ret
    exact ⟨rfl, below_ext bb bb.size b⟩
end Go.Proofs.Ytpmhddcbbajpkaa
