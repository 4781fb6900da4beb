/- The walk of the law FnExactSameNet. -/
import Derived.Test.YtpmhddcbbajpkaaNetBase
import Derived.Test.YtpmhddcbbajpkaaOpenNet
namespace Go.Proofs.Ytpmhddcbbajpkaa
open Go.RowKit

set_option maxRecDepth 100000 in
set_option maxHeartbeats 3200000 in
theorem walk_SameNet (nd1 : Int) (A : Option Addr) (n c : Nat) (xs : List ArcR) (nd2 : Int) (B : Option Addr) (m d : Nat) (ys : List ArcR) (w : World)
    (_wf1 : (Lit.int .i64 nd1).wf = true) (hx : ArcsAt w A n xs) (_fit1 : FitA xs) (hm1 : n ≤ maxLen) (_wf2 : (Lit.int .i64 nd2).wf = true) (hy : ArcsAt w B m ys) (_fit2 : FitA ys) (hm2 : m ≤ maxLen) :
    Calls Try.prog 7 #[.agg #[.int .i64 nd1, .slice A n c], .agg #[.int .i64 nd2, .slice B m d]] w fun e w' => e = .returned (.bool true) ∧ Below w.heap.size w w' := by
  have HM1 := Lib.hid hm1
  have HM2 := Lib.hid hm2
  have ka := (Blk.new w 32 #[.int .i64 nd1, .slice A n c]).alloc (.cells #[.int .i64 nd2, .slice B m d] 32)
  have kb := Blk.new (w.alloc (.cells #[.int .i64 nd1, .slice A n c] 32)) 32 #[.int .i64 nd2, .slice B m d]
  rw [World.size_alloc] at kb
  have bb : Below w.heap.size w ((w.alloc (.cells #[.int .i64 nd1, .slice A n c] 32)).alloc (.cells #[.int .i64 nd2, .slice B m d] 32)) := ((Below.refl _ _).alloc (Nat.le_refl _) _).alloc (by simp) _
  have g := (hx.alloc (.cells #[.int .i64 nd1, .slice A n c] 32)).alloc (.cells #[.int .i64 nd2, .slice B m d] 32)
  have f := (hy.alloc (.cells #[.int .i64 nd1, .slice A n c] 32)).alloc (.cells #[.int .i64 nd2, .slice B m d] 32)
  have KA := Lib.hid ka
  have KB := Lib.hid kb
  clear ka kb hx hy
  by_cases hbig : n ≤ 1048576
  · by_cases hbig2 : n + m ≤ 1048576
    · go_enter Try.func7, Try.ntmps7
      go_wp2_with fail
      generalize (w.alloc (.cells #[.int .i64 nd1, .slice A n c] 32)).alloc (.cells #[.int .i64 nd2, .slice B m d] 32) = w0 at *
      refine (szNet_yes nd1 A n c _ _ (by omega) (by omega)).mono ?_
      rintro e w1 ⟨rfl, b⟩
      replace g := g.below b
      replace f := f.below b
      replace KA := Lib.hid (KA.out.ext b)
      replace KB := Lib.hid (KB.out.ext b)
      replace bb := below_ext bb bb.size b
      clear b
      have p0 := KB.out.cell 0
      have p1 := KB.out.cell 1
      have hpos : ¬ ((1048576 : Int) - n < 0) := by omega
      go_wp2_with fail
      refine (szNet_yes nd2 B m d _ _ (by omega) (by omega)).mono ?_
      rintro e w2 ⟨rfl, b⟩
      replace g := g.below b
      replace f := f.below b
      replace KA := Lib.hid (KA.out.ext b)
      replace KB := Lib.hid (KB.out.ext b)
      replace bb := below_ext bb bb.size b
      clear b p0 p1 hpos
      have hpos : ¬ ((1048576 : Int) - n - m < 0) := by omega
      have p0 := KA.out.cell 0
      have p1 := KA.out.cell 1
      have q0 := KB.out.cell 0
      have q1 := KB.out.cell 1
      go_wp2_with fail
      go_cut [6] (fun s6 wx => s6 = .bool (sameNB nd1 nd2 xs ys) ∧ Below w2.heap.size w2 wx)
      case first =>
        go_region_with (first | (go_at_call_of 22 (Value.agg #[Value.int IntKind.i64 nd1, Value.slice A n c]); refine (toNet_any nd1 A n c xs _ g.drew hbig).mono ?_; rintro e w3 ⟨A1, c1, rfl, o1, b3⟩; have q0 := (KB.out.drew.ext b3).cell 0; have q1 := (KB.out.drew.ext b3).cell 1) | (go_at_call_of 22 (Value.agg #[Value.int IntKind.i64 nd2, Value.slice B m d]); refine (toNet_any nd2 B m d ys _ (f.drew.below b3) (by omega)).mono ?_; rintro e w4 ⟨B1, d1, rfl, o2, b4⟩) | (go_at_call 21; refine (specSameNet_r nd1 nd2 A1 B1 n c1 m d1 xs ys _ (OwnA.arcs (OwnA.below o1 b4)) o2.arcs HM1.out HM2.out).mono ?_; rintro e w5 ⟨rfl, b5⟩))
        all_goals
          go_wp2_with fail
          go_meet
          exact ⟨rfl, ext_trans (ext_trans (ext_trans (Below.drew (Below.refl _ _)) b3) b4) b5⟩
      case rest =>
        obtain ⟨rfl, b⟩ := hcut
        replace g := g.below b
        replace f := f.below b
        replace KA := Lib.hid (KA.out.ext b)
        replace KB := Lib.hid (KB.out.ext b)
        replace bb := below_ext bb bb.size b
        clear b p0 p1 q0 q1 hpos
        have p0 := KA.out.cell 0
        have p1 := KA.out.cell 1
        generalize hS : sameNB nd1 nd2 xs ys = bS at *
        have HS := Lib.hid hS
        clear hS
        have hne : (bS != bS) = false := by simp
        go_wp2_with fail
        refine (toNet_any nd1 A n c xs _ g hbig).mono ?_
        rintro e w4 ⟨A2, c2, rfl, o2, b⟩
        replace g := (g.below b).alloc (.cells #[.int .i64 nd1, .slice A2 n c2] 37)
        replace f := (f.below b).alloc (.cells #[.int .i64 nd1, .slice A2 n c2] 37)
        replace KA := Lib.hid ((KA.out.ext b).alloc (.cells #[.int .i64 nd1, .slice A2 n c2] 37))
        replace KB := Lib.hid ((KB.out.ext b).alloc (.cells #[.int .i64 nd1, .slice A2 n c2] 37))
        replace o2 := OwnC.alloc o2 (.cells #[.int .i64 nd1, .slice A2 n c2] 37)
        have KX := Lib.hid (Blk.new w4 37 #[.int .i64 nd1, .slice A2 n c2])
        replace bb := (below_ext bb bb.size b).alloc (Nat.le_trans bb.size b.size) (.cells #[.int .i64 nd1, .slice A2 n c2] 37)
        clear b p0 p1
        have p0 := KB.out.cell 0
        have p1 := KB.out.cell 1
        go_wp2_with fail
        generalize w4.alloc (.cells #[.int .i64 nd1, .slice A2 n c2] 37) = w5 at *
        refine (toNet_any nd2 B m d ys _ f (by omega)).mono ?_
        rintro e w6 ⟨B2, d2, rfl, o3, b⟩
        replace g := (g.below b).alloc (.cells #[.int .i64 nd2, .slice B2 m d2] 37)
        replace f := (f.below b).alloc (.cells #[.int .i64 nd2, .slice B2 m d2] 37)
        replace KA := Lib.hid ((KA.out.ext b).alloc (.cells #[.int .i64 nd2, .slice B2 m d2] 37))
        replace KB := Lib.hid ((KB.out.ext b).alloc (.cells #[.int .i64 nd2, .slice B2 m d2] 37))
        replace KX := Lib.hid ((KX.out.ext b).alloc (.cells #[.int .i64 nd2, .slice B2 m d2] 37))
        replace o2 := OwnC.alloc (OwnC.below o2 b) (.cells #[.int .i64 nd2, .slice B2 m d2] 37)
        replace o3 := OwnC.alloc o3 (.cells #[.int .i64 nd2, .slice B2 m d2] 37)
        have KY := Lib.hid (Blk.new w6 37 #[.int .i64 nd2, .slice B2 m d2])
        replace bb := (below_ext bb bb.size b).alloc (Nat.le_trans bb.size b.size) (.cells #[.int .i64 nd2, .slice B2 m d2] 37)
        clear b p0 p1
        have p0 := KX.out.cell 0
        have p1 := KX.out.cell 1
        have q0 := KY.out.cell 0
        have q1 := KY.out.cell 1
        go_wp2_with fail
        generalize w6.alloc (.cells #[.int .i64 nd2, .slice B2 m d2] 37) = w7 at *
        refine (implSameNet_r nd1 nd2 A2 B2 n c2 m d2 xs ys _ (OwnA.arcs o2) (OwnA.arcs o3) HM1.out).mono ?_
        rw [HS.out]
        rintro e w8 ⟨rfl, b⟩
        replace g := g.below b
        replace f := f.below b
        replace KA := Lib.hid (KA.out.ext b)
        replace KB := Lib.hid (KB.out.ext b)
        replace KX := Lib.hid (KX.out.ext b)
        replace KY := Lib.hid (KY.out.ext b)
        replace o2 := OwnC.below o2 b
        replace o3 := OwnC.below o3 b
        replace bb := below_ext bb bb.size b
        clear b p0 p1 q0 q1
        have p0 := KA.out.cell 0
        have p1 := KA.out.cell 1
        have q0 := KX.out.cell 0
        have q1 := KX.out.cell 1
        go_wp2_with fail
        go_cut [39] (fun s39 wx => s39 = .bool false ∧ Below w8.heap.size w8 wx)
        case first =>
          go_region_with (first | (go_at_call 22; refine (toNet_any nd1 A n c xs _ g.drew hbig).mono ?_; rintro e w9 ⟨A3, c3, rfl, o4, b⟩; have q0 := (KX.out.drew.ext b).cell 0; have q1 := (KX.out.drew.ext b).cell 1) | (go_at_call 24; refine (eqNet_same nd1 A2 A3 n c2 n c3 xs _ (OwnA.arcs (OwnC.below (OwnC.drew o2) b)) o4.arcs HM1.out).mono ?_; rintro e w10 ⟨rfl, b8⟩))
          all_goals
            go_wp2_with fail
            go_meet
            exact ⟨rfl, ext_trans (ext_trans (Below.drew (Below.refl _ _)) b) b8⟩
        case rest =>
          obtain ⟨rfl, b⟩ := hcut
          replace f := f.below b
          replace KB := Lib.hid (KB.out.ext b)
          replace KY := Lib.hid (KY.out.ext b)
          replace o3 := OwnC.below o3 b
          replace bb := below_ext bb bb.size b
          clear b p0 p1 q0 q1
          have p0 := KB.out.cell 0
          have p1 := KB.out.cell 1
          have q0 := KY.out.cell 0
          have q1 := KY.out.cell 1
          go_wp2_with fail
          go_region_with (first | (go_at_call 22; refine (toNet_any nd2 B m d ys _ f.drew (by omega)).mono ?_; rintro e w9 ⟨B3, d3, rfl, o4, b⟩; have q0 := (KY.out.drew.ext b).cell 0; have q1 := (KY.out.drew.ext b).cell 1) | (go_at_call 24; refine (eqNet_same nd2 B2 B3 m d2 m d3 ys _ (OwnA.arcs (OwnC.below (OwnC.drew o3) b)) o4.arcs HM2.out).mono ?_; rintro e w10 ⟨rfl, b8⟩))
          all_goals
            go_wp2_with fail
            go_ret
            exact ⟨rfl, below_ext bb bb.size (ext_trans (ext_trans (Below.drew (Below.refl _ _)) b) b8)⟩
    · go_enter Try.func7, Try.ntmps7
      go_wp2_with fail
      generalize (w.alloc (.cells #[.int .i64 nd1, .slice A n c] 32)).alloc (.cells #[.int .i64 nd2, .slice B m d] 32) = w0 at *
      refine (szNet_yes nd1 A n c _ _ (by omega) (by omega)).mono ?_
      rintro e w1 ⟨rfl, b⟩
      replace KB := Lib.hid (KB.out.ext b)
      replace bb := below_ext bb bb.size b
      clear b
      have p0 := KB.out.cell 0
      have p1 := KB.out.cell 1
      have hpos : ¬ ((1048576 : Int) - n < 0) := by omega
      go_wp2_with fail
      refine (szNet_no nd2 B m d _ _ (by omega) (by omega) (by omega) HM2.out).mono ?_
      rintro e w2 ⟨rfl, b⟩
      go_wp2_with fail
      go_ret
      exact ⟨rfl, below_ext bb bb.size b⟩
  · go_enter Try.func7, Try.ntmps7
    go_wp2_with fail
    refine (szNet_no nd1 A n c _ _ (by omega) (by omega) (by omega) HM1.out).mono ?_
    rintro e w1 ⟨rfl, b⟩
    go_wp2_with fail
    go_ret
    exact ⟨rfl, below_ext bb bb.size b⟩
end Go.Proofs.Ytpmhddcbbajpkaa
