/- Sorting by insertion: the library's walk with a closure that compares. -/
import Derived.Test.YthhkgeeomhhegaaSortPlain
import Derived.Test.YthhkgeeomhhegaaGrid
import Derived.Test.YthhkgeeomhhegaaMore
namespace Go.Proofs.Ythhkgeeomhhegaa
open Go.RowKit

theorem compare_any (x y : Int) (w : World) :
    Calls Try.prog 47 #[.int .i64 x, .int .i64 y] w fun e w' => e = .returned (.int .i64 (cmpI x y)) ∧ w = w' := by
  have hx : ∀ (z : Int) (w : World), Calls Try.prog 61 #[.int .i64 z] w fun e w' => e = .returned (.bool false) ∧ w = w' := by
    intro z w
    go_enter Try.func61, Try.ntmps61
    go_wp2
    go_ret
    exact ⟨by simp, rfl⟩
  by_cases h1 : x < y
  · have H := Lib.hid (show cmpI x y = -1 by unfold cmpI; rw [if_pos h1])
    go_enter Try.func47, Try.ntmps47
    go_wp2_with (go_at_call 61; refine (hx _ _).mono ?_; rintro e w' ⟨rfl, rfl⟩)
    go_ret
    exact ⟨ret_int H.out.symm, rfl⟩
  · by_cases h2 : y < x
    · have H := Lib.hid (show cmpI x y = 1 by unfold cmpI; rw [if_neg h1, if_pos h2])
      go_enter Try.func47, Try.ntmps47
      go_wp2_with (go_at_call 61; refine (hx _ _).mono ?_; rintro e w' ⟨rfl, rfl⟩)
      go_ret
      exact ⟨ret_int H.out.symm, rfl⟩
    · have H := Lib.hid (show cmpI x y = 0 by unfold cmpI; rw [if_neg h1, if_neg h2])
      go_enter Try.func47, Try.ntmps47
      go_wp2_with (go_at_call 61; refine (hx _ _).mono ?_; rintro e w' ⟨rfl, rfl⟩)
      go_ret
      exact ⟨ret_int H.out.symm, rfl⟩
theorem compare_q (x y : Int) (w : World) (k : Nat) :
    Calls Try.prog 47 #[.int .i64 x, .int .i64 y] (w.drewN k) fun e w' => e = .returned (.int .i64 (cmpI x y)) ∧ ∃ m, w' = w.drewN m := quiet_here (compare_any x y (w.drewN k))

theorem seqI_snoc (i : Nat) : seqI 0 (i + 1) = seqI 0 i ++ [(i : Int)] := by
  unfold seqI
  rw [List.range_succ, List.map_append, List.map_singleton, Int.zero_add]
theorem ints_lt {w : World} {A : Option Addr} {n : Nat} {zs : List Int} (h : IntsAt w A n zs) (hn : 1 ≤ n) {ad : Addr} (ha : A = some ad) : ad.block < w.heap.size := by
  obtain ⟨ad', e, hlt, _⟩ := h.at_ (k := 0) (by omega)
  rw [ha] at e
  injection e with e
  subst e
  exact hlt

/-- one quotient is greater than another -/
def ltQ (zs ys : List Int) (a b : Int) : Bool := decide (ys.getD b.toNat 0 * zs.getD a.toNat 0 < ys.getD a.toNat 0 * zs.getD b.toNat 0)
def cvQ (zs ys : List Int) (a b : Int) : Int := cmpI (ys.getD b.toNat 0 * zs.getD a.toNat 0) (ys.getD a.toNat 0 * zs.getD b.toNat 0)
set_option maxRecDepth 100000 in
set_option maxHeartbeats 1600000 in
theorem byQ_any (A : Option Addr) (n c : Nat) (zs : List Int) (B : Option Addr) (d : Nat) (ys : List Int) (gG gS a b : Nat) (w : World) (h : IntsAt w A n zs) (hy : IntsAt w B n ys) (ha : a < n) (hb : b < n)
    (hz : ∀ k, k < n → 0 ≤ zs.getD k 0 ∧ zs.getD k 0 ≤ 1000) (hg : ∀ k, k < n → 0 ≤ ys.getD k 0 ∧ ys.getD k 0 ≤ 1000)
    (k1 : Blk w gG 22 #[.slice B n d]) (k2 : Blk w gS 22 #[.slice A n c]) :
    Calls Try.prog 59 #[.int .i64 a, .int .i64 b, .pointer (some ⟨gG, 0, none⟩), .pointer (some ⟨gS, 0, none⟩)] w fun e w' => e = .returned (.int .i64 (cvQ zs ys a b)) ∧ Drew w w' := by
  have HV := Lib.hid (show cvQ zs ys a b = cmpI (ys.getD b 0 * zs.getD a 0) (ys.getD a 0 * zs.getD b 0) from rfl)
  have p1 := (k1.cell 0).trans (show _ = some (Value.slice B n d) from rfl)
  have p2 := (k2.cell 0).trans (show _ = some (Value.slice A n c) from rfl)
  obtain ⟨ad, rfl, _, c1⟩ := h.at_ ha
  obtain ⟨bd, rfl, _, c2⟩ := hy.at_ ha
  have c3 := ints_cell h hb
  have c4 := ints_cell hy hb
  have b1 := hz a ha
  have b2 := hz b hb
  have b3 := hg a ha
  have b4 := hg b hb
  clear k1 k2 h hy hz hg
  generalize zs.getD a 0 = x1 at *
  generalize zs.getD b 0 = x2 at *
  generalize ys.getD a 0 = y1 at *
  generalize ys.getD b 0 = y2 at *
  have m1 : 0 ≤ y2 * x1 ∧ y2 * x1 ≤ 1000000 := ⟨Int.mul_nonneg b4.1 b1.1, Int.le_trans (Int.mul_le_mul b4.2 b1.2 b1.1 (by omega)) (by decide)⟩
  have m2 : 0 ≤ y1 * x2 ∧ y1 * x2 ≤ 1000000 := ⟨Int.mul_nonneg b3.1 b2.1, Int.le_trans (Int.mul_le_mul b3.2 b2.2 b2.1 (by omega)) (by decide)⟩
  have v1 : IntKind.i64.wrap (y2 * x1) = y2 * x1 := IntWalk.i64_in _ (by omega)
  have v2 : IntKind.i64.wrap (y1 * x2) = y1 * x2 := IntWalk.i64_in _ (by omega)
  have ha' : (a : Int) < (n : Int) := by omega
  have hb' : (b : Int) < (n : Int) := by omega
  clear m1 m2 b1 b2 b3 b4
  go_enter Try.func59, Try.ntmps59
  go_wp2_with fail
  go_quiet ((go_at_call 47; exact compare_q _ _ _ _))
  go_wp2
  go_ret
  exact ⟨ret_int HV.out.symm, ⟨_, rfl⟩⟩
end Go.Proofs.Ythhkgeeomhhegaa
