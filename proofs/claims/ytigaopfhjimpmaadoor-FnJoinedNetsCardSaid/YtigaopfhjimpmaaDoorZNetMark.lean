/- Marks on nets; words for the walks of the laws on nets. -/
import Derived.Test.YtigaopfhjimpmaaDoorZNetLaw
import Derived.Test.YtigaopfhjimpmaaDoorJ2
namespace Go.Proofs.YtigaopfhjimpmaaDoor
open Go.RowKit

theorem sepC {T T' base size size' n c m d : Nat} {w w' : World} {A B : Option Addr} {vs us : List Value} (h1 : OwnC T base size w A n c vs) (h2 : OwnC T' w.heap.size size' w' B m d us) : Sep A B := by
  intro a b ha hb
  have := (OwnC.lt h1 ha).2
  have := (OwnC.lt h2 hb).1
  omega
theorem below_blkC {B T base size n c : Nat} {w w' a : World} {ad : Option Addr} {vs : List Value} (hb : Below B a w) (hB : B ≤ w.heap.size) (hu : Upd (blk ad) w w') (ho : OwnC T base size w ad n c vs) (hbase : B ≤ base) : Below B a w' :=
  hb.trans (hu.toBelow hB fun k hk ⟨x, h1, h2⟩ => by have := (OwnC.lt ho h1).1; omega)

set_option maxHeartbeats 1600000 in
theorem markArcS_any (base : Nat) (A : Option Addr) (n c : Nat) (xs : List ArcR) (k : Int) (w : World) (h : OwnA 42 base w A n c xs) (hk : 0 ≤ k) (hb : k + 4 * n ≤ 4611686018427387904) :
    Calls Tryd.prog 30 #[.slice A n c, .int .i64 k] w fun e w' => ∃ ys : List ArcR, e = .returned (.int .i64 (k + 4 * n)) ∧ OwnA 42 base w' A n c ys ∧ Upd (blk A) w w' := by
  have HL := Lib.hid h.len
  go_enter Tryd.func30, Tryd.ntmps30
  go_wp2
  go_loopg [1, 5] n (fun r kk i wr => ∃ (j : Nat) (ys : List ArcR), r = n - j ∧ j ≤ n ∧ i = .int .i64 j ∧ kk = .int .i64 (k + 4 * j) ∧ OwnA 42 base wr A n c ys ∧ Upd (blk A) w wr)
  case atStart => exact ⟨0, xs, by omega, by omega, rfl, by simp, h, Upd.refl _ _⟩
  case round =>
    obtain ⟨j, ys, hr, hj, rfl, rfl, hown, hu⟩ := hrel
    have HR := Lib.hid hr
    clear hr
    by_cases hlt : j < n
    · obtain ⟨g, rfl, _, _, _, _⟩ := OwnC.pos hown (by omega)
      have g0 := OwnC.free hown (j * 4)
      have g1 := OwnC.free hown (j * 4 + 1)
      have g2 := OwnC.free hown (j * 4 + 2)
      have g3 := OwnC.free hown (j * 4 + 3)
      obtain ⟨e0, e1, e2, e3⟩ := hown.cells hlt
      have o2 := hown.set4 hlt ⟨k + 4 * j, k + 4 * j + 1, k + 4 * j + 1 + 1, k + 4 * j + 1 + 1 + 1⟩
      generalize ys.getD j default = y at *
      generalize ys.set j _ = zs at *
      clear hown
      go_wp2
      go_roundg (n - (j + 1))
      case measure => rw [HR.out]; omega
      case rel => exact ⟨j + 1, zs, rfl, by omega, by go_num, by go_num, o2, (((hu.setCell (p := ⟨g, j * 4, none⟩) (.inl ⟨_, rfl, rfl⟩) _).setCell (p := ⟨g, j * 4 + 1, none⟩) (.inl ⟨_, rfl, rfl⟩) _).setCell (p := ⟨g, j * 4 + 2, none⟩) (.inl ⟨_, rfl, rfl⟩) _).setCell (p := ⟨g, j * 4 + 3, none⟩) (.inl ⟨_, rfl, rfl⟩) _⟩
    · go_wp2
      go_ret
      have e : j = n := by omega
      subst e
      exact ⟨ys, rfl, hown, hu⟩
theorem markNet_ret (base : Nat) (nodes : Int) (A : Option Addr) (n c : Nat) (xs : List ArcR) (k : Int) (w : World) (h : OwnA 42 base w A n c xs) (hk : 0 ≤ k) (hb : k + 4 * n ≤ 4611686018427387904) :
    Calls Tryd.prog 11 #[.agg #[.int .i64 nodes, .slice A n c], .int .i64 k] w fun e w' => ∃ (k' : Int), e = .returned (.int .i64 k') ∧ 0 ≤ k' ∧ k' ≤ k + 4 * n ∧ Upd (blk A) w w' := by
  go_enter Tryd.func11, Tryd.ntmps11
  go_wp2_with fail
  refine (markArcS_any base A n c xs k _ (OwnC.alloc h _) hk hb).mono ?_
  rintro e w1 ⟨ys, rfl, o, u⟩
  go_wp2_with fail
  go_ret
  exact ⟨_, rfl, by omega, by omega, ((Upd.refl _ w).alloc _).then u (fun _ _ h => h)⟩
end Go.Proofs.YtigaopfhjimpmaaDoor
