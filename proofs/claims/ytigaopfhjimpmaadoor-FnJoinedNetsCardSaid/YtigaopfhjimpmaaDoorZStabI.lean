/- Sorting that keeps the order of equals: the library's exchanges and rotations, walked. -/
import Derived.Test.YtigaopfhjimpmaaDoorJ2
import Derived.Test.YtigaopfhjimpmaaDoorZSort
namespace Go.Proofs.YtigaopfhjimpmaaDoor
open Go.RowKit

set_option maxRecDepth 100000 in
set_option maxHeartbeats 1000000 in
theorem swapRange_any (N g cg base : Nat) (P U M V S : List Int) (a b n : Nat) (fv : Value) (w : World) (o : OwnI 2 base w (some ⟨g, 0, none⟩) N cg (P ++ (U ++ (M ++ (V ++ S))))) (hu : U.length = n) (hv : V.length = n) (ha : a = P.length) (hb : b = P.length + n + M.length) (hN : N ≤ 48) :
    Calls Tryd.prog 59 #[.slice (some ⟨g, 0, none⟩) N cg, .int .i64 a, .int .i64 b, .int .i64 n, fv] w fun e w' => e = .returned (.tuple #[]) ∧ OwnI 2 base w' (some ⟨g, 0, none⟩) N cg (P ++ (V ++ (M ++ (U ++ S)))) ∧ Upd (blk (some ⟨g, 0, none⟩)) w w' := by
  have hlen : (P ++ (U ++ (M ++ (V ++ S)))).length = N := o.len
  have hbn : b + n ≤ N := by
    simp only [List.length_append] at hlen; omega
  have han : a + n ≤ b := by omega
  have HST := Lib.hid (fun i (hi : i < n) => swpA_step (P := P) (U := U) (M := M) (V := V) (S := S) hu hv hi ha hb)
  have HAL := Lib.hid (swpA_all P U M V S hu hv)
  rw [← swpA_zero] at o
  clear hu hv ha hb hlen
  go_enter Tryd.func59, Tryd.ntmps59
  go_wp2_with fail
  go_loopg [10] n (fun r iv wr => ∃ (i : Nat), r = n - i ∧ i ≤ n ∧ iv = .int .i64 i ∧ OwnI 2 base wr (some ⟨g, 0, none⟩) N cg (swpA P U M V S i) ∧ Upd (blk (some ⟨g, 0, none⟩)) w wr)
  case atStart => exact ⟨0, by omega, Nat.zero_le _, rfl, o, Upd.refl _ _⟩
  case round =>
    clear o
    obtain ⟨i, hr, hi, rfl, o, hu⟩ := hrel
    have HR := Lib.hid hr
    clear hr
    by_cases hlt : i < n
    · obtain ⟨s1, s2, s3⟩ := HST.out i hlt
      have hk1 : a + i < N := by omega
      have hk2 : b + i < N := by omega
      have c1 := OwnI.cell o (j := a + i) hk1
      have c2 := OwnI.cell o (j := b + i) hk2
      rw [s1] at c1
      rw [s2] at c2
      have HS3 := Lib.hid s3
      have v1 : IntKind.i64.wrap ((a : Int) + (i : Int)) = ((a + i : Nat) : Int) := by rw [IntWalk.i64_in _ (by omega)]; omega
      have v2 : IntKind.i64.wrap ((b : Int) + (i : Int)) = ((b + i : Nat) : Int) := by rw [IntWalk.i64_in _ (by omega)]; omega
      have hli : (i : Int) < (n : Int) := by omega
      have hk12 : a + i ≠ b + i := by omega
      have c3 := OwnI.cell (OwnI.set o (a + i) (V.getD i 0)) (j := b + i) hk2
      rw [show ((swpA P U M V S i).set (a + i) (V.getD i 0)).getD (b + i) 0 = V.getD i 0 from by
        simp only [List.getD] at s2 ⊢
        rw [List.getElem?_set_ne hk12]; exact s2] at c3
      clear s1 s2 s3
      generalize U.getD i 0 = x at *
      generalize V.getD i 0 = y at *
      generalize a + i = k1 at *
      generalize b + i = k2 at *
      have f1 := OwnI.free o k1
      have f2 := OwnI.free (OwnI.set o k1 y) k2
      have oS := OwnI.set (OwnI.set o k1 y) k2 x
      have uS := (hu.setCell (p := ⟨g, k1, none⟩) (.inl ⟨_, rfl, rfl⟩) (.int .i64 y)).setCell (p := ⟨g, k2, none⟩) (.inl ⟨_, rfl, rfl⟩) (.int .i64 x)
      rw [HS3.out] at oS
      have h1 : (k1 : Int) < (N : Int) := by omega
      have h2 : (k2 : Int) < (N : Int) := by omega
      clear o hu
      go_wp2_with fail
      go_region
      all_goals
        go_wp2_with fail
        go_roundg (n - (i + 1))
        case measure => rw [HR.out]; omega
        case rel => exact ⟨i + 1, rfl, by omega, by go_num, oS.drew, uS.drew⟩
    · obtain rfl : n = i := by omega
      rw [HAL.out] at o
      go_wp2_with fail
      go_end0
      exact ⟨rfl, o, hu⟩
end Go.Proofs.YtigaopfhjimpmaaDoor
