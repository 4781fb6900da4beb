/- Contracts of the laws' own helpers on slices of ints, and of the smallest functions. -/
import Derived.Test.YtigaopfhjimpmaaDoorJ1
namespace Go.Proofs.YtigaopfhjimpmaaDoor
open Go.RowKit

theorem info64 : (Tryd.prog.info? 2).map (fun i => (i.zero, i.size, i.bytes)) = some (some (.int .i64 0), 1, 8) := by kernel_rfl

theorem l00In_any (n lo hi : Int) (w : World) :
    Calls Tryd.prog 44 #[.int .i64 n, .int .i64 lo, .int .i64 hi] w fun e w' => e = .returned (.bool (inB n lo hi)) ∧ w = w' := by
  go_enter Tryd.func44, Tryd.ntmps44
  go_wp2
  all_goals go_ret
  all_goals (simp [inB]; try omega)
theorem within_any (n lo hi : Int) (w : World) :
    Calls Tryd.prog 46 #[.int .i64 n, .int .i64 lo, .int .i64 hi] w fun e w' => e = .returned (.bool (inB n lo hi)) ∧ w = w' := by
  go_enter Tryd.func46, Tryd.ntmps46
  go_wp2
  all_goals go_ret
  all_goals (simp [inB]; try omega)
theorem size_any (n : Int) (w : World) :
    Calls Tryd.prog 38 #[.int .i64 n] w fun e w' => e = .returned (.int .i64 n) ∧ w = w' := by
  go_enter Tryd.func38, Tryd.ntmps38
  go_wp2
  go_ret
  simp

/-- The call hands back a slice of its own that holds these ints, and leaves what was there. -/
def RetI (T : Nat) (zs : List Int) (w : World) (e : Ending) (w' : World) : Prop :=
  ∃ (A : Option Addr) (n c : Nat), e = .returned (.slice A n c) ∧ OwnI T w.heap.size w' A n c zs ∧ Below w.heap.size w w'

theorem eq_of_getD {xs ys : List Int} {n : Nat} (hx : xs.length = n) (hy : ys.length = n) (h : ∀ k, k < n → xs.getD k 0 = ys.getD k 0) : xs = ys := by
  apply List.ext_getElem?
  intro i
  by_cases hi : i < n
  · have := h i hi
    rw [List.getElem?_eq_getElem (by omega), List.getElem?_eq_getElem (by omega)]
    simpa [List.getD, List.getElem?_eq_getElem (show i < xs.length by omega), List.getElem?_eq_getElem (show i < ys.length by omega)] using this
  · rw [List.getElem?_eq_none (by omega), List.getElem?_eq_none (by omega)]

theorem eqInt64S_any (A B : Option Addr) (n c m d : Nat) (xs ys : List Int) (w : World) (hx : IntsAt w A n xs) (hy : IntsAt w B m ys) (hn0 : n ≤ maxLen) :
    Calls Tryd.prog 9 #[.slice A n c, .slice B m d] w fun e w' => e = .returned (.bool (decide (xs = ys))) ∧ ∃ q, w' = w.drewN q := by
  have HX := Lib.hid hx.len
  have HY := Lib.hid hy.len
  have hn : n ≤ 9223372036854775807 := hn0
  clear hn0
  by_cases hnm : n = m
  · subst hnm
    go_enter Tryd.func9, Tryd.ntmps9
    go_wp2
    go_loopw [5] (fun i wr => ∃ (k q : Nat), k ≤ n ∧ i = .int .i64 k ∧ (∃ W, W = w.drewN q ∧ wr = W) ∧ Hid (∀ j, j < k → xs.getD j 0 = ys.getD j 0)) (fun i _ => n - (intOf i).toNat)
    case atStart => exact ⟨0, 0, by omega, rfl, ⟨_, rfl, rfl⟩, Lib.hid (fun j hj => by omega)⟩
    case round =>
      obtain ⟨k, q, hk, rfl, ⟨_, rfl, rfl⟩, hall⟩ := hrel
      by_cases hlt : k < n
      · obtain ⟨ad, rfl, had, hcx⟩ := hx.at_ hlt
        obtain ⟨bd, rfl, hbd, hcy⟩ := hy.at_ hlt
        clear had hbd
        generalize gx : xs.getD k 0 = x at *
        generalize gy : ys.getD k 0 = y at *
        have GX := Lib.hid gx
        have GY := Lib.hid gy
        clear gx gy
        by_cases he : x = y
        · subst he
          go_wp2
          go_quiet (fail)
          go_wp2
          go_roundw
          case rel =>
            refine ⟨k + 1, _, by omega, by go_num, ⟨_, rfl, rfl⟩, Lib.hid fun j hj => ?_⟩
            by_cases hjk : j = k
            · subst hjk; rw [GX.out, GY.out]
            · exact hall.out j (by omega)
          case measure => simp [intOf]; omega
        · have HE := Lib.hid he
          have he' : (x != y) = true := by simpa using he
          have he2 : decide (x = y) = false := by simpa using he
          go_wp2
          go_quiet (fail)
          go_wp2
          go_ret
          refine ⟨ret_bool ?_, _, World.drewN_drewN _ _ _⟩
          symm
          rw [decide_eq_false_iff_not]
          intro h
          exact HE.out (by rw [← GX.out, ← GY.out, h])
      · go_wp2
        go_ret
        refine ⟨ret_bool ?_, _, rfl⟩
        symm
        rw [decide_eq_true_iff]
        exact eq_of_getD HX.out HY.out fun j hj => hall.out j (by omega)
  · have h' : ((n : Int) != (m : Int)) = true := by simp; omega
    go_enter Tryd.func9, Tryd.ntmps9
    go_wp2
    go_ret
    refine ⟨ret_bool ?_, 0, rfl⟩
    symm
    rw [decide_eq_false_iff_not]
    rintro rfl
    exact hnm (HX.out.symm.trans HY.out)
end Go.Proofs.YtigaopfhjimpmaaDoor
