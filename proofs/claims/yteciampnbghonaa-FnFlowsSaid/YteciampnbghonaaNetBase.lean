/- SameNet and ValidNet: the walks. -/
import Derived.Test.YteciampnbghonaaNetLaw
namespace Go.Proofs.Yteciampnbghonaa
open Go.RowKit

/-- two nets are the same -/
def sameNB (n1 n2 : Int) (xs ys : List ArcR) : Bool := decide (n1 = n2 ∧ xs = ys)

theorem arcs_eq {xs ys : List ArcR} {n : Nat} (hx : xs.length = n) (hy : ys.length = n) (h : ∀ k, k < n → xs.getD k default = ys.getD k default) : xs = ys := by
  apply List.ext_getElem?
  intro i
  by_cases hi : i < n
  · have := h i hi
    rw [List.getElem?_eq_getElem (by omega), List.getElem?_eq_getElem (by omega)]
    simpa [List.getD, List.getElem?_eq_getElem (show i < xs.length by omega), List.getElem?_eq_getElem (show i < ys.length by omega)] using this
  · rw [List.getElem?_eq_none (by omega), List.getElem?_eq_none (by omega)]

theorem stood_arc : Try.prog.stoodInHeld 45 = false := by kernel_rfl
theorem guard_arc : Try.prog.eqGuardType Try.prog.depth 45 = false := by kernel_rfl
theorem under_arc : Try.prog.underlying 45 = some (.struct (Try.prog.fieldsOf 45)) := by kernel_rfl
theorem arc_equal (d : Nat) (f t r q f' t' r' q' : Int) (w : World) :
    (Op.equalIn (d + 2) 45 (.agg #[.int .i64 f, .int .i64 t, .int .i64 r, .int .i64 q]) (.agg #[.int .i64 f', .int .i64 t', .int .i64 r', .int .i64 q'])).run Try.prog w = .ok (decide ((⟨f, t, r, q⟩ : ArcR) = ⟨f', t', r', q'⟩)) w := by
  rw [run_equalIn_agg w (d + 1) _ _ _ under_arc stood_arc]
  simp only [ArcR.mk.injEq]
  by_cases h1 : f = f' <;> by_cases h2 : t = t' <;> by_cases h3 : r = r' <;> by_cases h4 : q = q' <;> simp [go_sem, Try.underlying45, Try.underlying2, h1, h2, h3, h4]

set_option maxHeartbeats 1600000 in
theorem slicesEqual_arcs (A B : Option Addr) (n c m d : Nat) (xs ys : List ArcR) (w : World) (hx : ArcsAt w A n xs) (hy : ArcsAt w B m ys) (hn0 : n ≤ maxLen) :
    Calls Try.prog 54 #[.slice A n c, .slice B m d] w fun e w' => e = .returned (.bool (decide (xs = ys))) ∧ Drew w w' := by
  have HX := Lib.hid hx.len
  have HY := Lib.hid hy.len
  have hn : n ≤ 9223372036854775807 := hn0
  clear hn0
  by_cases hnm : n = m
  · subst hnm
    have hself : ((n : Int) != (n : Int)) = false := by simp
    go_enter Try.func54, Try.ntmps54
    go_wp2
    go_loopg [13] n (fun r i wr => ∃ (k : Nat), r = n - k ∧ k ≤ n ∧ i = .int .i64 k ∧ Drew w wr ∧ Hid (∀ j, j < k → xs.getD j default = ys.getD j default))
    case atStart => exact ⟨0, by omega, by omega, rfl, Drew.refl _, Lib.hid (fun j hj => by omega)⟩
    case round =>
      obtain ⟨k, hr, hk, rfl, hd, hall⟩ := hrel
      have HR := Lib.hid hr
      clear hr
      by_cases hlt : k < n
      · obtain ⟨ad, rfl, had, c0, c1, c2, c3⟩ := (hx.drewTo hd).at_ hlt
        obtain ⟨bd, rfl, hbd, d0, d1, d2, d3⟩ := (hy.drewTo hd).at_ hlt
        generalize gx : xs.getD k default = x at *
        generalize gy : ys.getD k default = y at *
        have GX := Lib.hid gx
        have GY := Lib.hid gy
        clear gx gy
        by_cases he : x = y
        · subst he
          obtain ⟨f, t, r, q⟩ := x
          have e1 : ∀ W, (Op.equalIn 10000 45 (.agg #[.int .i64 f, .int .i64 t, .int .i64 r, .int .i64 q]) (.agg #[.int .i64 f, .int .i64 t, .int .i64 r, .int .i64 q])).run Try.prog W = .ok true W := fun W => by rw [arc_equal 9998, decide_eq_true rfl]
          have e2 := guard_arc
          go_wp2
          go_quiet (fail)
          go_wp2
          go_roundg (n - (k + 1))
          case measure => rw [HR.out]; omega
          case rel =>
            refine ⟨k + 1, rfl, by omega, by go_num, hd.step _, Lib.hid fun j hj => ?_⟩
            by_cases hjk : j = k
            · subst hjk; rw [GX.out, GY.out]
            · exact hall.out j (by omega)
        · have HE := Lib.hid he
          obtain ⟨f, t, r, q⟩ := x
          obtain ⟨f', t', r', q'⟩ := y
          have e1 : ∀ W, (Op.equalIn 10000 45 (.agg #[.int .i64 f, .int .i64 t, .int .i64 r, .int .i64 q]) (.agg #[.int .i64 f', .int .i64 t', .int .i64 r', .int .i64 q'])).run Try.prog W = .ok false W := fun W => by rw [arc_equal 9998, decide_eq_false he]
          have e2 := guard_arc
          clear he
          go_wp2
          go_quiet (fail)
          go_wp2
          go_ret
          refine ⟨ret_bool ?_, hd.step _⟩
          symm
          rw [decide_eq_false_iff_not]
          intro h
          exact HE.out (by rw [← GX.out, ← GY.out, h])
      · go_wp2
        go_ret
        refine ⟨ret_bool ?_, hd⟩
        symm
        rw [decide_eq_true_iff]
        exact arcs_eq HX.out HY.out fun j hj => hall.out j (by omega)
  · have h' : ((n : Int) != (m : Int)) = true := by simp; omega
    go_enter Try.func54, Try.ntmps54
    go_wp2
    go_ret
    refine ⟨ret_bool ?_, Drew.refl _⟩
    symm
    rw [decide_eq_false_iff_not]
    rintro rfl
    exact hnm (HX.out.symm.trans HY.out)

theorem implSameNet_r (n1 n2 : Int) (A B : Option Addr) (n c m d : Nat) (xs ys : List ArcR) (w : World) (hx : ArcsAt w A n xs) (hy : ArcsAt w B m ys) (hn0 : n ≤ maxLen) :
    Calls Try.prog 21 #[.agg #[.int .i64 n1, .slice A n c], .agg #[.int .i64 n2, .slice B m d]] w (RetV (.bool (sameNB n1 n2 xs ys)) w) := by
  have hW : Below w.heap.size w ((w.alloc (.cells #[.int .i64 n1, .slice A n c] 26)).alloc (.cells #[.int .i64 n2, .slice B m d] 26)) := ((Below.refl _ _).alloc (Nat.le_refl _) _).alloc (by simp) _
  by_cases h1 : n1 = n2
  · subst h1
    have hself : (n1 == n1) = true := by simp
    have HS := Lib.hid (show sameNB n1 n1 xs ys = decide (xs = ys) by simp [sameNB])
    go_enter Try.func21, Try.ntmps21
    go_wp2_with fail
    refine (slicesEqual_arcs A B n c m d xs ys _ ((hx.alloc _).alloc _) ((hy.alloc _).alloc _) hn0).mono ?_
    rw [← HS.out]
    rintro e w1 ⟨rfl, hd⟩
    go_wp2_with fail
    go_ret
    exact ⟨rfl, below_ext hW hW.size hd.below⟩
  · have hb : (n1 == n2) = false := by simpa using h1
    have HS := Lib.hid (show sameNB n1 n2 xs ys = false by simp [sameNB, h1])
    clear h1
    go_enter Try.func21, Try.ntmps21
    go_wp2_with fail
    go_ret
    exact ⟨ret_bool HS.out.symm, hW⟩

end Go.Proofs.Yteciampnbghonaa
