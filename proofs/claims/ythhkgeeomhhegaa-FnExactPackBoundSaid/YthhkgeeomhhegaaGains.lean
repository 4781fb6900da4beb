/- BestGains: tables of gains. -/
import Derived.Test.YthhkgeeomhhegaaGrid
import Derived.Test.YthhkgeeomhhegaaMix
import Derived.Test.YthhkgeeomhhegaaSizes
namespace Go.Proofs.Ythhkgeeomhhegaa
open Go.RowKit

/-- one thing more: the greatest gains for each room -/
def gainStep (x g : Int) (prev : List Int) : List Int := (List.range prev.length).map fun (r : Nat) => if x ≤ (r : Int) then max (prev.getD r 0) (wrap64 (prev.getD ((r : Int) - x).toNat 0 + g)) else prev.getD r 0
def gainT (sizes gains : List Int) (room : Nat) : Nat → List Int
  | 0 => List.replicate (room + 1) 0
  | k + 1 => gainStep (sizes.getD k 0) (gains.getD k 0) (gainT sizes gains room k)
theorem gainStep_len (x g : Int) (prev : List Int) : (gainStep x g prev).length = prev.length := by simp [gainStep]
theorem gainT_len (sizes gains : List Int) (room : Nat) : ∀ k, (gainT sizes gains room k).length = room + 1
  | 0 => by simp [gainT]
  | k + 1 => by rw [gainT, gainStep_len, gainT_len sizes gains room k]
theorem gainStep_get {x g : Int} {prev : List Int} {r : Nat} (hr : r < prev.length) : (gainStep x g prev).getD r 0 = if x ≤ (r : Int) then max (prev.getD r 0) (wrap64 (prev.getD ((r : Int) - x).toNat 0 + g)) else prev.getD r 0 := by
  simp [gainStep, List.getD, hr]

def canB (sizes gains : List Int) (room : Int) : Bool := sizesB sizes && (decide (gains.length = sizes.length) && (inB room 0 1000 && gains.all fun g => inB g 0 1000))

set_option maxHeartbeats 1600000 in
theorem arePacks_any (A : Option Addr) (n c : Nat) (zs : List Int) (B : Option Addr) (m d : Nat) (ys : List Int) (room : Int) (w : World) (h : IntsAt w A n zs) (hy : IntsAt w B m ys) (hl : n ≤ 1048576) (hl2 : m ≤ 1048576) :
    Calls Try.prog 43 #[.slice A n c, .slice B m d, .int .i64 room] w fun e w' => e = .returned (.bool (canB zs ys room)) ∧ w = w' := by
  have HX := Lib.hid h.len
  have HY := Lib.hid hy.len
  cases hs : sizesB zs
  · have HC := Lib.hid (show canB zs ys room = false by simp [canB, hs])
    go_enter Try.func43, Try.ntmps43
    go_wp2_with (go_at_call 37; refine (implAreSizes_any _ _ _ zs _ h hl).mono ?_; rintro e w' ⟨rfl, rfl⟩)
    go_ret
    exact ⟨ret_bool HC.out.symm, rfl⟩
  · by_cases he : m = n
    · subst he
      have hself : ((m : Int) == (m : Int)) = true := by simp
      cases hg : ys.all fun g => inB g 0 1000
      · have HC := Lib.hid (show canB zs ys room = false by unfold canB; rw [hg]; simp)
        go_enter Try.func43, Try.ntmps43
        go_wp2_with (first | (go_at_call 37; refine (implAreSizes_any _ _ _ zs _ h hl).mono ?_; rintro e w' ⟨rfl, rfl⟩) | (go_at_call 52; refine (allWithin_any _ _ _ ys _ _ _ hy hl2).mono ?_; rintro e w' ⟨rfl, rfl⟩))
        go_ret
        exact ⟨ret_bool HC.out.symm, rfl⟩
      · have HC := Lib.hid (show canB zs ys room = inB room 0 1000 by unfold canB; rw [hg, hs, HX.out, HY.out]; simp)
        cases hr : inB room 0 1000
        all_goals
          go_enter Try.func43, Try.ntmps43
          go_wp2_with (first | (go_at_call 37; refine (implAreSizes_any _ _ _ zs _ h hl).mono ?_; rintro e w' ⟨rfl, rfl⟩) | (go_at_call 52; refine (allWithin_any _ _ _ ys _ _ _ hy hl2).mono ?_; rintro e w' ⟨rfl, rfl⟩) | (go_at_call 38; refine (isRoom_any _ _).mono ?_; rintro e w' ⟨rfl, rfl⟩))
          go_ret
          exact ⟨ret_bool (by rw [HC.out, hr]), rfl⟩
    · have hb : ((m : Int) == (n : Int)) = false := by rw [beq_eq_false_iff_ne]; omega
      have HC := Lib.hid (show canB zs ys room = false by
        have : decide (ys.length = zs.length) = false := by rw [HX.out, HY.out]; simpa using he
        simp [canB, this])
      clear he
      go_enter Try.func43, Try.ntmps43
      go_wp2_with (go_at_call 37; refine (implAreSizes_any _ _ _ zs _ h hl).mono ?_; rintro e w' ⟨rfl, rfl⟩)
      go_ret
      exact ⟨ret_bool HC.out.symm, rfl⟩

set_option maxHeartbeats 1600000 in
theorem l04Can_any (A : Option Addr) (n c : Nat) (zs : List Int) (B : Option Addr) (m d : Nat) (ys : List Int) (room : Int) (w : World) (h : IntsAt w A n zs) (hy : IntsAt w B m ys) (hl : n ≤ 1048576) (hl2 : m ≤ 1048576) :
    Calls Try.prog 41 #[.slice A n c, .slice B m d, .int .i64 room] w fun e w' => e = .returned (.bool (canB zs ys room)) ∧ w = w' := by
  have HX := Lib.hid h.len
  have HY := Lib.hid hy.len
  cases hs : sizesB zs
  · have HC := Lib.hid (show canB zs ys room = false by simp [canB, hs])
    go_enter Try.func41, Try.ntmps41
    go_wp2_with (go_at_call 57; refine (l04Sizes_any _ _ _ zs _ h hl).mono ?_; rintro e w' ⟨rfl, rfl⟩)
    go_ret
    exact ⟨ret_bool HC.out.symm, rfl⟩
  · by_cases he : m = n
    · subst he
      have hself : ((m : Int) != (m : Int)) = false := by simp
      cases hr : inB room 0 1000
      · have HC := Lib.hid (show canB zs ys room = false by unfold canB; rw [hr]; simp)
        go_enter Try.func41, Try.ntmps41
        go_wp2_with (first | (go_at_call 57; refine (l04Sizes_any _ _ _ zs _ h hl).mono ?_; rintro e w' ⟨rfl, rfl⟩) | (go_at_call 56; refine (l00In_any _ _ _ _).mono ?_; rintro e w' ⟨rfl, rfl⟩))
        go_ret
        exact ⟨ret_bool HC.out.symm, rfl⟩
      · have HC := Lib.hid (show canB zs ys room = ys.all (fun g => inB g 0 1000) by unfold canB; rw [hr, hs, HX.out, HY.out]; simp)
        go_enter Try.func41, Try.ntmps41
        go_wp2_with (first | (go_at_call 57; refine (l04Sizes_any _ _ _ zs _ h hl).mono ?_; rintro e w' ⟨rfl, rfl⟩) | (go_at_call 56; refine (l00In_any _ _ _ _).mono ?_; rintro e w' ⟨rfl, rfl⟩))
        clear hs hr
        go_loop [7] (fun i => ∃ k : Nat, k ≤ m ∧ i = .int .i64 k ∧ Hid ((ys.take k).all (fun g => inB g 0 1000) = true)) (fun i => m - (intOf i).toNat)
        case atStart => exact ⟨0, Nat.zero_le _, rfl, Lib.hid (by simp)⟩
        case round =>
          obtain ⟨k, hk, rfl, hall⟩ := hrel
          by_cases hlt : k < m
          · obtain ⟨ad, rfl, _, hcell⟩ := hy.at_ hlt
            generalize hx : ys.getD k 0 = x at *
            have HXX := Lib.hid hx
            clear hx
            cases hb : inB x 0 1000
            · go_wp2_with (go_at_call 56; refine (l00In_any _ _ _ _).mono ?_; rintro e w' ⟨rfl, rfl⟩)
              go_ret
              exact ⟨ret_bool (by rw [HC.out, all_stop HY.out hlt HXX.out hb]), rfl⟩
            · go_wp2_with (go_at_call 56; refine (l00In_any _ _ _ _).mono ?_; rintro e w' ⟨rfl, rfl⟩)
              go_round
              case rel => exact ⟨k + 1, by omega, by go_num, Lib.hid (all_step HY.out hlt HXX.out hall.out hb)⟩
              case measure => simp [intOf]; omega
          · go_wp2
            go_ret
            exact ⟨ret_bool (by rw [HC.out, all_done HY.out hlt hall.out]), rfl⟩
    · have hb : ((m : Int) != (n : Int)) = true := by simp; omega
      have HC := Lib.hid (show canB zs ys room = false by
        have : decide (ys.length = zs.length) = false := by rw [HX.out, HY.out]; simpa using he
        simp [canB, this])
      clear he
      go_enter Try.func41, Try.ntmps41
      go_wp2_with (go_at_call 57; refine (l04Sizes_any _ _ _ zs _ h hl).mono ?_; rintro e w' ⟨rfl, rfl⟩)
      go_ret
      exact ⟨ret_bool HC.out.symm, rfl⟩
end Go.Proofs.Ythhkgeeomhhegaa
