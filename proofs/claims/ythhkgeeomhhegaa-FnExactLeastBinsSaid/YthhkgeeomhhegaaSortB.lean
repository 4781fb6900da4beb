/- The closure of FirstBins that compares sizes; the greatest of a list. -/
import Derived.Test.YthhkgeeomhhegaaSort
import Derived.Test.YthhkgeeomhhegaaFirstPlain
namespace Go.Proofs.Ythhkgeeomhhegaa
open Go.RowKit

def cvF (zs : List Int) (a b : Int) : Int := cmpI (zs.getD b.toNat 0) (zs.getD a.toNat 0)
set_option maxRecDepth 100000 in
set_option maxHeartbeats 1600000 in
theorem byF_any (A : Option Addr) (n c : Nat) (zs : List Int) (gS a b : Nat) (w : World) (h : IntsAt w A n zs) (ha : a < n) (hb : b < n)
    (k2 : Blk w gS 22 #[.slice A n c]) :
    Calls Try.prog 46 #[.int .i64 a, .int .i64 b, .pointer (some ⟨gS, 0, none⟩)] w fun e w' => e = .returned (.int .i64 (cvF zs a b)) ∧ Drew w w' := by
  have HV := Lib.hid (show cvF zs a b = cmpI (zs.getD b 0) (zs.getD a 0) from rfl)
  have p2 := (k2.cell 0).trans (show _ = some (Value.slice A n c) from rfl)
  obtain ⟨ad, rfl, _, c1⟩ := h.at_ ha
  have c3 := ints_cell h hb
  clear k2 h
  generalize zs.getD a 0 = x1 at *
  generalize zs.getD b 0 = x2 at *
  have ha' : (a : Int) < (n : Int) := by omega
  have hb' : (b : Int) < (n : Int) := by omega
  go_enter Try.func46, Try.ntmps46
  go_wp2_with fail
  go_quiet ((go_at_call 47; exact compare_q _ _ _ _))
  go_wp2
  go_ret
  exact ⟨ret_int HV.out.symm, ⟨_, rfl⟩⟩

set_option maxRecDepth 100000 in
set_option maxHeartbeats 1600000 in
theorem max_any (A : Option Addr) (n c : Nat) (zs : List Int) (w : World) (h : IntsAt w A n zs) (hn1 : 1 ≤ n) (hl : n ≤ 1048576) :
    Calls Try.prog 39 #[.slice A n c] w fun e w' => e = .returned (.int .i64 (maxTo zs n)) ∧ w = w' := by
  obtain ⟨ad, rfl, _, c0⟩ := h.at_ (k := 0) (by omega)
  have c00 : w.cell? ad = some (.int .i64 (zs.getD 0 0)) := by have := c0; unfold Addr.add at this; exact this
  have H1 := Lib.hid (show zs.getD 0 0 = maxTo zs 1 by unfold maxTo maxTo; omega)
  generalize zs.getD 0 0 = x0 at *
  have h0 : ¬ (n : Int) < 1 := by omega
  have h1 : (0 : Int) < (n : Int) := by omega
  go_enter Try.func39, Try.ntmps39
  go_wp2_with fail
  go_loopg [3, 4] (n - 1) (fun r mv iv wi => ∃ (k : Nat), r = n - k ∧ 1 ≤ k ∧ k ≤ n ∧ mv = .int .i64 (maxTo zs k) ∧ iv = .int .i64 k ∧ w = wi)
  case atStart => exact ⟨1, rfl, Nat.le_refl _, hn1, by rw [← H1.out], rfl, rfl⟩
  case round =>
    obtain ⟨k, hr, hk1, hk, rfl, rfl, hw⟩ := hrel
    have HR := Lib.hid hr
    clear hr
    subst hw
    by_cases hlk : k < n
    · have hlk' : (k : Int) < (n : Int) := by omega
      have ck := ints_cell h hlk
      have HS := Lib.hid (show maxTo zs (k + 1) = max (maxTo zs k) (zs.getD k 0) from rfl)
      generalize zs.getD k 0 = x at *
      generalize maxTo zs k = m at *
      by_cases hlt : m < x
      · have HV := Lib.hid (show max m x = x by omega)
        go_wp2
        all_goals
          first
            | omega
            | (go_roundg (n - (k + 1))
               case measure => rw [HR.out]; omega
               case rel => exact ⟨k + 1, rfl, by omega, by omega, by rw [HS.out, HV.out], by go_num, rfl⟩)
      · have HV := Lib.hid (show max m x = m by omega)
        go_wp2
        all_goals
          first
            | omega
            | (go_roundg (n - (k + 1))
               case measure => rw [HR.out]; omega
               case rel => exact ⟨k + 1, rfl, by omega, by omega, by rw [HS.out, HV.out], by go_num, rfl⟩)
    · have e : n = k := by omega
      subst e
      go_wp2
      go_ret
      exact ⟨rfl, rfl⟩
end Go.Proofs.Ythhkgeeomhhegaa
