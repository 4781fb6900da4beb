/- MatchSides of both: the outer functions. -/
import Derived.Test.YtfoelpmglmaamaaMatch2
namespace Go.Proofs.Ytfoelpmglmaamaa
open Go.RowKit

def matS (l r : Int) (ps : List Int) : MatS := matTo ps (ps.length / 2) l.toNat r.toNat l.toNat
def matV (l r : Int) (ps : List Int) : List Int := if sidesB l r ps = true then (matS l r ps).L else []
theorem matV_no {l r : Int} {ps : List Int} (h : sidesB l r ps = false) : matV l r ps = [] := by unfold matV; rw [if_neg (by rw [h]; decide)]
theorem matV_yes {l r : Int} {ps : List Int} (h : sidesB l r ps = true) : matV l r ps = (matS l r ps).L := by unfold matV; rw [if_pos h]
theorem matS_eq {L R m : Nat} {ps : List Int} (h : ps.length = 2 * m) : matS L R ps = matTo ps m L R L := by
  unfold matS
  rw [h, show 2 * m / 2 = m by omega, Int.toNat_natCast, Int.toNat_natCast]
theorem matV_len (l r : Int) (ps : List Int) : (matV l r ps).length ≤ 1048576 := by
  cases h : sidesB l r ps
  · rw [matV_no h]; simp
  · rw [matV_yes h]
    obtain ⟨L, R, m, rfl, rfl, l1, l2, r1, r2, hm, hm2, hps⟩ := sides_bd h
    rw [matS_eq hm, (matTo_ok hps L (Nat.le_refl _)).1.ll]
    omega
theorem ret_LBm {A : Option Addr} {n c : Nat} {a b : Bool} (h : a = b) : Ending.returned (.tuple #[.slice A n c, .bool a]) = .returned (.tuple #[.slice A n c, .bool b]) := by rw [h]

theorem implMatchSides_r (l r : Int) (A : Option Addr) (n c : Nat) (ps : List Int) (w : World) (h : IntsAt w A n ps) (hn : n ≤ 1048576) :
    Calls Try.prog 12 #[.int .i64 l, .int .i64 r, .slice A n c] w (RetLB 2 (matV l r ps) (sidesB l r ps) w) := by
  have HL := Lib.hid h.len
  cases hs : sidesB l r ps
  · have HV := Lib.hid (matV_no hs)
    go_enter Try.func12, Try.ntmps12
    go_wp2_with fail
    refine (areSides_any l r A n c ps _ h hn).mono ?_
    rw [hs]
    rintro e w1 ⟨rfl, rfl⟩
    go_wp2_with fail
    go_ret2
    exact ⟨none, 0, 0, rfl, by rw [HV.out]; exact OwnI.nil_ _ _ _, Below.refl _ _⟩
  · have hv := matV_yes hs
    obtain ⟨L, R, m, rfl, rfl, l1, l2, r1, r2, hm, hm2, hps⟩ := sides_bd hs
    rw [matS_eq hm] at hv
    have HV := Lib.hid hv
    have HM := Lib.hid (show n = 2 * m by rw [← HL.out]; exact hm)
    have HPS := Lib.hid hps
    clear hv hm hps
    go_enter Try.func12, Try.ntmps12
    go_wp2_with fail
    refine (areSides_any L R A n c ps _ h hn).mono ?_
    rw [hs]
    rintro e w1 ⟨rfl, rfl⟩
    clear hs
    go_wp2_with fail
    refine (matched_any L R A n c m ps _ h HM.out hm2 ⟨l1, l2⟩ ⟨r1, r2⟩ HPS.out).mono ?_
    rintro e w2 ⟨gL, gR, rfl, oL, oR, hne, b2⟩
    go_wp2_with fail
    go_ret2
    exact ⟨_, _, _, rfl, by rw [HV.out]; exact oL, b2⟩
theorem specMatchSides_r (l r : Int) (A : Option Addr) (n c : Nat) (ps : List Int) (w : World) (h : IntsAt w A n ps) (hn : n ≤ 1048576) :
    Calls Try.prog 20 #[.int .i64 l, .int .i64 r, .slice A n c] w (RetLB 2 (matV l r ps) (sidesB l r ps) w) := by
  have HL := Lib.hid h.len
  cases hs : sidesB l r ps
  · have HV := Lib.hid (matV_no hs)
    go_enter Try.func20, Try.ntmps20
    go_wp2_with fail
    refine (l03Sides_any l r A n c ps _ h hn).mono ?_
    rw [hs]
    rintro e w1 ⟨rfl, rfl⟩
    go_wp2_with fail
    go_ret2
    exact ⟨none, 0, 0, rfl, by rw [HV.out]; exact OwnI.nil_ _ _ _, Below.refl _ _⟩
  · have hv := matV_yes hs
    obtain ⟨L, R, m, rfl, rfl, l1, l2, r1, r2, hm, hm2, hps⟩ := sides_bd hs
    rw [matS_eq hm] at hv
    have HV := Lib.hid hv
    have HM := Lib.hid (show n = 2 * m by rw [← HL.out]; exact hm)
    have HPS := Lib.hid hps
    clear hv hm hps
    go_enter Try.func20, Try.ntmps20
    go_wp2_with fail
    refine (l03Sides_any L R A n c ps _ h hn).mono ?_
    rw [hs]
    rintro e w1 ⟨rfl, rfl⟩
    clear hs
    go_wp2_with fail
    refine (l03Match_any L R A n c m ps _ h HM.out hm2 ⟨l1, l2⟩ ⟨r1, r2⟩ HPS.out).mono ?_
    rintro e w2 ⟨gL, cL, gR, cR, rfl, oL, oR, hne, b2⟩
    go_wp2_with fail
    go_ret2
    exact ⟨_, _, _, rfl, by rw [HV.out]; exact oL, b2⟩
end Go.Proofs.Ytfoelpmglmaamaa
