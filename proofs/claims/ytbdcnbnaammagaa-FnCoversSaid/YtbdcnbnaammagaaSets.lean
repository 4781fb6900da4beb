/- The walks of sets (AreSets). -/
import Derived.Test.YtbdcnbnaammagaaSizes
import Derived.Test.YtbdcnbnaammagaaOpen
import Derived.Test.YtbdcnbnaammagaaMark
namespace Go.Proofs.Ytbdcnbnaammagaa
open Go.RowKit

/-- what valid sets are -/
def setsB (n : Int) (zs : List Int) : Bool := (inB n 1 16 && (decide (1 ≤ zs.length) && decide (zs.length ≤ 16))) && zs.all fun x => inB x 0 (2 ^ n.toNat - 1)

theorem shl1 (n : Int) (h1 : 0 ≤ n) (h2 : n ≤ 62) : IntKind.i64.wrap (1 * 2 ^ min n.toNat 64) = 2 ^ n.toNat := by
  have e : min n.toNat 64 = n.toNat := by omega
  rw [e, Int.one_mul]
  have hp : (2 : Int) ^ n.toNat ≤ 2 ^ 62 := by
    have h := Nat.pow_le_pow_right (n := 2) (by omega) (show n.toNat ≤ 62 by omega)
    exact_mod_cast h
  have h0 : (0 : Int) < 2 ^ n.toNat := Int.pow_pos (by decide)
  exact IntWalk.i64_in _ (by constructor <;> omega)

theorem pow_bd (n : Int) (h1 : 0 ≤ n) (h2 : n ≤ 62) : (1 : Int) ≤ 2 ^ n.toNat ∧ (2 : Int) ^ n.toNat ≤ 4611686018427387904 := by
  have h := Nat.pow_le_pow_right (n := 2) (by omega) (show n.toNat ≤ 62 by omega)
  have h' : (2 : Int) ^ n.toNat ≤ 2 ^ 62 := by exact_mod_cast h
  have h0 : (0 : Int) < 2 ^ n.toNat := Int.pow_pos (by decide)
  constructor <;> omega

theorem setsB_no1 {n : Int} {zs : List Int} (h : inB n 1 16 = false) : setsB n zs = false := by simp [setsB, h]
theorem setsB_no2 {a : Int} {n : Nat} {zs : List Int} (hl : zs.length = n) (h : ¬ (1 ≤ n ∧ n ≤ 16)) : setsB a zs = false := by
  have : (decide (1 ≤ zs.length) && decide (zs.length ≤ 16)) = false := by
    rw [hl, Bool.and_eq_false_iff]
    by_cases h1 : 1 ≤ n
    · exact .inr (by simp; omega)
    · exact .inl (by simp; omega)
  simp only [setsB, this, Bool.and_false, Bool.false_and]
theorem setsB_yes {a : Int} {n : Nat} {zs : List Int} (hl : zs.length = n) (h : inB a 1 16 = true) (hn : 1 ≤ n ∧ n ≤ 16) : setsB a zs = zs.all fun x => inB x 0 (2 ^ a.toNat - 1) := by
  have : (decide (1 ≤ zs.length) && decide (zs.length ≤ 16)) = true := by simp [hl, hn]
  simp only [setsB, this, h, Bool.true_and, Bool.and_true]

set_option maxHeartbeats 400000 in
theorem l04Sets_any (a : Int) (A : Option Addr) (n c : Nat) (zs : List Int) (w : World) (h : IntsAt w A n zs) (hl : n ≤ 1048576) :
    Calls Try.prog 32 #[.int .i64 a, .slice A n c] w fun e w' => e = .returned (.bool (setsB a zs)) ∧ w = w' := by
  have HL := Lib.hid h.len
  cases hb : inB a 1 16
  · have HB := Lib.hid hb
    go_enter Try.func32, Try.ntmps32
    go_wp2_with (go_at_call 37; refine (l00In_any _ _ _ _).mono ?_; rintro e w' ⟨rfl, rfl⟩)
    go_ret
    exact ⟨ret_bool (setsB_no1 HB.out).symm, rfl⟩
  · have HB := Lib.hid hb
    obtain ⟨h1, h2⟩ := inB_iff.1 hb
    by_cases hn : 1 ≤ n ∧ n ≤ 16
    · have HY := Lib.hid (setsB_yes h.len hb hn)
      obtain ⟨hn1, hn2⟩ := hn
      have hpw := pow_bd a (by omega) (by omega)
      go_enter Try.func32, Try.ntmps32
      go_wp2_with (go_at_call 37; refine (l00In_any _ _ _ _).mono ?_; rintro e w' ⟨rfl, rfl⟩)
      go_loop [5] (fun i => ∃ k : Nat, k ≤ n ∧ i = .int .i64 k ∧ Hid ((zs.take k).all (fun x => inB x 0 (2 ^ a.toNat - 1)) = true)) (fun i => n - (intOf i).toNat)
      case atStart => exact ⟨0, Nat.zero_le _, rfl, Lib.hid (by simp)⟩
      case round =>
        obtain ⟨k, hk, rfl, hall⟩ := hrel
        by_cases hlt : k < n
        · obtain ⟨ad, rfl, _, hcell⟩ := h.at_ hlt
          generalize hx : zs.getD k 0 = x at *
          have HX := Lib.hid hx
          clear hx
          cases hc : inB x 0 (2 ^ a.toNat - 1)
          · go_wp2_with (go_at_call 37; refine (l00In_any _ _ _ _).mono ?_; rintro e w' ⟨rfl, rfl⟩)
            go_ret
            exact ⟨ret_bool (by rw [HY.out, all_stop HL.out hlt HX.out hc]), rfl⟩
          · go_wp2_with (go_at_call 37; refine (l00In_any _ _ _ _).mono ?_; rintro e w' ⟨rfl, rfl⟩)
            go_round
            case rel => exact ⟨k + 1, by omega, by go_num, Lib.hid (all_step HL.out hlt HX.out hall.out hc)⟩
            case measure => simp [intOf]; omega
        · go_wp2
          go_ret
          exact ⟨ret_bool (by rw [HY.out, all_done HL.out hlt hall.out]), rfl⟩
    · have HN := Lib.hid (setsB_no2 (a := a) h.len hn)
      by_cases hn1 : 1 ≤ n
      · have hn2 : 16 < n := by omega
        clear hn
        go_enter Try.func32, Try.ntmps32
        go_wp2_with (go_at_call 37; refine (l00In_any _ _ _ _).mono ?_; rintro e w' ⟨rfl, rfl⟩)
        go_ret
        exact ⟨ret_bool HN.out.symm, rfl⟩
      · have hn2 : n = 0 := by omega
        subst hn2
        clear hn hn1
        go_enter Try.func32, Try.ntmps32
        go_wp2_with (go_at_call 37; refine (l00In_any _ _ _ _).mono ?_; rintro e w' ⟨rfl, rfl⟩)
        go_ret
        exact ⟨ret_bool HN.out.symm, rfl⟩

theorem specAreSets_any (a : Int) (A : Option Addr) (n c : Nat) (zs : List Int) (w : World) (h : IntsAt w A n zs) (hl : n ≤ 1048576) :
    Calls Try.prog 16 #[.int .i64 a, .slice A n c] w fun e w' => e = .returned (.bool (setsB a zs)) ∧ w = w' := by
  go_enter Try.func16, Try.ntmps16
  go_wp2_with (go_at_call 32; refine (l04Sets_any _ _ _ _ zs _ h hl).mono ?_; rintro e w' ⟨rfl, rfl⟩)
  go_ret
  exact ⟨rfl, rfl⟩

theorem implAreSets_any (a : Int) (A : Option Addr) (n c : Nat) (zs : List Int) (w : World) (h : IntsAt w A n zs) (hl : n ≤ 1048576) :
    Calls Try.prog 11 #[.int .i64 a, .slice A n c] w fun e w' => e = .returned (.bool (setsB a zs)) ∧ w = w' := by
  have HL := Lib.hid h.len
  cases hb : inB a 1 16
  · have HB := Lib.hid hb
    go_enter Try.func11, Try.ntmps11
    go_wp2_with (go_at_call 26; refine (within_any _ _ _ _).mono ?_; rintro e w' ⟨rfl, rfl⟩)
    go_ret
    exact ⟨ret_bool (setsB_no1 HB.out).symm, rfl⟩
  · obtain ⟨h1, h2⟩ := inB_iff.1 hb
    cases hc : inB n 1 16
    · have HN := Lib.hid (setsB_no2 (a := a) h.len (by have := inB_not.1 hc; omega))
      go_enter Try.func11, Try.ntmps11
      go_wp2_with (first | (go_at_call 27; refine (size_any _ _).mono ?_; rintro e w' ⟨rfl, rfl⟩) | (go_at_call 26; refine (within_any _ _ _ _).mono ?_; rintro e w' ⟨rfl, rfl⟩))
      go_ret
      exact ⟨ret_bool HN.out.symm, rfl⟩
    · have HY := Lib.hid (setsB_yes h.len hb (by have := inB_iff.1 hc; omega))
      have hpw := pow_bd a (by omega) (by omega)
      go_enter Try.func11, Try.ntmps11
      go_wp2_with (first | (go_at_call 27; refine (size_any _ _).mono ?_; rintro e w' ⟨rfl, rfl⟩) | (go_at_call 26; refine (within_any _ _ _ _).mono ?_; rintro e w' ⟨rfl, rfl⟩) | (go_at_call 28; refine (allWithin_any _ _ _ zs _ _ _ h hl).mono ?_; rintro e w' ⟨rfl, rfl⟩))
      go_ret
      exact ⟨ret_bool HY.out.symm, rfl⟩
theorem specAreSets_r (a : Int) (A : Option Addr) (n c : Nat) (zs : List Int) (w : World) (h : IntsAt w A n zs) (hl : n ≤ 1048576) :
    Calls Try.prog 16 #[.int .i64 a, .slice A n c] w (RetV (.bool (setsB a zs)) w) := pure_ret (specAreSets_any a A n c zs w h hl)
theorem implAreSets_r (a : Int) (A : Option Addr) (n c : Nat) (zs : List Int) (w : World) (h : IntsAt w A n zs) (hl : n ≤ 1048576) :
    Calls Try.prog 11 #[.int .i64 a, .slice A n c] w (RetV (.bool (setsB a zs)) w) := pure_ret (implAreSets_any a A n c zs w h hl)
def natL (zs : List Int) : List Nat := zs.map Int.toNat
theorem natL_len (zs : List Int) : (natL zs).length = zs.length := by simp [natL]
theorem natL_get {zs : List Int} {k : Nat} (hk : k < zs.length) : (natL zs).getD k 0 = (zs.getD k 0).toNat := by simp [natL, List.getD, List.getElem?_eq_getElem hk]

theorem setsB_bd {a : Int} {zs : List Int} (h : setsB a zs = true) : 1 ≤ a ∧ a ≤ 16 ∧ 1 ≤ zs.length ∧ zs.length ≤ 16 ∧ ∀ k, k < zs.length → 0 ≤ zs.getD k 0 ∧ zs.getD k 0 ≤ 65535 ∧ zs.getD k 0 ≤ 2 ^ a.toNat - 1 := by
  simp only [setsB, Bool.and_eq_true, decide_eq_true_eq, List.all_eq_true] at h
  obtain ⟨⟨h0, h1, h2⟩, h3⟩ := h
  obtain ⟨ha, hb⟩ := inB_iff.1 h0
  refine ⟨ha, hb, h1, h2, fun k hk => ?_⟩
  have := inB_iff.1 (h3 (zs.getD k 0) (by simp [List.getD, List.getElem?_eq_getElem hk]))
  have hp := Nat.pow_le_pow_right (n := 2) (by omega) (show a.toNat ≤ 16 by omega)
  have hp' : (2 : Int) ^ a.toNat ≤ 2 ^ 16 := by exact_mod_cast hp
  omega

theorem pow_nat (a : Int) : ((2 ^ a.toNat - 1 : Nat) : Int) = 2 ^ a.toNat - 1 := by
  have := Nat.two_pow_pos a.toNat
  have e : ((2 ^ a.toNat : Nat) : Int) = 2 ^ a.toNat := by exact_mod_cast rfl
  omega
end Go.Proofs.Ytbdcnbnaammagaa
