/- The walks of sizes and sets. -/
import Derived.Test.YthhkgeeomhhegaaLaw
namespace Go.Proofs.Ythhkgeeomhhegaa
open Go.RowKit

/-- what valid sizes are -/
def sizesB (zs : List Int) : Bool := (decide (1 ≤ zs.length) && decide (zs.length ≤ 16)) && zs.all fun n => inB n 1 1000

theorem all_step {p : Int → Bool} {zs : List Int} {n k : Nat} {x : Int} (hl : zs.length = n) (hk : k < n) (hx : zs.getD k 0 = x) (hall : (zs.take k).all p = true) (hp : p x = true) : (zs.take (k+1)).all p = true := by
  rw [all_take_succ p zs k 0 (by omega), hall, hx, hp]; rfl
theorem all_stop {p : Int → Bool} {zs : List Int} {n k : Nat} {x : Int} (hl : zs.length = n) (hk : k < n) (hx : zs.getD k 0 = x) (hp : p x = false) : zs.all p = false :=
  all_false_of p zs k 0 (by omega) (by rw [hx, hp])
theorem all_done {p : Int → Bool} {zs : List Int} {n k : Nat} (hl : zs.length = n) (hk : ¬ k < n) (hall : (zs.take k).all p = true) : zs.all p = true := by
  rwa [List.take_of_length_le (by omega)] at hall

set_option maxHeartbeats 400000 in
theorem l04Sizes_any (A : Option Addr) (n c : Nat) (zs : List Int) (w : World) (h : IntsAt w A n zs) (hl : n ≤ 1048576) :
    Calls Try.prog 57 #[.slice A n c] w fun e w' => e = .returned (.bool (sizesB zs)) ∧ w = w' := by
  have HL := Lib.hid h.len
  go_enter Try.func57, Try.ntmps57
  go_wp2
  go_loop [3] (fun i => ∃ k : Nat, k ≤ n ∧ i = .int .i64 k ∧ Hid ((zs.take k).all (fun n => inB n 1 1000) = true)) (fun i => n - (intOf i).toNat)
  case atStart => exact ⟨0, Nat.zero_le _, rfl, Lib.hid (by simp)⟩
  case round =>
    obtain ⟨k, hk, rfl, hall⟩ := hrel
    by_cases hlt : k < n
    · obtain ⟨ad, rfl, _, hcell⟩ := h.at_ hlt
      generalize hx : zs.getD k 0 = x at *
      have HX := Lib.hid hx
      clear hx
      cases hb : inB x 1 1000
      · go_wp2_with (go_at_call 56; refine (l00In_any _ _ _ _).mono ?_; rintro e w' ⟨rfl, rfl⟩)
        go_ret
        exact ⟨ret_bool (by rw [sizesB, all_stop HL.out hlt HX.out hb]; simp), rfl⟩
      · go_wp2_with (go_at_call 56; refine (l00In_any _ _ _ _).mono ?_; rintro e w' ⟨rfl, rfl⟩)
        go_round
        case rel => exact ⟨k + 1, by omega, by go_num, Lib.hid (all_step HL.out hlt HX.out hall.out hb)⟩
        case measure => simp [intOf]; omega
    · have hd := all_done HL.out hlt hall.out
      have HD := Lib.hid hd
      clear hd
      by_cases h1 : 1 ≤ n
      · by_cases h2 : n ≤ 16
        · go_wp2
          go_ret
          exact ⟨ret_bool (by rw [sizesB, HD.out, HL.out]; simp [h1, h2]; try omega), rfl⟩
        · go_wp2
          go_ret
          exact ⟨ret_bool (by rw [sizesB, HD.out, HL.out]; simp [h1, h2]; try omega), rfl⟩
      · go_wp2
        go_ret
        exact ⟨ret_bool (by rw [sizesB, HD.out, HL.out]; simp [h1]), rfl⟩

theorem implAreSizes_any (A : Option Addr) (n c : Nat) (zs : List Int) (w : World) (h : IntsAt w A n zs) (hl : n ≤ 1048576) :
    Calls Try.prog 37 #[.slice A n c] w fun e w' => e = .returned (.bool (sizesB zs)) ∧ w = w' := by
  have HL := Lib.hid h.len
  have hz : sizesB zs = (inB n 1 16 && zs.all fun n => inB n 1 1000) := by
    rw [sizesB, h.len]
    congr 1
    unfold inB
    congr 1 <;> rw [decide_eq_decide] <;> omega
  have HZ := Lib.hid hz
  clear hz
  cases hb : inB n 1 16
  all_goals
    go_enter Try.func37, Try.ntmps37
    go_wp2_with (first | (go_at_call 48; refine (size_any _ _).mono ?_; rintro e w' ⟨rfl, rfl⟩) | (go_at_call 51; refine (within_any _ _ _ _).mono ?_; rintro e w' ⟨rfl, rfl⟩) | (go_at_call 52; refine (allWithin_any _ _ _ zs _ _ _ h hl).mono ?_; rintro e w' ⟨rfl, rfl⟩))
    go_ret
    exact ⟨ret_bool (by rw [HZ.out, hb]; rfl), rfl⟩

theorem sizesB_bd {zs : List Int} (h : sizesB zs = true) : 1 ≤ zs.length ∧ zs.length ≤ 16 ∧ ∀ k, k < zs.length → 1 ≤ zs.getD k 0 ∧ zs.getD k 0 ≤ 1000 := by
  simp only [sizesB, Bool.and_eq_true, decide_eq_true_eq, List.all_eq_true] at h
  obtain ⟨⟨h1, h2⟩, h3⟩ := h
  refine ⟨h1, h2, fun k hk => ?_⟩
  have := h3 (zs.getD k 0) (by simp [List.getD, List.getElem?_eq_getElem hk])
  exact inB_iff.1 this



theorem isRoom_any (n : Int) (w : World) :
    Calls Try.prog 38 #[.int .i64 n] w fun e w' => e = .returned (.bool (inB n 0 1000)) ∧ w = w' := by
  go_enter Try.func38, Try.ntmps38
  go_wp2_with (go_at_call 51; refine (within_any _ _ _ _).mono ?_; rintro e w' ⟨rfl, rfl⟩)
  go_ret
  exact ⟨rfl, rfl⟩
end Go.Proofs.Ythhkgeeomhhegaa
