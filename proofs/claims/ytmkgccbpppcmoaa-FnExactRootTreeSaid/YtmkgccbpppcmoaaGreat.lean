/- Greatest flows: the walks. -/
import Derived.Test.YtmkgccbpppcmoaaAlong
import Derived.Test.YtmkgccbpppcmoaaCutOf
namespace Go.Proofs.Ytmkgccbpppcmoaa
open Go.RowKit

theorem flowIn_bd {nodes : Int} {xs : List ArcR} {fl : List Int} {n : Nat} (hl : xs.length = n) (hv : validB nodes xs = true) (h : FlowIn xs fl n) : ∀ k, k < n → (0 ≤ fl.getD k 0 ∧ fl.getD k 0 ≤ 1000000) ∧ (0 ≤ (xs.getD k default).room ∧ (xs.getD k default).room ≤ 1000000) ∧ (-1000 ≤ (xs.getD k default).cost ∧ (xs.getD k default).cost ≤ 1000) := by
  subst hl
  obtain ⟨_, _, _, h5⟩ := valid_bd hv
  intro k hk
  have h1 := h.2 k hk
  have h2 := (h5 k hk).2.2.2.1
  exact ⟨⟨h1.1, by omega⟩, h2, (h5 k hk).2.2.2.2⟩
theorem valid_roomG {nodes : Int} {xs : List ArcR} {n : Nat} (hl : xs.length = n) (h : validB nodes xs = true) : 2 ≤ nodes ∧ nodes ≤ 16 ∧ n ≤ 48 ∧ ∀ k, k < n → 0 ≤ (xs.getD k default).room ∧ (xs.getD k default).room ≤ 1000000 := by
  subst hl
  obtain ⟨a, b, c, d⟩ := valid_bd h
  exact ⟨a, b, c, fun k hk => (d k hk).2.2.2.1⟩
theorem out_le {nodes : Int} {xs : List ArcR} {fl : List Int} {n : Nat} (hl : xs.length = n) (hv : validB nodes xs = true) (h : FlowIn xs fl n) (node : Int) : outTo xs fl node n ≤ 48000000 := by
  have hb := flowIn_bd hl hv h
  obtain ⟨_, _, h4, _⟩ := valid_bd hv
  have := (outTo_bd (xs := xs) node (fun k hk => (hb k hk).1) n (Nat.le_refl _)).2
  omega
theorem ret_LI {A : Option Addr} {n c : Nat} {i j : Int} (h : i = j) : Ending.returned (.tuple #[.slice A n c, .int .i64 i]) = .returned (.tuple #[.slice A n c, .int .i64 j]) := by rw [h]
theorem greatG_ge : (48000001 : Int) ≤ greatG := by unfold greatG; omega
theorem reachV_two {by_ : List Int} {t : Nat} (h : by_.getD t 0 = -2) : (by_.getD t 0 != -2) = false := by rw [h]; rfl


set_option maxRecDepth 100000 in
theorem l03Node_any (g : Nat) (nodes : Int) (A : Option Addr) (n c : Nat) (xs : List ArcR) (a : Int) (w : World) (hb : Blk w g 38 #[.int .i64 nodes, .slice A n c]) (h : ArcsAt w A n xs) (hn0 : n ≤ maxLen) :
    Calls Try.prog 61 #[.pointer (some ⟨g, 0, none⟩), .int .i64 a] w fun e w' => e = .returned (.bool (validB nodes xs && inB a 0 (nodes - 1))) ∧ Drew w w' := by
  cases hv : validB nodes xs
  · go_enter Try.func61, Try.ntmps61
    go_wp2_with fail
    refine (l03Is_any g nodes A n c xs _ hb h hn0).mono ?_
    rw [hv]
    rintro e w1 ⟨rfl, hd⟩
    go_wp2_with fail
    go_ret
    exact ⟨rfl, hd⟩
  · obtain ⟨n0, n1, _⟩ := valid_bd hv
    go_enter Try.func61, Try.ntmps61
    go_wp2_with fail
    refine (l03Is_any g nodes A n c xs _ hb h hn0).mono ?_
    rw [hv]
    rintro e w1 ⟨rfl, hd⟩
    have q0 := (hb.ext hd.below).cell 0
    go_wp2_with fail
    refine (l00In_any _ _ _ _).mono ?_
    rintro e w' ⟨rfl, rfl⟩
    go_wp2_with fail
    go_ret
    exact ⟨rfl, hd⟩
set_option maxRecDepth 100000 in
theorem l03Ends_any (g : Nat) (nodes : Int) (A : Option Addr) (n c : Nat) (xs : List ArcR) (a b : Int) (w : World) (hb : Blk w g 38 #[.int .i64 nodes, .slice A n c]) (h : ArcsAt w A n xs) (hn0 : n ≤ maxLen) :
    Calls Try.prog 43 #[.pointer (some ⟨g, 0, none⟩), .int .i64 a, .int .i64 b] w fun e w' => e = .returned (.bool (endsB nodes xs a b)) ∧ Drew w w' := by
  cases h1 : (validB nodes xs && inB a 0 (nodes - 1))
  · have HE := Lib.hid (show endsB nodes xs a b = false by unfold endsB; rw [← Bool.and_assoc, h1]; rfl)
    go_enter Try.func43, Try.ntmps43
    go_wp2_with fail
    refine (l03Node_any g nodes A n c xs a _ hb h hn0).mono ?_
    rw [h1]
    rintro e w1 ⟨rfl, hd⟩
    go_wp2_with fail
    go_ret
    exact ⟨ret_bool HE.out.symm, hd⟩
  · have hv : validB nodes xs = true := (Bool.and_eq_true _ _ ▸ h1).1
    cases h2 : inB b 0 (nodes - 1)
    · have h3 : (validB nodes xs && inB b 0 (nodes - 1)) = false := by rw [h2, Bool.and_false]
      have HE := Lib.hid (show endsB nodes xs a b = false by unfold endsB; rw [h2]; simp)
      clear h2 hv
      go_enter Try.func43, Try.ntmps43
      go_wp2_with fail
      refine (l03Node_any g nodes A n c xs a _ hb h hn0).mono ?_
      rw [h1]
      rintro e w1 ⟨rfl, hd⟩
      go_wp2_with fail
      refine (l03Node_any g nodes A n c xs b _ (hb.ext hd.below) (h.drewTo hd) hn0).mono ?_
      rw [h3]
      rintro e w2 ⟨rfl, hd2⟩
      go_wp2_with fail
      go_ret
      exact ⟨ret_bool HE.out.symm, hd.trans hd2⟩
    · have h3 : (validB nodes xs && inB b 0 (nodes - 1)) = true := by rw [h2, hv]; rfl
      have hd : (a != b) = decide (a ≠ b) := by rw [Bool.eq_iff_iff]; simp
      have HE := Lib.hid (show endsB nodes xs a b = (a != b) by unfold endsB; rw [← Bool.and_assoc, h1, h2, hd]; rfl)
      clear hd h2 hv
      go_enter Try.func43, Try.ntmps43
      go_wp2_with fail
      refine (l03Node_any g nodes A n c xs a _ hb h hn0).mono ?_
      rw [h1]
      rintro e w1 ⟨rfl, hd⟩
      go_wp2_with fail
      refine (l03Node_any g nodes A n c xs b _ (hb.ext hd.below) (h.drewTo hd) hn0).mono ?_
      rw [h3]
      rintro e w2 ⟨rfl, hd2⟩
      go_wp2_with fail
      go_ret
      exact ⟨ret_bool HE.out.symm, hd.trans hd2⟩
end Go.Proofs.Ytmkgccbpppcmoaa
