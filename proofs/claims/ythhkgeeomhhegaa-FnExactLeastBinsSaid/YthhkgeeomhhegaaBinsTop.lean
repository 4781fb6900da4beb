/- LeastBins of the program: the contract. -/
import Derived.Test.YthhkgeeomhhegaaBinsS
namespace Go.Proofs.Ythhkgeeomhhegaa
open Go.RowKit

set_option maxRecDepth 100000 in
set_option maxHeartbeats 3200000 in
theorem implLeastBins_r (A : Option Addr) (n c : Nat) (zs : List Int) (room : Int) (w : World) (h : IntsAt w A n zs) (hl : n ≤ 1048576) :
    Calls Try.prog 15 #[.slice A n c, .int .i64 room] w (RetV (.tuple #[.int .i64 (leastV zs room), .bool (leastB zs room)]) w) := by
  have HL := Lib.hid h.len
  cases hs : sizesB zs
  · have HB := Lib.hid (show leastB zs room = false by unfold leastB fitB; rw [hs]; rfl)
    go_enter Try.func15, Try.ntmps15
    go_wp2_with (go_at_call 37; refine (implAreSizes_any _ _ _ zs _ h hl).mono ?_; rw [hs]; rintro e w1 ⟨rfl, rfl⟩)
    go_ret2
    exact ⟨ret_IB (leastV_no HB.out).symm HB.out.symm, Below.refl _ _⟩
  · obtain ⟨n1, n2, hz⟩ := sizesB_bd hs
    rw [HL.out] at n1 n2 hz
    have HZ := Lib.hid hz
    clear hz
    by_cases hn : n ≤ 10
    · cases hi : inB room 0 1000
      · have HB := Lib.hid (show leastB zs room = false by unfold leastB fitB; rw [hs, hi]; rfl)
        go_enter Try.func15, Try.ntmps15
        go_wp2_with (first | (go_at_call 37; refine (implAreSizes_any _ _ _ zs _ h hl).mono ?_; rw [hs]; rintro e w1 ⟨rfl, rfl⟩) | (go_at_call 38; refine (isRoom_any _ _).mono ?_; rw [hi]; rintro e w1 ⟨rfl, rfl⟩))
        go_ret2
        exact ⟨ret_IB (leastV_no HB.out).symm HB.out.symm, Below.refl _ _⟩
      · by_cases hmx : room < maxTo zs n
        · have HB := Lib.hid (show leastB zs room = false by
            cases hf : fitB zs room
            · unfold leastB; rw [hf]; rfl
            · have h3 := (maxTo_le (zs := zs) (r := room) n n1).2 (fun j hj => (fitB_iff.1 hf).2.2 j (by rw [HL.out]; exact hj))
              omega)
          go_enter Try.func15, Try.ntmps15
          go_wp2_with (first | (go_at_call 37; refine (implAreSizes_any _ _ _ zs _ h hl).mono ?_; rw [hs]; rintro e w1 ⟨rfl, rfl⟩) | (go_at_call 38; refine (isRoom_any _ _).mono ?_; rw [hi]; rintro e w1 ⟨rfl, rfl⟩) | (go_at_call 39; refine (max_any _ _ _ zs _ h n1 hl).mono ?_; rintro e w1 ⟨rfl, rfl⟩))
          go_ret2
          exact ⟨ret_IB (leastV_no HB.out).symm HB.out.symm, Below.refl _ _⟩
        · have hroom := inB_iff.1 hi
          have hle := (maxTo_le (zs := zs) (r := room) n n1).1 (by omega)
          have HF := Lib.hid (show fitB zs room = true from fitB_iff.2 ⟨hs, hroom, fun j hj => hle j (by rw [← HL.out]; exact hj)⟩)
          have HB := Lib.hid (show leastB zs room = true by unfold leastB; rw [HF.out, HL.out, decide_eq_true hn]; rfl)
          have HV := Lib.hid (show leastV zs room = fwF zs room n [] by rw [leastV_yes HB.out, HL.out])
          have HFW := Lib.hid (fun (W : World) (h1 : IntsAt W A n zs) => fewest_any A n c zs room HL.out hn hroom (fun k hk => ⟨by have := HZ.out k hk; omega, hle k hk⟩) n (Nat.le_refl n) none 0 0 [] W h1 IntsAt.nil_ (fun j hj => by simp at hj) (by omega))
          have HFW := Lib.hid (show ∀ (W : World), IntsAt W A n zs → Calls Try.prog 40 #[.slice A n c, .slice none 0 0, .int .i64 room, .int .i64 0] W (RetV (.int .i64 (fwF zs room n [])) W) from fun W h1 => by
            have := HFW.out W h1
            rw [Nat.sub_self] at this
            exact this)
          clear hle
          go_enter Try.func15, Try.ntmps15
          go_wp2_with (first | (go_at_call 37; refine (implAreSizes_any _ _ _ zs _ h hl).mono ?_; rw [hs]; rintro e w1 ⟨rfl, rfl⟩) | (go_at_call 38; refine (isRoom_any _ _).mono ?_; rw [hi]; rintro e w1 ⟨rfl, rfl⟩) | (go_at_call 39; refine (max_any _ _ _ zs _ h n1 hl).mono ?_; rintro e w1 ⟨rfl, rfl⟩))
          refine (HFW.out _ h).mono ?_
          rintro e w1 ⟨rfl, b1⟩
          go_wp2_with fail
          go_ret2
          exact ⟨ret_IB HV.out.symm HB.out.symm, b1⟩
    · have HB := Lib.hid (show leastB zs room = false by unfold leastB; rw [HL.out, decide_eq_false hn, Bool.and_false])
      go_enter Try.func15, Try.ntmps15
      go_wp2_with (go_at_call 37; refine (implAreSizes_any _ _ _ zs _ h hl).mono ?_; rw [hs]; rintro e w1 ⟨rfl, rfl⟩)
      go_ret2
      exact ⟨ret_IB (leastV_no HB.out).symm HB.out.symm, Below.refl _ _⟩
end Go.Proofs.Ythhkgeeomhhegaa
