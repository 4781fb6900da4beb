/- ValidNet: the walks. -/
import Derived.Test.YtigaopfhjimpmaaDoorZNetLaw
namespace Go.Proofs.YtigaopfhjimpmaaDoor
open Go.RowKit

def arcOkB (nodes : Int) (a : ArcR) : Bool := inB a.fr 0 (nodes - 1) && (inB a.to_ 0 (nodes - 1) && (decide (a.fr ≠ a.to_) && (inB a.room 0 1000000 && inB a.cost (-1000) 1000)))
/-- what a valid net is -/
def validB (nodes : Int) (xs : List ArcR) : Bool := inB nodes 2 16 && (decide (xs.length ≤ 48) && xs.all (arcOkB nodes))

theorem allA_step {p : ArcR → Bool} {zs : List ArcR} {n k : Nat} {x : ArcR} (hl : zs.length = n) (hk : k < n) (hx : zs.getD k default = x) (hall : (zs.take k).all p = true) (hp : p x = true) : (zs.take (k+1)).all p = true := by
  rw [all_take_succ p zs k default (by omega), hall, hx, hp]; rfl
theorem allA_stop {p : ArcR → Bool} {zs : List ArcR} {n k : Nat} {x : ArcR} (hl : zs.length = n) (hk : k < n) (hx : zs.getD k default = x) (hp : p x = false) : zs.all p = false :=
  all_false_of p zs k default (by omega) (by rw [hx, hp])
theorem allA_done {p : ArcR → Bool} {zs : List ArcR} {n k : Nat} (hl : zs.length = n) (hk : ¬ k < n) (hall : (zs.take k).all p = true) : zs.all p = true := by
  rwa [List.take_of_length_le (by omega)] at hall

theorem l00In_q' (n lo hi : Int) (w : World) (m : Nat) :
    Calls Tryd.prog 44 #[.int .i64 n, .int .i64 lo, .int .i64 hi] (w.drewN m) fun e w'' => e = .returned (.bool (inB n lo hi)) ∧ ∃ q, w'' = w.drewN q := quiet_here (l00In_any n lo hi _)

set_option maxHeartbeats 1600000 in
theorem l03Is_any (g : Nat) (nodes : Int) (A : Option Addr) (n c : Nat) (xs : List ArcR) (w : World) (hb : Blk w g 31 #[.int .i64 nodes, .slice A n c]) (h : ArcsAt w A n xs) (hn0 : n ≤ maxLen) :
    Calls Tryd.prog 23 #[.pointer (some ⟨g, 0, none⟩)] w fun e w' => e = .returned (.bool (validB nodes xs)) ∧ Drew w w' := by
  have HX := Lib.hid h.len
  have hn : n ≤ 9223372036854775807 := hn0
  clear hn0
  have HB := Lib.hid hb
  have p0 : w.cell? ⟨g, 0, none⟩ = some (.int .i64 nodes) := hb.cell 0
  have p1 : w.cell? ⟨g, 1, none⟩ = some (.slice A n c) := hb.cell 1
  clear hb
  cases h1 : inB nodes 2 16
  · have HV := Lib.hid (show validB nodes xs = false by simp [validB, h1])
    go_enter Tryd.func23, Tryd.ntmps23
    go_wp2_with (go_at_call 44; refine (l00In_any _ _ _ _).mono ?_; rintro e w' ⟨rfl, rfl⟩)
    go_ret
    exact ⟨ret_bool HV.out.symm, Drew.refl _⟩
  · by_cases h2 : n ≤ 48
    · obtain ⟨b1, b2⟩ := inB_iff.1 h1
      have HV := Lib.hid (show validB nodes xs = xs.all (arcOkB nodes) by simp [validB, h1, HX.out, h2])
      go_enter Tryd.func23, Tryd.ntmps23
      go_wp2_with (go_at_call 44; refine (l00In_any _ _ _ _).mono ?_; rintro e w' ⟨rfl, rfl⟩)
      go_loopg [24] n (fun r i wr => ∃ (k : Nat), r = n - k ∧ k ≤ n ∧ i = .int .i64 k ∧ Drew w wr ∧ Hid ((xs.take k).all (arcOkB nodes) = true))
      case atStart => exact ⟨0, by omega, by omega, rfl, Drew.refl _, Lib.hid (by simp)⟩
      case round =>
        clear p0 p1
        obtain ⟨k, hr, hk, rfl, hd, hall⟩ := hrel
        have HR := Lib.hid hr
        clear hr
        have p0 : wr.cell? ⟨g, 0, none⟩ = some (.int .i64 nodes) := (HB.out.ext hd.below).cell 0
        have p1 : wr.cell? ⟨g, 1, none⟩ = some (.slice A n c) := (HB.out.ext hd.below).cell 1
        by_cases hlt : k < n
        · obtain ⟨ad, rfl, had, c0, c1, c2, c3⟩ := (h.drewTo hd).at_ hlt
          generalize gx : xs.getD k default = x at *
          have GX := Lib.hid gx
          clear gx
          obtain ⟨f, t, r, q⟩ := x
          cases i1 : inB f 0 (nodes - 1)
          · go_wp2
            go_quiet ((go_at_call 44; exact l00In_q' _ _ _ _ _))
            go_wp2
            go_ret
            exact ⟨ret_bool (by rw [HV.out, allA_stop HX.out hlt GX.out (by simp [arcOkB, i1])]), hd.step _⟩
          · cases i2 : inB t 0 (nodes - 1)
            · go_wp2
              go_quiet ((go_at_call 44; exact l00In_q' _ _ _ _ _))
              go_wp2
              go_ret
              exact ⟨ret_bool (by rw [HV.out, allA_stop HX.out hlt GX.out (by simp [arcOkB, i2])]), hd.step _⟩
            · by_cases i3 : f = t
              · have i3b : (f == t) = true := by simpa using i3
                have I3 := Lib.hid i3
                clear i3
                go_wp2
                go_quiet ((go_at_call 44; exact l00In_q' _ _ _ _ _))
                go_wp2
                go_ret
                exact ⟨ret_bool (by rw [HV.out, allA_stop HX.out hlt GX.out (by simp [arcOkB, I3.out])]), hd.step _⟩
              · have i3b : (f == t) = false := by simpa using i3
                have I3 := Lib.hid i3
                clear i3
                cases i4 : inB r 0 1000000
                · go_wp2
                  go_quiet ((go_at_call 44; exact l00In_q' _ _ _ _ _))
                  go_wp2
                  go_ret
                  exact ⟨ret_bool (by rw [HV.out, allA_stop HX.out hlt GX.out (by simp [arcOkB, i4])]), hd.step _⟩
                · cases i5 : inB q (-1000) 1000
                  · go_wp2
                    go_quiet ((go_at_call 44; exact l00In_q' _ _ _ _ _))
                    go_wp2
                    go_ret
                    exact ⟨ret_bool (by rw [HV.out, allA_stop HX.out hlt GX.out (by simp [arcOkB, i5])]), hd.step _⟩
                  · go_wp2
                    go_quiet ((go_at_call 44; exact l00In_q' _ _ _ _ _))
                    go_wp2
                    go_roundg (n - (k + 1))
                    case measure => rw [HR.out]; omega
                    case rel => exact ⟨k + 1, rfl, by omega, by go_num, hd.step _, Lib.hid (allA_step HX.out hlt GX.out hall.out (by simp [arcOkB, i1, i2, i4, i5, I3.out]))⟩
        · go_wp2
          go_ret
          exact ⟨ret_bool (by rw [HV.out, allA_done HX.out hlt hall.out]), hd⟩
    · have HV := Lib.hid (show validB nodes xs = false by
        have : (decide (xs.length ≤ 48)) = false := by rw [HX.out]; simpa using h2
        simp [validB, this])
      go_enter Tryd.func23, Tryd.ntmps23
      go_wp2_with (go_at_call 44; refine (l00In_any _ _ _ _).mono ?_; rintro e w' ⟨rfl, rfl⟩)
      go_ret
      exact ⟨ret_bool HV.out.symm, Drew.refl _⟩

end Go.Proofs.YtigaopfhjimpmaaDoor
