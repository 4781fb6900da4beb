/- ValidNet of the program: the walk. -/
import Derived.Test.YtigaopfhjimpmaaDoorZValid
namespace Go.Proofs.YtigaopfhjimpmaaDoor
open Go.RowKit

theorem isNode_any (nodes node : Int) (V : Value) (w : World) (h1 : 0 ≤ nodes) (h2 : nodes ≤ 4294967296) :
    Calls Tryd.prog 40 #[.agg #[.int .i64 nodes, V], .int .i64 node] w (RetV (.bool (inB node 0 (nodes - 1))) w) := by
  go_enter Tryd.func40, Tryd.ntmps40
  go_wp2_with (go_at_call 46; refine (within_any _ _ _ _).mono ?_; rintro e w' ⟨rfl, rfl⟩)
  go_ret
  exact ⟨rfl, (Below.refl _ _).alloc (Nat.le_refl _) _⟩
set_option maxHeartbeats 3200000 in
theorem implValidNet_r (nodes : Int) (A : Option Addr) (n c : Nat) (xs : List ArcR) (w : World) (h : ArcsAt w A n xs) (hn0 : n ≤ maxLen) :
    Calls Tryd.prog 27 #[.agg #[.int .i64 nodes, .slice A n c]] w (RetV (.bool (validB nodes xs)) w) := by
  have HX := Lib.hid h.len
  have hn : n ≤ 9223372036854775807 := hn0
  clear hn0
  have hb := Blk.new w 31 #[.int .i64 nodes, .slice A n c]
  have hW : Below w.heap.size w (w.alloc (.cells #[.int .i64 nodes, .slice A n c] 31)) := (Below.refl _ _).alloc (Nat.le_refl _) _
  have HB := Lib.hid hb
  clear hb
  cases h1 : inB nodes 2 16
  · have HV := Lib.hid (show validB nodes xs = false by simp [validB, h1])
    go_enter Tryd.func27, Tryd.ntmps27
    go_wp2_with (go_at_call 46; refine (within_any _ _ _ _).mono ?_; rintro e w' ⟨rfl, rfl⟩)
    go_ret
    exact ⟨ret_bool HV.out.symm, hW⟩
  · by_cases h2 : n ≤ 48
    · obtain ⟨b1, b2⟩ := inB_iff.1 h1
      have HV := Lib.hid (show validB nodes xs = xs.all (arcOkB nodes) by simp [validB, h1, HX.out, h2])
      have h3 := h.alloc (.cells #[.int .i64 nodes, .slice A n c] 31)
      clear h
      go_enter Tryd.func27, Tryd.ntmps27
      go_wp2_with (go_at_call 46; refine (within_any _ _ _ _).mono ?_; rintro e w' ⟨rfl, rfl⟩)
      generalize w.alloc (.cells #[.int .i64 nodes, .slice A n c] 31) = W at *
      have IH := Lib.hid h1
      clear h1
      go_loopg [18] n (fun r i wr => ∃ (k : Nat), r = n - k ∧ k ≤ n ∧ i = .int .i64 k ∧ Below W.heap.size W wr ∧ Hid ((xs.take k).all (arcOkB nodes) = true))
      case atStart => exact ⟨0, by omega, by omega, rfl, Below.refl _ _, Lib.hid (by simp)⟩
      case round =>
        obtain ⟨k, hr, hk, rfl, hd, hall⟩ := hrel
        have HR := Lib.hid hr
        clear hr
        by_cases hlt : k < n
        · obtain ⟨ad, rfl, had, c0, c1, c2, c3⟩ := (h3.below hd).at_ hlt
          generalize gx : xs.getD k default = x at *
          have GX := Lib.hid gx
          clear gx
          obtain ⟨f, t, r, q⟩ := x
          have kb := (HB.out.ext hd).alloc (.cells #[.int .i64 f, .int .i64 t, .int .i64 r, .int .i64 q] 42)
          have ka := Blk.new wr 42 #[.int .i64 f, .int .i64 t, .int .i64 r, .int .i64 q]
          have hd2 := hd.alloc hd.size (.cells #[.int .i64 f, .int .i64 t, .int .i64 r, .int .i64 q] 42)
          have p0 := kb.cell 0
          have p1 := kb.cell 1
          have KB := Lib.hid kb
          have KA := Lib.hid ka
          have hsz := kb.lt
          clear kb ka hd
          go_wp2_with fail
          generalize wr.alloc (.cells #[.int .i64 f, .int .i64 t, .int .i64 r, .int .i64 q] 42) = W1 at *
          refine (isNode_any nodes f _ _ (by omega) (by omega)).mono ?_
          rintro e w2 ⟨rfl, e2⟩
          have kb2 := KB.out.ext e2
          have ka2 := KA.out.ext e2
          have q0 := kb2.cell 0
          have q1 := kb2.cell 1
          have s0 := ka2.cell 0
          have s1 := ka2.cell 1
          have s2 := ka2.cell 2
          have s3 := ka2.cell 3
          have KB2 := Lib.hid kb2
          have KA2 := Lib.hid ka2
          have hd3 := below_ext hd2 hd2.size e2
          clear kb2 ka2 e2 p0 p1
          cases i1 : inB f 0 (nodes - 1)
          · skip
            go_wp2_with (go_at_call 46; refine (within_any _ _ _ _).mono ?_; rintro e w' ⟨rfl, rfl⟩)
            go_ret
            exact ⟨ret_bool (by rw [HV.out, allA_stop HX.out hlt GX.out (by simp [arcOkB, i1])]), below_ext hW hW.size hd3⟩
          · skip
            go_wp2_with fail
            refine (isNode_any nodes t _ _ (by omega) (by omega)).mono ?_
            rintro e w3 ⟨rfl, e3⟩
            have kb3 := KB2.out.ext e3
            have ka3 := KA2.out.ext e3
            clear q0 q1 s0 s1 s2 s3
            have q0 := kb3.cell 0
            have q1 := kb3.cell 1
            have s0 := ka3.cell 0
            have s1 := ka3.cell 1
            have s2 := ka3.cell 2
            have s3 := ka3.cell 3
            have hd4 := below_ext hd3 hd3.size e3
            clear kb3 ka3 e3
            cases i2 : inB t 0 (nodes - 1)
            · skip
              go_wp2_with (go_at_call 46; refine (within_any _ _ _ _).mono ?_; rintro e w' ⟨rfl, rfl⟩)
              go_ret
              exact ⟨ret_bool (by rw [HV.out, allA_stop HX.out hlt GX.out (by simp [arcOkB, i2])]), below_ext hW hW.size hd4⟩
            · by_cases i3 : f = t
              · have i3b : (f == t) = true := by simpa using i3
                have I3 := Lib.hid i3
                clear i3
                go_wp2_with (go_at_call 46; refine (within_any _ _ _ _).mono ?_; rintro e w' ⟨rfl, rfl⟩)
                go_ret
                exact ⟨ret_bool (by rw [HV.out, allA_stop HX.out hlt GX.out (by simp [arcOkB, I3.out])]), below_ext hW hW.size hd4⟩
              · have i3b : (f == t) = false := by simpa using i3
                have I3 := Lib.hid i3
                clear i3
                cases i4 : inB r 0 1000000
                · skip
                  go_wp2_with (go_at_call 46; refine (within_any _ _ _ _).mono ?_; rintro e w' ⟨rfl, rfl⟩)
                  go_ret
                  exact ⟨ret_bool (by rw [HV.out, allA_stop HX.out hlt GX.out (by simp [arcOkB, i4])]), below_ext hW hW.size hd4⟩
                · cases i5 : inB q (-1000) 1000
                  · skip
                    go_wp2_with (go_at_call 46; refine (within_any _ _ _ _).mono ?_; rintro e w' ⟨rfl, rfl⟩)
                    go_ret
                    exact ⟨ret_bool (by rw [HV.out, allA_stop HX.out hlt GX.out (by simp [arcOkB, i5])]), below_ext hW hW.size hd4⟩
                  · skip
                    go_wp2_with (go_at_call 46; refine (within_any _ _ _ _).mono ?_; rintro e w' ⟨rfl, rfl⟩)
                    go_roundg (n - (k + 1))
                    case measure => rw [HR.out]; omega
                    case rel => exact ⟨k + 1, rfl, by omega, by go_num, hd4, Lib.hid (allA_step HX.out hlt GX.out hall.out (by simp [arcOkB, i1, i2, i4, i5, I3.out]))⟩
        · go_wp2
          go_ret
          exact ⟨ret_bool (by rw [HV.out, allA_done HX.out hlt hall.out]), below_ext hW hW.size hd⟩
    · have HV := Lib.hid (show validB nodes xs = false by
        have : (decide (xs.length ≤ 48)) = false := by rw [HX.out]; simpa using h2
        simp [validB, this])
      go_enter Tryd.func27, Tryd.ntmps27
      go_wp2_with (go_at_call 46; refine (within_any _ _ _ _).mono ?_; rintro e w' ⟨rfl, rfl⟩)
      go_ret
      exact ⟨ret_bool HV.out.symm, hW⟩
end Go.Proofs.YtigaopfhjimpmaaDoor
