/- Contracts of the laws' helpers on nets. -/
import Derived.Test.YtigaopfhjimpmaaDoorZNetMem
import Derived.Deep.RegionWith
namespace Go.Proofs.YtigaopfhjimpmaaDoor
open Go.RowKit

theorem eqArc_same (f t r c : Int) (w : World) :
    Calls Tryd.prog 49 #[.agg #[.int .i64 f, .int .i64 t, .int .i64 r, .int .i64 c], .agg #[.int .i64 f, .int .i64 t, .int .i64 r, .int .i64 c]] w (RetV (.bool true) w) := by
  go_enter Tryd.func49, Tryd.ntmps49
  go_wp2
  go_ret
  refine ⟨rfl, ?_⟩
  repeat (first | exact Below.refl _ _ | refine Below.alloc ?_ (by first | (simp; done) | (simp; omega)) _ | refine Below.setCell ?_ (by simp) _ | refine Below.drew ?_ | refine below_drewN ?_ _)

set_option maxHeartbeats 800000 in
theorem eqArcS_same (A B : Option Addr) (n c m d : Nat) (xs : List ArcR) (w : World) (hx : ArcsAt w A n xs) (hy : ArcsAt w B m xs) (hn0 : n ≤ maxLen) :
    Calls Tryd.prog 29 #[.slice A n c, .slice B m d] w (RetV (.bool true) w) := by
  obtain rfl : n = m := hx.len.symm.trans hy.len
  have hn : n ≤ 9223372036854775807 := hn0
  clear hn0
  have hself : ((n : Int) != (n : Int)) = false := by simp
  go_enter Tryd.func29, Tryd.ntmps29
  go_wp2
  go_loopg [5] n (fun r i wr => ∃ (k : Nat), r = n - k ∧ k ≤ n ∧ i = .int .i64 k ∧ Below w.heap.size w wr)
  case atStart => exact ⟨0, by omega, by omega, rfl, Below.refl _ _⟩
  case round =>
    obtain ⟨k, hr, hk, rfl, hb⟩ := hrel
    have HR := Lib.hid hr
    clear hr
    by_cases hlt : k < n
    · obtain ⟨ad, rfl, had, c0, c1, c2, c3⟩ := (hx.below hb).at_ hlt
      obtain ⟨bd, rfl, hbd, d0, d1, d2, d3⟩ := (hy.below hb).at_ hlt
      generalize xs.getD k default = x at *
      obtain ⟨f, t, r, q⟩ := x
      go_wp2
      go_region_with (go_at_call 49; refine (eqArc_same f t r q _).mono ?_; rintro e w1 ⟨rfl, hb1⟩)
      all_goals
        clear c0 c1 c2 c3 d0 d1 d2 d3 had hbd
        have hb2 : Below w.heap.size w w1 := below_ext hb hb.size (Below.drew (Below.refl _ _) |>.trans hb1)
        clear hb1
        go_wp2
        go_roundg (n - (k + 1))
        case measure => rw [HR.out]; omega
        case rel => exact ⟨k + 1, rfl, by omega, by go_num, hb2⟩
    · go_wp2
      go_ret
      exact ⟨rfl, hb⟩

theorem eqNet_same (nodes : Int) (A B : Option Addr) (n c m d : Nat) (xs : List ArcR) (w : World) (hx : ArcsAt w A n xs) (hy : ArcsAt w B m xs) (hn0 : n ≤ maxLen) :
    Calls Tryd.prog 10 #[.agg #[.int .i64 nodes, .slice A n c], .agg #[.int .i64 nodes, .slice B m d]] w (RetV (.bool true) w) := by
  have hself : (nodes != nodes) = false := by simp
  go_enter Tryd.func10, Tryd.ntmps10
  go_wp2_with fail
  refine (eqArcS_same A B n c m d xs _ ((hx.alloc _).alloc _) ((hy.alloc _).alloc _) hn0).mono ?_
  rintro e w1 ⟨rfl, hb1⟩
  go_wp2_with fail
  go_ret
  exact ⟨rfl, ext_trans (((Below.refl _ _).alloc (Nat.le_refl _) _).alloc (by simp) _) hb1⟩

theorem szArcS_yes (A : Option Addr) (n c : Nat) (left : Int) (w : World) (h : (n : Int) ≤ left) (hl : left ≤ 1048576) :
    Calls Tryd.prog 22 #[.slice A n c, .int .i64 left] w (RetV (.int .i64 (left - n)) w) := by
  have hd : ¬ (left - (n : Int) < 0) := by omega
  go_enter Tryd.func22, Tryd.ntmps22
  go_wp2
  go_ret
  exact ⟨rfl, Below.refl _ _⟩
theorem szArcS_no (A : Option Addr) (n c : Nat) (left : Int) (w : World) (h : left < n) (h0 : 0 ≤ left) (hl : left ≤ 1048576) (hn0 : n ≤ maxLen) :
    Calls Tryd.prog 22 #[.slice A n c, .int .i64 left] w (RetV (.int .i64 (-1)) w) := by
  have hn : n ≤ 9223372036854775807 := hn0
  clear hn0
  have hd : left - (n : Int) < 0 := by omega
  go_enter Tryd.func22, Tryd.ntmps22
  go_wp2
  go_ret
  exact ⟨rfl, Below.refl _ _⟩
theorem szNet_yes (nodes : Int) (A : Option Addr) (n c : Nat) (left : Int) (w : World) (h : (n : Int) ≤ left) (hl : left ≤ 1048576) :
    Calls Tryd.prog 5 #[.agg #[.int .i64 nodes, .slice A n c], .int .i64 left] w (RetV (.int .i64 (left - n)) w) := by
  have hd : ¬ (left - (n : Int) < 0) := by omega
  go_enter Tryd.func5, Tryd.ntmps5
  go_wp2_with fail
  refine (szArcS_yes A n c left _ h hl).mono ?_
  rintro e w1 ⟨rfl, hb1⟩
  go_wp2_with fail
  go_ret
  exact ⟨rfl, ext_trans ((Below.refl _ _).alloc (Nat.le_refl _) _) hb1⟩
theorem szNet_no (nodes : Int) (A : Option Addr) (n c : Nat) (left : Int) (w : World) (h : left < n) (h0 : 0 ≤ left) (hl : left ≤ 1048576) (hn0 : n ≤ maxLen) :
    Calls Tryd.prog 5 #[.agg #[.int .i64 nodes, .slice A n c], .int .i64 left] w (RetV (.int .i64 (-1)) w) := by
  go_enter Tryd.func5, Tryd.ntmps5
  go_wp2_with fail
  refine (szArcS_no A n c left _ h h0 hl hn0).mono ?_
  rintro e w1 ⟨rfl, hb1⟩
  go_wp2_with fail
  go_ret
  exact ⟨rfl, ext_trans ((Below.refl _ _).alloc (Nat.le_refl _) _) hb1⟩

theorem toNet_any (nodes : Int) (A : Option Addr) (n c : Nat) (xs : List ArcR) (w : World) (h : ArcsAt w A n xs) (hl : n ≤ 1048576) :
    Calls Tryd.prog 7 #[.agg #[.int .i64 nodes, .slice A n c]] w fun e w' => ∃ (A' : Option Addr) (c' : Nat), e = .returned (.agg #[.int .i64 nodes, .slice A' n c']) ∧ OwnA 42 w.heap.size w' A' n c' xs ∧ Below w.heap.size w w' := by
  have b1 := Blk.new w 24 #[.int .i64 nodes, .slice A n c]
  have b2 := Blk.new (w.alloc (.cells #[.int .i64 nodes, .slice A n c] 24)) 31 #[.int .i64 0, .slice none 0 0]
  have b3 := Blk.new ((w.alloc (.cells #[.int .i64 nodes, .slice A n c] 24)).alloc (.cells #[.int .i64 0, .slice none 0 0] 31)) 31 #[.int .i64 nodes, .slice none 0 0]
  have hW : Below w.heap.size w (((w.alloc (.cells #[.int .i64 nodes, .slice A n c] 24)).alloc (.cells #[.int .i64 0, .slice none 0 0] 31)).alloc (.cells #[.int .i64 nodes, .slice none 0 0] 31)) :=
    (((Below.refl _ _).alloc (Nat.le_refl _) _).alloc (by simp) _).alloc (by simp; omega) _
  replace b2 := b2.alloc (.cells #[.int .i64 nodes, .slice none 0 0] 31)
  simp only [World.size_alloc] at b2 b3
  have hsz : w.heap.size + 1 + 1 < (((w.alloc (.cells #[.int .i64 nodes, .slice A n c] 24)).alloc (.cells #[.int .i64 0, .slice none 0 0] 31)).alloc (.cells #[.int .i64 nodes, .slice none 0 0] 31)).heap.size := b3.lt
  have h3 := ((h.alloc (.cells #[.int .i64 nodes, .slice A n c] 24)).alloc (.cells #[.int .i64 0, .slice none 0 0] 31)).alloc (.cells #[.int .i64 nodes, .slice none 0 0] 31)
  clear b1
  have B2 := Lib.hid b2
  have B3 := Lib.hid b3
  clear b2 b3
  go_enter Tryd.func7, Tryd.ntmps7
  go_wp2_with fail
  generalize (((w.alloc (.cells #[.int .i64 nodes, .slice A n c] 24)).alloc (.cells #[.int .i64 0, .slice none 0 0] 31)).alloc (.cells #[.int .i64 nodes, .slice none 0 0] 31)) = W at *
  refine (toArcS_any A n c xs _ h3 hl).mono ?_
  rintro e w1 ⟨A', c', rfl, o1, hb1⟩
  have k2 := B2.out.ext hb1
  have k3 := B3.out.ext hb1
  have x0 := k2.cell 0
  have x1 := k2.cell 1
  have y0 := k3.cell 0
  have y1 := k3.cell 1
  have fx0 := k2.free 0
  have fx1 := k2.free 1
  have fy0 := k3.free 0
  have fy1 := k3.free 1
  have hA : ∀ ad, A' = some ad → w.heap.size + 1 + 1 < ad.block := fun ad ha => by have := (OwnC.lt o1 ha).1; omega
  have o2 : OwnA 42 w.heap.size w1 A' n c' xs := OwnC.low o1 hW.size
  have hb2 := below_ext hW hW.size hb1
  clear k2 k3 o1 hb1 B2 B3
  go_wp2_with fail
  refine bodyPost_ret (v := .agg #[.int .i64 nodes, .slice A' n c']) (by simp [results, Tryd.results7, go_sem, x0, x1]) rfl ⟨A', c', rfl, ?_, ?_⟩
  · exact OwnC.far (OwnC.far (OwnC.far o2 (p := ⟨w.heap.size + 1 + 1, 1, none⟩) (fun ad ha => by have := hA ad ha; show ad.block ≠ w.heap.size + 1 + 1; omega) _) (p := ⟨w.heap.size + 1, 0, none⟩) (fun ad ha => by have := hA ad ha; show ad.block ≠ w.heap.size + 1; omega) _) (p := ⟨w.heap.size + 1, 1, none⟩) (fun ad ha => by have := hA ad ha; show ad.block ≠ w.heap.size + 1; omega) _
  · exact ((hb2.setCell (p := ⟨w.heap.size + 1 + 1, 1, none⟩) (by show w.heap.size ≤ w.heap.size + 1 + 1; omega) _).setCell (p := ⟨w.heap.size + 1, 0, none⟩) (by show w.heap.size ≤ w.heap.size + 1; omega) _).setCell (p := ⟨w.heap.size + 1, 1, none⟩) (by show w.heap.size ≤ w.heap.size + 1; omega) _
end Go.Proofs.YtigaopfhjimpmaaDoor
