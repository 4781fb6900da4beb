/- Cheapest trees of the program: groups, and the closure that compares costs. -/
import Derived.Test.YtigaopfhjimpmaaDoorJ3
import Derived.Test.YtigaopfhjimpmaaDoorZValid
namespace Go.Proofs.YtigaopfhjimpmaaDoor
open Go.RowKit

theorem infoIntK : (Tryd.prog.info? 3).map (fun i => (i.zero, i.size, i.bytes)) = some (some (.int .i64 0), 1, 8) := by kernel_rfl
set_option maxRecDepth 100000 in
set_option maxHeartbeats 1600000 in
theorem byC_any (nodes : Int) (A : Option Addr) (n c : Nat) (xs : List ArcR) (gS a b : Nat) (w : World) (h : ArcsAt w A n xs) (ha : a < n) (hb : b < n) (hn : n ≤ 48) (k2 : Blk w gS 31 #[.int .i64 nodes, .slice A n c]) :
    Calls Tryd.prog 34 #[.int .i64 a, .int .i64 b, .pointer (some ⟨gS, 0, none⟩)] w fun e w' => e = .returned (.int .i64 (cmpI (coA xs a) (coA xs b))) ∧ Drew w w' := by
  have HV := Lib.hid (show cmpI (coA xs a) (coA xs b) = cmpI (xs.getD a default).cost (xs.getD b default).cost from rfl)
  have p2 := (k2.cell 1).trans (show _ = some (Value.slice A n c) from rfl)
  obtain ⟨ad, rfl, _, _, _, _, c1⟩ := h.at_ ha
  obtain ⟨ad', e, _, _, _, _, c3⟩ := h.at_ hb
  cases e
  clear k2 h
  generalize (xs.getD a default).cost = x1 at *
  generalize (xs.getD b default).cost = x2 at *
  have ha' : (a : Int) < (n : Int) := by omega
  have hb' : (b : Int) < (n : Int) := by omega
  go_enter Tryd.func34, Tryd.ntmps34
  go_wp2_with fail
  go_quiet ((go_at_call 35; exact compare_q _ _ _ _))
  go_wp2
  go_ret
  exact ⟨ret_int HV.out.symm, ⟨_, rfl⟩⟩
theorem cmpC_arcs (nodes : Int) (A : Option Addr) (n c : Nat) (xs : List ArcR) (g gS : Nat) (w : World) (h : ArcsAt w A n xs) (hn : n ≤ 48) (k2 : Blk w gS 31 #[.int .i64 nodes, .slice A n c]) (sA : 0 < n → Sep A (some ⟨g, 0, none⟩)) (sS : gS ≠ g) : CmpC n g gS (coA xs) w := by
  intro x y w' q hx0 hx1 hy0 hy1 hu
  replace sA := sA (by omega)
  obtain ⟨a, rfl⟩ := Int.eq_ofNat_of_zero_le hx0
  obtain ⟨b, rfl⟩ := Int.eq_ofNat_of_zero_le hy0
  exact quiet_drew (byC_any nodes A n c xs gS a b (w'.drewN q) (h.upd (hu.drewN q) fun ad e1 e2 => by obtain ⟨z, z1, z2⟩ := e2; injection z1 with z1; subst z1; exact sA ad _ e1 rfl z2.symm) (by omega) (by omega) hn (k2.upd (hu.drewN q) fun e2 => by obtain ⟨z, z1, z2⟩ := e2; injection z1 with z1; subst z1; exact sS z2.symm))
theorem joinTo_at {G : List Int} {f t : Int} {j : Nat} (hj : j < G.length) : ((G.take j).map (repl f t) ++ G.drop j).getD j 0 = G.getD j 0 ∧ ((G.take j).map (repl f t) ++ G.drop j).set j (repl f t (G.getD j 0)) = (G.take (j + 1)).map (repl f t) ++ G.drop (j + 1) := by
  have hl : j = ((G.take j).map (repl f t)).length := by simp; omega
  rw [drop_at hj]
  refine ⟨get_mid _ _ _ hl, ?_⟩
  rw [set_mid _ _ _ _ hl, take_at hj]
  simp
theorem joinTo_same {G : List Int} {f t : Int} {j : Nat} (hj : j < G.length) (h : repl f t (G.getD j 0) = G.getD j 0) : (G.take (j + 1)).map (repl f t) ++ G.drop (j + 1) = (G.take j).map (repl f t) ++ G.drop j := by
  rw [take_at hj, List.map_append, List.map_singleton, h, drop_at hj]; simp
set_option maxRecDepth 100000 in
set_option maxHeartbeats 1600000 in
theorem join_any (N g cg base : Nat) (G : List Int) (a b : Nat) (w : World) (o : OwnI 3 base w (some ⟨g, 0, none⟩) N cg G) (ha : a < N) (hb : b < N) (hN : N ≤ 16) :
    Calls Tryd.prog 37 #[.slice (some ⟨g, 0, none⟩) N cg, .int .i64 a, .int .i64 b] w fun e w' => e = .returned (.bool (G.getD a 0 != G.getD b 0)) ∧ OwnI 3 base w' (some ⟨g, 0, none⟩) N cg (G.map (repl (G.getD a 0) (G.getD b 0))) ∧ Upd (blk (some ⟨g, 0, none⟩)) w w' := by
  have hl := o.len
  have HL := Lib.hid hl
  have c1 := OwnI.cell o ha
  have c2 := OwnI.cell o hb
  generalize G.getD a 0 = f at *
  generalize G.getD b 0 = t at *
  have h1 : (a : Int) < (N : Int) := by omega
  have h2 : (b : Int) < (N : Int) := by omega
  clear hl
  go_enter Tryd.func37, Tryd.ntmps37
  go_wp2_with fail
  go_quiet (fail)
  go_wp2_with fail
  go_loopg [9, 20] N (fun r _ iv wr => ∃ j : Nat, r = N - j ∧ j ≤ N ∧ iv = .int .i64 (j : Int) ∧ OwnI 3 base wr (some ⟨g, 0, none⟩) N cg ((G.take j).map (repl f t) ++ G.drop j) ∧ Upd (blk (some ⟨g, 0, none⟩)) w wr)
  case atStart => exact ⟨0, by omega, by omega, rfl, by simpa using OwnI.drewN o _, (Upd.refl _ _).drewN _⟩
  case round =>
    clear o c1 c2
    obtain ⟨j, hr, hj, rfl, o, hu⟩ := hrel
    have HR := Lib.hid hr
    clear hr
    by_cases hlt : j < N
    · have hjl : j < G.length := by rw [HL.out]; exact hlt
      obtain ⟨s1, s2⟩ := joinTo_at (f := f) (t := t) hjl
      have HS2 := Lib.hid s2
      have HSAME := Lib.hid (joinTo_same (f := f) (t := t) hjl)
      have c1 := OwnI.cell o hlt
      rw [s1] at c1
      have f1 := OwnI.free o j
      clear s1 s2
      generalize G.getD j 0 = z at *
      by_cases hz : z = f
      · have d1 : (z == f) = true := by rw [beq_iff_eq]; exact hz
        have HZ := Lib.hid (show repl f t z = t by unfold repl; rw [if_pos hz])
        have oS := OwnI.set o j t
        have uS := hu.setCell (p := ⟨g, j, none⟩) (.inl ⟨_, rfl, rfl⟩) (.int .i64 t)
        rw [HZ.out] at HS2
        rw [HS2.out] at oS
        clear hz o hu
        go_wp2_with fail
        go_roundg (N - (j + 1))
        case measure => rw [HR.out]; omega
        case rel => exact ⟨j + 1, rfl, by omega, by go_num, oS, uS⟩
      · have d1 : (z == f) = false := by rw [beq_eq_false_iff_ne]; exact hz
        have HZ := Lib.hid (HSAME.out (show repl f t z = z by unfold repl; rw [if_neg hz]))
        clear hz
        go_wp2_with fail
        go_roundg (N - (j + 1))
        case measure => rw [HR.out]; omega
        case rel => exact ⟨j + 1, rfl, by omega, by go_num, by rw [HZ.out]; exact o, hu⟩
    · obtain rfl : N = j := by omega
      rw [List.take_of_length_le (by rw [HL.out]; exact Nat.le_refl _), List.drop_eq_nil_of_le (by rw [HL.out]; exact Nat.le_refl _), List.append_nil] at o
      go_wp2_with fail
      go_ret
      exact ⟨rfl, o, hu⟩
set_option maxRecDepth 100000 in
set_option maxHeartbeats 1600000 in
theorem newGroups_any (N : Nat) (w : World) (hN1 : 1 ≤ N) (hN : N ≤ 16) :
    Calls Tryd.prog 36 #[.int .i64 N] w fun e w' => ∃ g : Nat, e = .returned (.slice (some ⟨g, 0, none⟩) N N) ∧ OwnI 3 w.heap.size w' (some ⟨g, 0, none⟩) N N (seqI 0 N) ∧ Below w.heap.size w w' := by
  go_enter Tryd.func36, Tryd.ntmps36
  go_wp2_with (at_make; refine wp_make_ints _ rfl _ _ 67 rfl 3 Tryd.underlying67 infoIntK .i64 .i64 _ _ N rfl rfl rfl rfl (by omega) ?_; intro w2 g o b2)
  go_loopg [4, 9] N (fun r _ iv wr => ∃ j : Nat, r = N - j ∧ j ≤ N ∧ iv = .int .i64 (j : Int) ∧ OwnI 3 w.heap.size wr (some ⟨g, 0, none⟩) N N (seqI 0 j ++ List.replicate (N - j) 0) ∧ Below w.heap.size w wr)
  case atStart => exact ⟨0, by omega, by omega, rfl, by simpa [seqI] using o, b2⟩
  case round =>
    clear o b2
    obtain ⟨j, hr, hj, rfl, o, hb⟩ := hrel
    have HR := Lib.hid hr
    clear hr
    by_cases hlt : j < N
    · have hrep : List.replicate (N - j) (0 : Int) = 0 :: List.replicate (N - (j + 1)) 0 := by rw [show N - j = N - (j + 1) + 1 by omega]; rfl
      rw [hrep] at o
      have HST := Lib.hid (show (seqI 0 j ++ 0 :: List.replicate (N - (j + 1)) 0).set j (j : Int) = seqI 0 (j + 1) ++ List.replicate (N - (j + 1)) 0 from by
        rw [set_mid _ _ _ _ (seqI_len 0 j).symm, seqI_snoc]; simp)
      have c1 := OwnI.cell o hlt
      have f1 := OwnI.free o j
      have oS := OwnI.set o j (j : Int)
      have uS := hb.setCell (p := ⟨g, j, none⟩) ((OwnI.lt o rfl).1) (.int .i64 (j : Int))
      rw [HST.out] at oS
      clear o hb hrep
      go_wp2_with fail
      go_roundg (N - (j + 1))
      case measure => rw [HR.out]; omega
      case rel => exact ⟨j + 1, rfl, by omega, by go_num, oS, uS⟩
    · obtain rfl : N = j := by omega
      rw [Nat.sub_self, List.replicate_zero, List.append_nil] at o
      go_wp2_with fail
      go_ret
      exact ⟨g, rfl, o, hb⟩
end Go.Proofs.YtigaopfhjimpmaaDoor
