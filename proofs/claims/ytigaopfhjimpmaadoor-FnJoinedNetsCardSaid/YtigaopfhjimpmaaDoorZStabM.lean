/- Sorting that keeps the order of equals: merges in place, walked: one number and a list. -/
import Derived.Test.YtigaopfhjimpmaaDoorJ2
import Derived.Test.YtigaopfhjimpmaaDoorZStabS
namespace Go.Proofs.YtigaopfhjimpmaaDoor
open Go.RowKit

set_option maxRecDepth 100000 in
set_option maxHeartbeats 1600000 in
theorem symM_left (N g gS cg base : Nat) (ct : Int → Int) (w0 : World) (HC : CmpC N g gS ct w0) (P X S : List Int) (x : Int) (a m b : Nat) (w : World) (hw0 : Upd (blk (some ⟨g, 0, none⟩)) w0 w) (o : OwnI 2 base w (some ⟨g, 0, none⟩) N cg (P ++ (x :: (X ++ S)))) (ha : a = P.length) (hm : m = a + 1) (hb : b = m + X.length) (hX : SortC ct X) (hlt : ∀ y ∈ X, x < y) (hr : AllR N (P ++ (x :: (X ++ S)))) (hN : N ≤ 48) :
    Calls Tryd.prog 57 #[.slice (some ⟨g, 0, none⟩) N cg, .int .i64 a, .int .i64 m, .int .i64 b, .func (.func 34) #[] #[.pointer (some ⟨gS, 0, none⟩)]] w fun e w' => e = .returned (.tuple #[]) ∧ ∃ M, OwnI 2 base w' (some ⟨g, 0, none⟩) N cg (P ++ (M ++ S)) ∧ M.Perm ([x] ++ X) ∧ SortC ct M ∧ Upd (blk (some ⟨g, 0, none⟩)) w w' := by
  have hlen : (P ++ (x :: (X ++ S))).length = N := o.len
  simp only [List.length_append, List.length_cons] at hlen
  have hbN : b ≤ N := by omega
  have hmb : m ≤ b := by omega
  have hx := hr x (by simp)
  have HRX := Lib.hid (show ∀ y ∈ X, 0 ≤ y ∧ y < (N : Int) from fun y hy => hr y (by simp [hy]))
  have hc0 := Lib.hid (show ∀ q, (P ++ (x :: (X ++ S))).getD a 0 = x ∧ (q < X.length → (P ++ (x :: (X ++ S))).getD (m + q) 0 = X.getD q 0) from fun q => ⟨get_mid _ _ _ ha, fun hq => by
    rw [show P ++ (x :: (X ++ S)) = (P ++ [x]) ++ (X ++ S) by simp]
    simp only [List.getD]
    rw [List.getElem?_append_right (by simp; omega), List.getElem?_append_left (by simp; omega)]
    congr 2
    simp; omega⟩)
  have w1 : IntKind.i64.wrap ((m : Int) - (a : Int)) = 1 := by rw [IntWalk.i64_in _ (by omega)]; omega
  have HA := Lib.hid ha
  have HMA := Lib.hid hm
  have HB := Lib.hid hb
  have HX := Lib.hid hX
  have HLT := Lib.hid hlt
  have ha48 : a ≤ 48 := by omega
  have ham : a < m := by omega
  have haN : a < N := by omega
  have hm48 : m ≤ 48 := by omega
  have hb48 : b ≤ 48 := by omega
  clear ha hm hb hlen hX hlt hr
  have HCALL := Lib.hid HC
  clear HC
  go_enter Tryd.func57, Tryd.ntmps57
  go_wp2_with fail
  go_loopg [10, 11, 12] (b - m) (fun r iv jv _ wr => ∃ (p q : Nat), r = q - p ∧ p ≤ q ∧ m + q ≤ b ∧ iv = .int .i64 ((m + p : Nat) : Int) ∧ jv = .int .i64 ((m + q : Nat) : Int) ∧ Hid (p = 0 ∨ ct (X.getD (p - 1) 0) < ct x) ∧ Hid (q = X.length ∨ ct x ≤ ct (X.getD q 0)) ∧ OwnI 2 base wr (some ⟨g, 0, none⟩) N cg (P ++ (x :: (X ++ S))) ∧ Upd (blk (some ⟨g, 0, none⟩)) w wr)
  case atStart => exact ⟨0, b - m, by omega, by omega, by omega, by first | rfl | go_num, by first | (rw [show m + (b - m) = b by omega]; done) | (rw [show m + (b - m) = b by omega]), Lib.hid (.inl rfl), Lib.hid (.inl (by have := HB.out; omega)), o, Upd.refl _ _⟩
  case round =>
    clear o
    obtain ⟨p, q, hr, hpq, hqb, rfl, rfl, H1, H2, o, hu⟩ := hrel
    have HR := Lib.hid hr
    clear hr
    by_cases hlt : p < q
    · have d1 : ((m + p : Nat) : Int) < ((m + q : Nat) : Int) := by omega
      obtain ⟨t, ht⟩ : ∃ t : Nat, ((m : Int) + (p : Int) + ((m : Int) + (q : Int))) / 2 = ((m + t : Nat) : Int) ∧ p ≤ t ∧ t < q := ⟨(p + q) / 2, by omega, by omega, by omega⟩
      obtain ⟨ht, htp, htq⟩ := ht
      have htX : t < X.length := by have := HB.out; omega
      obtain ⟨e1, e2⟩ := hc0.out t
      have hy := HRX.out (X.getD t 0) (by simp only [List.getD, List.getElem?_eq_getElem htX, Option.getD_some]; exact List.getElem_mem htX)
      have c1 := OwnI.cell o (j := m + t) (by omega)
      have c2 := OwnI.cell o (j := a) (by omega)
      rw [e2 htX] at c1
      rw [e1] at c2
      clear e1 e2
      generalize hyy : X.getD t 0 = y at *
      have HYY := Lib.hid hyy
      clear hyy
      have HF := Lib.hid (fun W q (h : Upd (blk (some ⟨g, 0, none⟩)) w W) => HCALL.out y x W q hy.1 hy.2 hx.1 hx.2 (hw0.trans h))
      have HNEG := Lib.hid (cmpI_neg (ct y) (ct x))
      generalize hcv : cmpI (ct y) (ct x) = cv at *
      have k1 : ((m + t : Nat) : Int) < (N : Int) := by omega
      have k2 : (a : Int) < (N : Int) := by omega
      clear hcv
      go_wp2_with fail
      have e3 : ((m + t : Nat) : Int) + 1 = ((m + (t + 1) : Nat) : Int) := by omega
      have w3 : IntKind.i64.wrap (((m + t : Nat) : Int) + 1) = ((m + (t + 1) : Nat) : Int) := by rw [IntWalk.i64_in _ (by omega)]; omega
      have HT := Lib.hid ht
      clear ht e3
      by_cases hneg : cv < 0
      · have HLTC := Lib.hid (show (t + 1 = 0 ∨ ct (X.getD (t + 1 - 1) 0) < ct x) from .inr (by have h := HNEG.out; rw [decide_eq_true hneg] at h; rw [Nat.add_sub_cancel, HYY.out]; exact of_decide_eq_true h.symm))
        go_quiet ((go_at_call 34; exact HF.out _ _ (by first | exact hu | exact hu.drewN _)))
        go_wp2_with fail
        go_roundg (q - (t + 1))
        case measure => rw [HR.out]; omega
        case rel => exact ⟨t + 1, q, rfl, by omega, hqb, by first | rfl | go_num, rfl, HLTC, H2, OwnI.drewN o _, hu.drewN _⟩
      · have HLTC := Lib.hid (show (t = X.length ∨ ct x ≤ ct (X.getD t 0)) from .inr (by have h := HNEG.out; rw [decide_eq_false hneg] at h; have := of_decide_eq_false h.symm; rw [HYY.out]; omega))
        go_quiet ((go_at_call 34; exact HF.out _ _ (by first | exact hu | exact hu.drewN _)))
        go_wp2_with fail
        go_roundg (t - p)
        case measure => rw [HR.out]; omega
        case rel => exact ⟨p, t, rfl, by omega, by omega, rfl, by first | rfl | go_num, H1, HLTC, OwnI.drewN o _, hu.drewN _⟩
    · obtain rfl : p = q := by omega
      have hpX : p ≤ X.length := by have := HB.out; omega
      have HD := Lib.hid (left_done HX.out HLT.out hpX H1.out H2.out)
      have hl1 : (X.take p).length = p := by rw [List.length_take]; omega
      have e0 : X = X.take p ++ X.drop p := (List.take_append_drop p X).symm
      rw [e0] at o
      generalize X.take p = X1 at *
      generalize X.drop p = X2 at *
      have HL1 := Lib.hid hl1
      have HMAA := Lib.hid HMA.out
      clear e0 hl1
      have w4 : IntKind.i64.wrap (((m + p : Nat) : Int) - 1) = ((a + p : Nat) : Int) := by have := HMA.out; rw [IntWalk.i64_in _ (by omega)]; omega
      have e4 : ((m + p : Nat) : Int) - 1 = ((a + p : Nat) : Int) := by have := HMA.out; omega
      have hd1 : decide (((m + p : Nat) : Int) < ((m + p : Nat) : Int)) = false := decide_eq_false (by omega)
      go_wp2_with fail
      go_loopg [13] p (fun r kv wr => ∃ t : Nat, r = p - t ∧ t ≤ p ∧ kv = .int .i64 ((a + t : Nat) : Int) ∧ OwnI 2 base wr (some ⟨g, 0, none⟩) N cg (P ++ (X1.take t ++ x :: (X1.drop t ++ (X2 ++ S)))) ∧ Upd (blk (some ⟨g, 0, none⟩)) w wr)
      case atStart => exact ⟨0, by omega, by omega, by first | rfl | go_num, by simpa using o, hu⟩
      case round =>
        clear o hu
        obtain ⟨t, hr, ht, rfl, o, hu⟩ := hrel
        have HRT := Lib.hid hr
        clear hr
        by_cases htp : t < p
        · have htX : t < X1.length := by rw [HL1.out]; exact htp
          have hdr := drop_at htX
          have HTK := Lib.hid (take_at htX)
          rw [hdr] at o
          obtain ⟨s1, s2, s3, s4⟩ := swap_next (A := P ++ X1.take t) (B := X1.drop (t + 1) ++ (X2 ++ S)) (x := x) (y := X1.getD t 0) (k := a + t) (by have := HA.out; rw [List.length_append, List.length_take]; omega)
          have eo : P ++ (X1.take t ++ x :: ((X1.getD t 0 :: X1.drop (t + 1)) ++ (X2 ++ S))) = (P ++ X1.take t) ++ x :: X1.getD t 0 :: (X1.drop (t + 1) ++ (X2 ++ S)) := by simp
          rw [eo] at o
          have hpN : m + p ≤ 48 := by omega
          have kj : a + t + 1 < N := by have := HMA.out; omega
          have c1 := OwnI.cell o (j := a + t) (by omega)
          have c2 := OwnI.cell o (j := a + t + 1) kj
          have c3 := OwnI.cell (OwnI.set o (a + t) (X1.getD t 0)) (j := a + t + 1) kj
          have f1 := OwnI.free o (a + t)
          have f2 := OwnI.free (OwnI.set o (a + t) (X1.getD t 0)) (a + t + 1)
          have oS := OwnI.set (OwnI.set o (a + t) (X1.getD t 0)) (a + t + 1) x
          have uS := (hu.setCell (p := ⟨g, a + t, none⟩) (.inl ⟨_, rfl, rfl⟩) (.int .i64 (X1.getD t 0))).setCell (p := ⟨g, a + t + 1, none⟩) (.inl ⟨_, rfl, rfl⟩) (.int .i64 x)
          rw [s1] at c1
          rw [s2] at c2
          rw [s3] at c3
          rw [s4] at oS
          have HNXT := Lib.hid (show (P ++ X1.take t) ++ X1.getD t 0 :: x :: (X1.drop (t + 1) ++ (X2 ++ S)) = P ++ (X1.take (t + 1) ++ x :: (X1.drop (t + 1) ++ (X2 ++ S))) by rw [HTK.out]; simp)
          rw [HNXT.out] at oS
          clear s1 s2 s3 s4 eo hdr o hu
          generalize X1.getD t 0 = y at *
          have v1 : IntKind.i64.wrap (((a + t : Nat) : Int) + 1) = ((a + t + 1 : Nat) : Int) := by rw [IntWalk.i64_in _ (by omega)]; omega
          have d1 : decide (((a + t : Nat) : Int) < ((a + p : Nat) : Int)) = true := decide_eq_true (by omega)
          have v2 : ((a + t : Nat) : Int) < ((a + p : Nat) : Int) := by omega
          have v3 : (((a + t + 1 : Nat) : Int)).toNat = a + t + 1 := by omega
          have h1 : ((a + t + 1 : Nat) : Int) < (N : Int) := by omega
          have h2 : ((a + t : Nat) : Int) < (N : Int) := by omega
          go_wp2_with fail
          go_region
          all_goals
            go_wp2_with fail
            go_roundg (p - (t + 1))
            case measure => rw [HRT.out]; omega
            case rel => exact ⟨t + 1, rfl, by omega, by first | rfl | go_num, oS.drew, uS.drew⟩
        · obtain rfl : p = t := by omega
          rw [List.take_of_length_le (by rw [HL1.out]; exact Nat.le_refl _), List.drop_eq_nil_of_le (by rw [HL1.out]; exact Nat.le_refl _)] at o
          have d1 : decide (((a + p : Nat) : Int) < ((a + p : Nat) : Int)) = false := decide_eq_false (by omega)
          go_wp2_with fail
          refine bodyPost_ret (results_none rfl _ _ _) rfl ?_
          exact ⟨rfl, X1 ++ x :: X2, by simpa using o, HD.out.2, HD.out.1, hu⟩
end Go.Proofs.YtigaopfhjimpmaaDoor
