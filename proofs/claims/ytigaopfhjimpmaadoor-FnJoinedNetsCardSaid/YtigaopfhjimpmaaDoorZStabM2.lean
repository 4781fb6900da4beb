/- Sorting that keeps the order of equals: merges in place, walked: a list and one number. -/
import Derived.Test.YtigaopfhjimpmaaDoorZStabM
namespace Go.Proofs.YtigaopfhjimpmaaDoor
open Go.RowKit

set_option maxRecDepth 100000 in
set_option maxHeartbeats 1600000 in
theorem symM_right (N g gS cg base : Nat) (ct : Int → Int) (w0 : World) (HC : CmpC N g gS ct w0) (P L S : List Int) (x : Int) (a m b : Nat) (w : World) (hw0 : Upd (blk (some ⟨g, 0, none⟩)) w0 w) (o : OwnI 2 base w (some ⟨g, 0, none⟩) N cg (P ++ (L ++ (x :: S)))) (ha : a = P.length) (hm : m = a + L.length) (hb : b = m + 1) (hL2 : 2 ≤ L.length) (hL : SortC ct L) (hlt : ∀ y ∈ L, y < x) (hr : AllR N (P ++ (L ++ (x :: S)))) (hN : N ≤ 48) :
    Calls Tryd.prog 57 #[.slice (some ⟨g, 0, none⟩) N cg, .int .i64 a, .int .i64 m, .int .i64 b, .func (.func 34) #[] #[.pointer (some ⟨gS, 0, none⟩)]] w fun e w' => e = .returned (.tuple #[]) ∧ ∃ M, OwnI 2 base w' (some ⟨g, 0, none⟩) N cg (P ++ (M ++ S)) ∧ M.Perm (L ++ [x]) ∧ SortC ct M ∧ Upd (blk (some ⟨g, 0, none⟩)) w w' := by
  have hlen : (P ++ (L ++ (x :: S))).length = N := o.len
  simp only [List.length_append, List.length_cons] at hlen
  have hbN : b ≤ N := by omega
  have hmb : m < N := by omega
  have hx := hr x (by simp)
  have HRX := Lib.hid (show ∀ y ∈ L, 0 ≤ y ∧ y < (N : Int) from fun y hy => hr y (by simp [hy]))
  have hc0 := Lib.hid (show ∀ q, (P ++ (L ++ (x :: S))).getD m 0 = x ∧ (q < L.length → (P ++ (L ++ (x :: S))).getD (a + q) 0 = L.getD q 0) from fun q => ⟨by
    rw [show P ++ (L ++ (x :: S)) = (P ++ L) ++ x :: S by simp]
    exact get_mid _ _ _ (by rw [List.length_append]; omega), fun hq => by
    simp only [List.getD]
    rw [List.getElem?_append_right (by omega), List.getElem?_append_left (by omega)]
    congr 2
    omega⟩)
  have w1 : IntKind.i64.wrap ((m : Int) - (a : Int)) = (m : Int) - (a : Int) := IntWalk.i64_in _ (by omega)
  have w1b : ((m : Int) - (a : Int) == 1) = false := by rw [beq_eq_false_iff_ne]; omega
  have w2 : IntKind.i64.wrap ((b : Int) - (m : Int)) = 1 := by rw [IntWalk.i64_in _ (by omega)]; omega
  have HA := Lib.hid ha
  have HMA := Lib.hid hm
  have HX := Lib.hid hL
  have HLT := Lib.hid hlt
  have ha48 : a ≤ 48 := by omega
  have ham : a < m := by omega
  have hm48 : m ≤ 48 := by omega
  have hb48 : b ≤ 48 := by omega
  clear ha hm hb hlen hL hL2 hlt hr
  have HCALL := Lib.hid HC
  clear HC
  go_enter Tryd.func57, Tryd.ntmps57
  go_wp2_with fail
  go_loopg [14, 15, 16] (m - a) (fun r iv jv _ wr => ∃ (p q : Nat), r = q - p ∧ p ≤ q ∧ a + q ≤ m ∧ iv = .int .i64 ((a + p : Nat) : Int) ∧ jv = .int .i64 ((a + q : Nat) : Int) ∧ Hid (p = 0 ∨ ct (L.getD (p - 1) 0) ≤ ct x) ∧ Hid (q = L.length ∨ ct x < ct (L.getD q 0)) ∧ OwnI 2 base wr (some ⟨g, 0, none⟩) N cg (P ++ (L ++ (x :: S))) ∧ Upd (blk (some ⟨g, 0, none⟩)) w wr)
  case atStart => exact ⟨0, m - a, by omega, by omega, by omega, by first | rfl | go_num, by first | (rw [show a + (m - a) = m by omega]; done) | (rw [show a + (m - a) = m by omega]), Lib.hid (.inl rfl), Lib.hid (.inl (by have := HMA.out; omega)), o, Upd.refl _ _⟩
  case round =>
    clear o
    obtain ⟨p, q, hr, hpq, hqb, rfl, rfl, H1, H2, o, hu⟩ := hrel
    have HR := Lib.hid hr
    clear hr
    by_cases hlt : p < q
    · have d1 : ((a + p : Nat) : Int) < ((a + q : Nat) : Int) := by omega
      obtain ⟨t, ht⟩ : ∃ t : Nat, ((a : Int) + (p : Int) + ((a : Int) + (q : Int))) / 2 = ((a + t : Nat) : Int) ∧ p ≤ t ∧ t < q := ⟨(p + q) / 2, by omega, by omega, by omega⟩
      obtain ⟨ht, htp, htq⟩ := ht
      have htX : t < L.length := by have := HMA.out; omega
      obtain ⟨e1, e2⟩ := hc0.out t
      have hy := HRX.out (L.getD t 0) (by simp only [List.getD, List.getElem?_eq_getElem htX, Option.getD_some]; exact List.getElem_mem htX)
      have c1 := OwnI.cell o (j := a + t) (by omega)
      have c2 := OwnI.cell o (j := m) (by omega)
      rw [e2 htX] at c1
      rw [e1] at c2
      clear e1 e2
      generalize hyy : L.getD t 0 = y at *
      have HYY := Lib.hid hyy
      clear hyy
      have HF := Lib.hid (fun W q (h : Upd (blk (some ⟨g, 0, none⟩)) w W) => HCALL.out x y W q hx.1 hx.2 hy.1 hy.2 (hw0.trans h))
      have HNEG := Lib.hid (cmpI_neg (ct x) (ct y))
      generalize hcv : cmpI (ct x) (ct y) = cv at *
      have k1 : ((a + t : Nat) : Int) < (N : Int) := by omega
      have k2 : (m : Int) < (N : Int) := by omega
      clear hcv
      go_wp2_with fail
      have e3 : ((a + t : Nat) : Int) + 1 = ((a + (t + 1) : Nat) : Int) := by omega
      have w3 : IntKind.i64.wrap (((a + t : Nat) : Int) + 1) = ((a + (t + 1) : Nat) : Int) := by rw [IntWalk.i64_in _ (by omega)]; omega
      have HT := Lib.hid ht
      clear ht e3
      by_cases hneg : cv < 0
      · have HLTC := Lib.hid (show (t = L.length ∨ ct x < ct (L.getD t 0)) from .inr (by have h := HNEG.out; rw [decide_eq_true hneg] at h; rw [HYY.out]; exact of_decide_eq_true h.symm))
        go_quiet ((go_at_call 34; exact HF.out _ _ (by first | exact hu | exact hu.drewN _)))
        go_wp2_with fail
        go_roundg (t - p)
        case measure => rw [HR.out]; omega
        case rel => exact ⟨p, t, rfl, by omega, by omega, rfl, by first | rfl | go_num, H1, HLTC, OwnI.drewN o _, hu.drewN _⟩
      · have HLTC := Lib.hid (show (t + 1 = 0 ∨ ct (L.getD (t + 1 - 1) 0) ≤ ct x) from .inr (by have h := HNEG.out; rw [decide_eq_false hneg] at h; have := of_decide_eq_false h.symm; rw [Nat.add_sub_cancel, HYY.out]; omega))
        go_quiet ((go_at_call 34; exact HF.out _ _ (by first | exact hu | exact hu.drewN _)))
        go_wp2_with fail
        go_roundg (q - (t + 1))
        case measure => rw [HR.out]; omega
        case rel => exact ⟨t + 1, q, rfl, by omega, hqb, by first | rfl | go_num, rfl, HLTC, H2, OwnI.drewN o _, hu.drewN _⟩
    · obtain rfl : p = q := by omega
      have hpX : p ≤ L.length := by have := HMA.out; omega
      have HD := Lib.hid (right_done HX.out HLT.out hpX H1.out H2.out)
      have hl1 : (L.take p).length = p := by rw [List.length_take]; omega
      have hl2 : a + p + (L.drop p).length = m := by rw [List.length_drop]; have := HMA.out; omega
      have e0 : L = L.take p ++ L.drop p := (List.take_append_drop p L).symm
      rw [e0] at o
      generalize L.take p = L1 at *
      generalize L.drop p = L2 at *
      have HL1 := Lib.hid hl1
      have HL2 := Lib.hid hl2
      clear e0 hl1
      have hd1 : decide (((a + p : Nat) : Int) < ((a + p : Nat) : Int)) = false := decide_eq_false (by omega)
      have e5 : (m : Int) = ((a + p + L2.length : Nat) : Int) := by omega
      have HE5 := Lib.hid e5
      clear hl2 e5
      go_wp2_with fail
      go_loopg [17] L2.length (fun r kv wr => ∃ t : Nat, r = t ∧ t ≤ L2.length ∧ kv = .int .i64 ((a + p + t : Nat) : Int) ∧ OwnI 2 base wr (some ⟨g, 0, none⟩) N cg (P ++ (L1 ++ (L2.take t ++ x :: (L2.drop t ++ S)))) ∧ Upd (blk (some ⟨g, 0, none⟩)) w wr)
      case atStart => exact ⟨L2.length, rfl, Nat.le_refl _, by rw [HE5.out], by rw [List.take_of_length_le (Nat.le_refl _), List.drop_eq_nil_of_le (Nat.le_refl _)]; simpa using o, hu⟩
      case round =>
        clear o hu
        obtain ⟨t, hr, ht, rfl, o, hu⟩ := hrel
        have HRT := Lib.hid hr
        clear hr
        have hm2 : a + p + L2.length ≤ 48 := by have := HL2.out; omega
        cases t with
        | succ t =>
          have HTK := Lib.hid (take_at (U := L2) (i := t) (by omega))
          have HDR := Lib.hid (drop_at (U := L2) (i := t) (by omega))
          rw [HTK.out] at o
          obtain ⟨s1, s2, s3⟩ := swap_last (P := P ++ L1) (L := L2.take t) (x := x) (y := L2.getD t 0) (R := L2.drop (t + 1) ++ S) (k := a + p + t) (by have := HA.out; rw [List.length_append, List.length_take, HL1.out]; omega)
          have eo : P ++ (L1 ++ ((L2.take t ++ [L2.getD t 0]) ++ x :: (L2.drop (t + 1) ++ S))) = (P ++ L1) ++ ((L2.take t ++ [L2.getD t 0]) ++ x :: (L2.drop (t + 1) ++ S)) := by simp
          rw [eo] at o
          have kj : a + p + t + 1 < N := by have := HL2.out; omega
          have c1 := OwnI.cell o (j := a + p + t + 1) kj
          have c2 := OwnI.cell o (j := a + p + t) (by omega)
          rw [s1] at c1
          rw [s2] at c2
          have HS3 := Lib.hid s3
          have HNXT := Lib.hid (show (P ++ L1) ++ (L2.take t ++ x :: L2.getD t 0 :: (L2.drop (t + 1) ++ S)) = P ++ (L1 ++ (L2.take t ++ x :: (L2.drop t ++ S))) by rw [HDR.out]; simp)
          clear s1 s2 s3 eo
          generalize L2.getD t 0 = y at *
          have e1 : ((a + p + (t + 1) : Nat) : Int) = ((a + p + t : Nat) : Int) + 1 := by omega
          rw [e1]
          clear e1
          have HQ0 := Lib.hid (show a + p ≤ a + p + t from by omega)
          have v5 : ((a + p : Nat) : Int) < ((a + p + t : Nat) : Int) + 1 := by omega
          have v4 : decide (((a + p + t : Nat) : Int) + 1 > ((a + p : Nat) : Int)) = true := decide_eq_true (by omega)
          have ht48 : a + p + t ≤ 48 := by omega
          have HPQ := Lib.hid (show ∀ z : Nat, a + p + t = z → ((a + p + t : Nat) : Int) = (z : Int) from fun z h => by rw [h])
          generalize hz : a + p + t = z at *
          have HZ := Lib.hid hz
          clear hz HPQ
          have v1 : IntKind.i64.wrap ((z : Int) + 1 - 1) = (z : Int) := by rw [IntWalk.i64_in _ (by omega)]; omega
          have v2 : 0 ≤ (z : Int) + 1 := by omega
          have v3 : ((z : Int) + 1).toNat = z + 1 := by omega
          have e3 : (z : Int) + 1 < (N : Int) := by omega
          have e4 : (z : Int) < (N : Int) := by omega
          have f1 := OwnI.free o (z + 1)
          have f2 := OwnI.free (OwnI.set o (z + 1) y) z
          have oS := OwnI.set (OwnI.set o (z + 1) y) z x
          have uS := (hu.setCell (p := ⟨g, z + 1, none⟩) (.inl ⟨_, rfl, rfl⟩) (.int .i64 y)).setCell (p := ⟨g, z, none⟩) (.inl ⟨_, rfl, rfl⟩) (.int .i64 x)
          rw [HS3.out, HNXT.out] at oS
          clear o hu
          go_wp2_with fail
          go_region
          all_goals
            go_wp2_with fail
            go_roundg t
            case measure => rw [HRT.out]; omega
            case rel => exact ⟨t, rfl, by omega, by have := HZ.out; first | go_num | (rw [HZ.out]), oS.drew, uS.drew⟩
        | zero =>
          have v4 : decide (((a + p + 0 : Nat) : Int) > ((a + p : Nat) : Int)) = false := decide_eq_false (by omega)
          go_wp2_with fail
          refine bodyPost_ret (results_none rfl _ _ _) rfl ?_
          exact ⟨rfl, L1 ++ x :: L2, by simpa using o, HD.out.2, HD.out.1, hu⟩
end Go.Proofs.YtigaopfhjimpmaaDoor
