/- Sorting that keeps the order of equals: merges in place, walked: the general case, which calls itself. -/
import Derived.Test.YtigaopfhjimpmaaDoorZStabM2
import Derived.Test.YtigaopfhjimpmaaDoorZStabR
namespace Go.Proofs.YtigaopfhjimpmaaDoor
open Go.RowKit

/-- what a merge's contract says, for lists of at most s numbers together -/
def MergeC (N g gS cg base : Nat) (ct : Int → Int) (w0 : World) (s : Nat) : Prop := ∀ (P L X S : List Int) (a m b : Nat) (w : World), L.length + X.length ≤ s → Upd (blk (some ⟨g, 0, none⟩)) w0 w → OwnI 2 base w (some ⟨g, 0, none⟩) N cg (P ++ (L ++ (X ++ S))) → a = P.length → m = a + L.length → b = m + X.length → 0 < L.length → 0 < X.length → SortC ct L → SortC ct X → (∀ y ∈ L, ∀ x ∈ X, y < x) → AllR N (P ++ (L ++ (X ++ S))) →
    Calls Tryd.prog 57 #[.slice (some ⟨g, 0, none⟩) N cg, .int .i64 a, .int .i64 m, .int .i64 b, .func (.func 34) #[] #[.pointer (some ⟨gS, 0, none⟩)]] w fun e w' => e = .returned (.tuple #[]) ∧ ∃ M, OwnI 2 base w' (some ⟨g, 0, none⟩) N cg (P ++ (M ++ S)) ∧ M.Perm (L ++ X) ∧ SortC ct M ∧ Upd (blk (some ⟨g, 0, none⟩)) w w'
theorem get_at (P L R : List Int) {a k : Nat} (ha : a = P.length) (hk : k < L.length) : (P ++ (L ++ R)).getD (a + k) 0 = L.getD k 0 := by
  simp only [List.getD]
  rw [List.getElem?_append_right (by omega), List.getElem?_append_left (by omega)]
  congr 2
  omega
set_option maxRecDepth 100000 in
set_option maxHeartbeats 3200000 in
theorem symM_rec (N g gS cg base : Nat) (ct : Int → Int) (w0 : World) (HC : CmpC N g gS ct w0) (s : Nat) (IH : MergeC N g gS cg base ct w0 s) (P L X S : List Int) (a m b : Nat) (wS w : World) (hs : L.length + X.length ≤ s + 1) (hw0 : Upd (blk (some ⟨g, 0, none⟩)) w0 wS) (hwS : Upd (blk (some ⟨g, 0, none⟩)) wS w) (o : OwnI 2 base w (some ⟨g, 0, none⟩) N cg (P ++ (L ++ (X ++ S)))) (ha : a = P.length) (hm : m = a + L.length) (hb : b = m + X.length) (hL1 : 2 ≤ L.length) (hX1 : 2 ≤ X.length) (hL : SortC ct L) (hX : SortC ct X) (hlt : ∀ y ∈ L, ∀ x ∈ X, y < x) (hr : AllR N (P ++ (L ++ (X ++ S)))) (hN : N ≤ 48) :
    Calls Tryd.prog 57 #[.slice (some ⟨g, 0, none⟩) N cg, .int .i64 a, .int .i64 m, .int .i64 b, .func (.func 34) #[] #[.pointer (some ⟨gS, 0, none⟩)]] w fun e w' => e = .returned (.tuple #[]) ∧ ∃ M, OwnI 2 base w' (some ⟨g, 0, none⟩) N cg (P ++ (M ++ S)) ∧ M.Perm (L ++ X) ∧ SortC ct M ∧ Upd (blk (some ⟨g, 0, none⟩)) wS w' := by
  have hlen : (P ++ (L ++ (X ++ S))).length = N := o.len
  simp only [List.length_append] at hlen
  have hbN : b ≤ N := by omega
  have ham : a + 2 ≤ m := by omega
  have hmb : m + 2 ≤ b := by omega
  have HRL := Lib.hid (show ∀ y ∈ L, 0 ≤ y ∧ y < (N : Int) from fun y hy => hr y (by simp [hy]))
  have HRX := Lib.hid (show ∀ y ∈ X, 0 ≤ y ∧ y < (N : Int) from fun y hy => hr y (by simp [hy]))
  have HRALL := Lib.hid hr
  have HGL := Lib.hid (fun k (hk : k < L.length) => get_at P L (X ++ S) ha hk)
  have HGX := Lib.hid (fun k (hk : k < X.length) => show (P ++ (L ++ (X ++ S))).getD (m + k) 0 = X.getD k 0 from by
    rw [show P ++ (L ++ (X ++ S)) = (P ++ L) ++ (X ++ S) by simp]
    exact get_at (P ++ L) X S (by rw [List.length_append]; omega) hk)
  have w1 : IntKind.i64.wrap ((m : Int) - (a : Int)) = (m : Int) - (a : Int) := IntWalk.i64_in _ (by omega)
  have w1b : ((m : Int) - (a : Int) == 1) = false := by rw [beq_eq_false_iff_ne]; omega
  have w2 : IntKind.i64.wrap ((b : Int) - (m : Int)) = (b : Int) - (m : Int) := IntWalk.i64_in _ (by omega)
  have w2b : ((b : Int) - (m : Int) == 1) = false := by rw [beq_eq_false_iff_ne]; omega
  have HA := Lib.hid ha
  have HMA := Lib.hid hm
  have HB := Lib.hid hb
  have HL := Lib.hid hL
  have HX := Lib.hid hX
  have HLT := Lib.hid hlt
  have HS := Lib.hid hs
  have hb48 : b ≤ 48 := by omega
  clear ha hm hb hlen hL hX hlt hr hL1 hX1 hs
  have HCALL := Lib.hid HC
  have HIH := Lib.hid IH
  clear HC IH
  obtain ⟨mid, hmid⟩ : ∃ mid : Nat, ((a : Int) + (b : Int)) / 2 = (mid : Int) := ⟨(a + b) / 2, by omega⟩
  have hmid1 : a + b ≤ 2 * mid + 1 := by omega
  have hmid2 : 2 * mid ≤ a + b := by omega
  have w3 : IntKind.i64.wrap ((mid : Int) + (m : Int)) = (mid : Int) + (m : Int) := IntWalk.i64_in _ (by omega)
  go_enter Tryd.func57, Tryd.ntmps57
  go_upto_if 140 with (fail)
  clear hmid
  go_cut [20, 21] (fun s20 s21 wx => ∃ lo hi : Nat, s20 = .int .i64 lo ∧ s21 = .int .i64 hi ∧ lo ≤ hi ∧ a ≤ lo ∧ hi ≤ m ∧ hi ≤ mid ∧ mid ≤ lo + (b - m) ∧ (lo = a ∨ mid = lo + (b - m)) ∧ (hi = m ∨ hi = mid) ∧ wx = w)
  case first => as_aux_lemma =>
    by_cases hmm : mid < m
    · have d1 : decide ((m : Int) > (mid : Int)) = true := decide_eq_true (by omega)
      have d2 : (mid : Int) < (m : Int) := by omega
      have w4 : IntKind.i64.wrap ((mid : Int) + (m : Int) - (b : Int)) = ((mid + m - b : Nat) : Int) := by rw [IntWalk.i64_in _ (by omega)]; omega
      go_wp2_with fail
      go_meet
      exact ⟨mid + m - b, mid, by first | rfl | go_num, rfl, by omega, by omega, by omega, by omega, by omega, .inr (by omega), .inr rfl, rfl⟩
    · have d1 : decide ((m : Int) > (mid : Int)) = false := decide_eq_false (by omega)
      have d2 : ¬ (mid : Int) < (m : Int) := by omega
      go_wp2_with fail
      go_meet
      exact ⟨a, m, rfl, rfl, by omega, by omega, by omega, by omega, by omega, .inl rfl, .inl rfl, rfl⟩
  case rest => as_aux_lemma =>
    obtain ⟨lo, hi, rfl, rfl, b1, b2, b3, b4, b5, b6, b7, rfl⟩ := hcut
    have B6 := Lib.hid b6
    have B7 := Lib.hid b7
    clear b6 b7
    have w5 : IntKind.i64.wrap ((mid : Int) + (m : Int) - 1) = (mid : Int) + (m : Int) - 1 := IntWalk.i64_in _ (by omega)
    go_wp2_with fail
    go_loopg [20, 21, 23] (hi - lo) (fun r iv jv _ wr => ∃ (u v : Nat), r = v - u ∧ lo ≤ u ∧ u ≤ v ∧ v ≤ hi ∧ iv = .int .i64 (u : Int) ∧ jv = .int .i64 (v : Int) ∧ Hid (u = lo ∨ ct (L.getD (u - 1 - a) 0) ≤ ct (X.getD (mid - u) 0)) ∧ Hid (v = hi ∨ ct (X.getD (mid - 1 - v) 0) < ct (L.getD (v - a) 0)) ∧ OwnI 2 base wr (some ⟨g, 0, none⟩) N cg (P ++ (L ++ (X ++ S))) ∧ Upd (blk (some ⟨g, 0, none⟩)) wS wr)
    case atStart => exact ⟨lo, hi, rfl, Nat.le_refl _, b1, Nat.le_refl _, rfl, rfl, Lib.hid (.inl rfl), Lib.hid (.inl rfl), o, hwS⟩
    case round => as_aux_lemma =>
      clear o
      obtain ⟨u, v, hr, hlu, huv, hvh, rfl, rfl, H1, H2, o, hu⟩ := hrel
      have HR := Lib.hid hr
      clear hr
      by_cases hlt : u < v
      · have d1 : (u : Int) < (v : Int) := by omega
        obtain ⟨t, ht, htp, htq⟩ : ∃ t : Nat, ((u : Int) + (v : Int)) / 2 = (t : Int) ∧ u ≤ t ∧ t < v := ⟨(u + v) / 2, by omega, by omega, by omega⟩
        have htX : mid - 1 - t < X.length := by have := HB.out; omega
        have htL : t - a < L.length := by have := HMA.out; omega
        have e1 := HGX.out _ htX
        have e2 := HGL.out _ htL
        rw [show a + (t - a) = t by omega] at e2
        have hx := HRX.out (X.getD (mid - 1 - t) 0) (by simp only [List.getD, List.getElem?_eq_getElem htX, Option.getD_some]; exact List.getElem_mem htX)
        have hy := HRL.out (L.getD (t - a) 0) (by simp only [List.getD, List.getElem?_eq_getElem htL, Option.getD_some]; exact List.getElem_mem htL)
        have hiN : m + (mid - 1 - t) < N := by omega
        have c1 := OwnI.cell o (j := m + (mid - 1 - t)) hiN
        have c2 := OwnI.cell o (j := t) (by omega)
        rw [e1] at c1
        rw [e2] at c2
        clear e1 e2
        generalize hxx : X.getD (mid - 1 - t) 0 = x at *
        generalize hyy : L.getD (t - a) 0 = y at *
        have HXX := Lib.hid hxx
        have HYY := Lib.hid hyy
        clear hxx hyy
        have w6 : IntKind.i64.wrap ((mid : Int) + (m : Int) - 1 - (t : Int)) = ((m + (mid - 1 - t) : Nat) : Int) := by rw [IntWalk.i64_in _ (by omega)]; omega
        have w7 : IntKind.i64.wrap ((t : Int) + 1) = ((t + 1 : Nat) : Int) := by rw [IntWalk.i64_in _ (by omega)]; omega
        have k1 : ((m + (mid - 1 - t) : Nat) : Int) < (N : Int) := by omega
        have k2 : (t : Int) < (N : Int) := by omega
        generalize hqq : m + (mid - 1 - t) = qq at *
        clear hqq
        have HF := Lib.hid (fun W q (h : Upd (blk (some ⟨g, 0, none⟩)) wS W) => HCALL.out x y W q hx.1 hx.2 hy.1 hy.2 (hw0.trans h))
        have HNEG := Lib.hid (cmpI_neg (ct x) (ct y))
        generalize hcv : cmpI (ct x) (ct y) = cv at *
        clear hcv
        go_wp2_with fail
        have HT := Lib.hid ht
        clear ht
        by_cases hneg : cv < 0
        · have HLTC := Lib.hid (show (t = hi ∨ ct (X.getD (mid - 1 - t) 0) < ct (L.getD (t - a) 0)) from .inr (by have h := HNEG.out; rw [decide_eq_true hneg] at h; rw [HXX.out, HYY.out]; exact of_decide_eq_true h.symm))
          go_quiet ((go_at_call 34; exact HF.out _ _ (by first | exact hu | exact hu.drewN _)))
          go_wp2_with fail
          go_roundg (t - u)
          case measure => rw [HR.out]; omega
          case rel => exact ⟨u, t, rfl, hlu, htp, by omega, rfl, by first | rfl | go_num, H1, HLTC, OwnI.drewN o _, hu.drewN _⟩
        · have HLTC := Lib.hid (show (t + 1 = lo ∨ ct (L.getD (t + 1 - 1 - a) 0) ≤ ct (X.getD (mid - (t + 1)) 0)) from .inr (by have h := HNEG.out; rw [decide_eq_false hneg] at h; have := of_decide_eq_false h.symm; rw [Nat.add_sub_cancel, HYY.out, show mid - (t + 1) = mid - 1 - t by omega, HXX.out]; omega))
          go_quiet ((go_at_call 34; exact HF.out _ _ (by first | exact hu | exact hu.drewN _)))
          go_wp2_with fail
          go_roundg (v - (t + 1))
          case measure => rw [HR.out]; omega
          case rel => exact ⟨t + 1, v, rfl, by omega, by omega, hvh, by first | rfl | go_num, rfl, HLTC, H2, OwnI.drewN o _, hu.drewN _⟩
      · obtain rfl : u = v := by omega
        have huL : u - a ≤ L.length := by have := HMA.out; omega
        have huX : mid - u ≤ X.length := by have := HB.out; omega
        have HCR := Lib.hid (sym_cross HL.out HX.out HLT.out huL huX (by
            rcases H1.out with h | h
            · rcases B6.out with h2 | h2
              · left; omega
              · right; left; have := HB.out; omega
            · right; right; rw [show u - a - 1 = u - 1 - a by omega]; exact h) (by
            rcases H2.out with h | h
            · rcases B7.out with h2 | h2
              · right; left; have := HMA.out; omega
              · left; omega
            · right; right; rw [show mid - u - 1 = mid - 1 - u by omega]; exact h))
        have l1 : (L.take (u - a)).length = u - a := by rw [List.length_take]; omega
        have l2 : (L.drop (u - a)).length = m - u := by rw [List.length_drop]; have := HMA.out; omega
        have l3 : (X.take (mid - u)).length = mid - u := by rw [List.length_take]; omega
        have l4 : (X.drop (mid - u)).length = b - m - (mid - u) := by rw [List.length_drop]; have := HB.out; omega
        have e0 : L = L.take (u - a) ++ L.drop (u - a) := (List.take_append_drop _ L).symm
        have e1 : X = X.take (mid - u) ++ X.drop (mid - u) := (List.take_append_drop _ X).symm
        generalize L.take (u - a) = L1 at *
        generalize L.drop (u - a) = L2 at *
        generalize X.take (mid - u) = X1 at *
        generalize X.drop (mid - u) = X2 at *
        have HLS := HL.out
        have HXS := HX.out
        have HLTS := HLT.out
        have hall := HRALL.out
        have HSS := Lib.hid (show L1.length + L2.length + (X1.length + X2.length) ≤ s + 1 by have := HS.out; rw [e0, e1, List.length_append, List.length_append] at this; exact this)
        rw [e0] at HLS HLTS hall
        rw [e1] at HXS HLTS hall
        have HPERM := Lib.hid (show ∀ Q : List Int, Q.Perm ((L1 ++ L2) ++ (X1 ++ X2)) → Q.Perm (L ++ X) from fun (Q : List Int) h => by rw [e0, e1]; exact h)
        have HE : P ++ (L ++ (X ++ S)) = P ++ (L1 ++ (L2 ++ (X1 ++ (X2 ++ S)))) := by rw [e0, e1]; simp
        rw [HE] at o
        have HLE := Lib.hid HLS
        have HXE := Lib.hid HXS
        have HLTE := Lib.hid HLTS
        have HAL := Lib.hid (fun (Y : List Int) (hY : ∀ y ∈ Y, y ∈ L1 ++ (L2 ++ (X1 ++ X2))) => show AllR N (P ++ (Y ++ S)) from fun x hx => by
          rcases List.mem_append.1 hx with h | h
          · exact hall x (by simp [h])
          · rcases List.mem_append.1 h with h | h
            · have h3 := hY x h
              exact hall x (by simp only [List.mem_append] at h3 ⊢; rcases h3 with h3 | h3 | h3 | h3 <;> simp [h3])
            · exact hall x (by simp [h]))
        have HL1 := Lib.hid l1
        have HL2 := Lib.hid l2
        have HL3 := Lib.hid l3
        have HL4 := Lib.hid l4
        clear e0 e1 HE HLS HXS HLTS hall l1 l2 l3 l4 hlt huL huX
        obtain ⟨en, hen⟩ : ∃ en : Nat, mid + m - u = en := ⟨_, rfl⟩
        have w8 : IntKind.i64.wrap ((mid : Int) + (m : Int) - (u : Int)) = (en : Int) := by rw [IntWalk.i64_in _ (by omega)]; omega
        have hen1 : mid ≤ en := by omega
        have hen2 : en ≤ b := by omega
        have hen3 : m ≤ en := by omega
        have HEN := Lib.hid hen
        clear hen
        obtain ⟨wl, rfl⟩ : ∃ wl : World, wl = wr := ⟨_, rfl⟩
        go_upto_region 39 with (fail)
        go_cut [185] (fun sx wx => sx = .bool (decide (u < m) && decide (m < en)) ∧ wx = wl)
        case first => as_aux_lemma =>
          by_cases h1 : u < m
          · have c1 : (u : Int) < (m : Int) := by omega
            by_cases h2 : m < en
            · have c2 : (m : Int) < (en : Int) := by omega
              go_wp2_with fail
              go_meet
              exact ⟨by simp [h1, h2], rfl⟩
            · have c2 : ¬ (m : Int) < (en : Int) := by omega
              go_wp2_with fail
              go_meet
              exact ⟨by simp [h1, h2], rfl⟩
          · have c1 : ¬ (u : Int) < (m : Int) := by omega
            go_wp2_with fail
            go_meet
            exact ⟨by simp [h1], rfl⟩
        case rest => as_aux_lemma =>
          obtain ⟨rfl, rfl⟩ := hcut
          obtain ⟨bv, hbv⟩ : ∃ bv, (decide (u < m) && decide (m < en)) = bv := ⟨_, rfl⟩
          rw [hbv]
          have HBV := Lib.hid hbv
          clear hbv
          go_upto_if 185 with (fail)
          go_cut [24] (fun s24 wx => s24 = .int .i64 (en : Int) ∧ OwnI 2 base wx (some ⟨g, 0, none⟩) N cg (P ++ (L1 ++ (X1 ++ (L2 ++ (X2 ++ S))))) ∧ Upd (blk (some ⟨g, 0, none⟩)) wS wx)
          case first => as_aux_lemma =>
            cases bv with
            | true =>
              have hc : u < m ∧ m < en := by
                have h := HBV.out
                rw [Bool.and_eq_true, decide_eq_true_eq, decide_eq_true_eq] at h
                exact h
              have HROT := Lib.hid (fun fv => rotate_any N g cg base (P ++ L1) L2 X1 (X2 ++ S) u m en fv wc (by simpa using o) (by rw [List.length_append, HL1.out, ← HA.out]; omega) (by rw [List.length_append, HL1.out, HL2.out, ← HA.out]; omega) (by have := HEN.out; rw [List.length_append, HL1.out, HL2.out, HL3.out, ← HA.out]; omega) (by rw [HL2.out]; omega) (by have := HEN.out; rw [HL3.out]; omega) hN)
              clear o hc
              go_wp2_with fail
              refine (HROT.out _).mono ?_
              rintro e w9 ⟨rfl, o9, u9⟩
              go_wp2_with fail
              go_meet
              exact ⟨rfl, by simpa using o9, hu.trans u9⟩
            | false =>
              have HEQ := Lib.hid (show L2 ++ X1 = X1 ++ L2 from by
                have h := HBV.out
                by_cases h1 : u < m
                · have : X1 = [] := List.eq_nil_of_length_eq_zero (by
                    have := HEN.out
                    rw [HL3.out]
                    rw [decide_eq_true h1, Bool.true_and, decide_eq_false_iff_not] at h
                    omega)
                  rw [this]; simp
                · have : L2 = [] := List.eq_nil_of_length_eq_zero (by rw [HL2.out]; omega)
                  rw [this]; simp)
              have o9 : OwnI 2 base wc (some ⟨g, 0, none⟩) N cg (P ++ (L1 ++ (X1 ++ (L2 ++ (X2 ++ S))))) := by
                have h : P ++ (L1 ++ (L2 ++ (X1 ++ (X2 ++ S)))) = P ++ (L1 ++ (X1 ++ (L2 ++ (X2 ++ S)))) := by
                  rw [← List.append_assoc L2, HEQ.out, List.append_assoc]
                rw [← h]; exact o
              have HO9 := Lib.hid o9
              clear o o9
              go_wp2_with fail
              go_meet
              exact ⟨rfl, HO9.out, hu⟩
          case rest => as_aux_lemma =>
            obtain ⟨rfl, o9, u9⟩ := hcut
            clear o hu HBV
            obtain ⟨wk, rfl⟩ : ∃ wk : World, wk = wc := ⟨_, rfl⟩
            go_upto_region 41 with (fail)
            go_cut [199] (fun sx wx => sx = .bool (decide (a < u) && decide (u < mid)) ∧ wx = wk)
            case first => as_aux_lemma =>
              by_cases h1 : a < u
              · have c1 : (a : Int) < (u : Int) := by omega
                by_cases h2 : u < mid
                · have c2 : (u : Int) < (mid : Int) := by omega
                  go_wp2_with fail
                  go_meet
                  exact ⟨by simp [h1, h2], rfl⟩
                · have c2 : ¬ (u : Int) < (mid : Int) := by omega
                  go_wp2_with fail
                  go_meet
                  exact ⟨by simp [h1, h2], rfl⟩
              · have c1 : ¬ (a : Int) < (u : Int) := by omega
                go_wp2_with fail
                go_meet
                exact ⟨by simp [h1], rfl⟩
            case rest => as_aux_lemma =>
              obtain ⟨rfl, rfl⟩ := hcut
              obtain ⟨bv, hbv⟩ : ∃ bv, (decide (a < u) && decide (u < mid)) = bv := ⟨_, rfl⟩
              rw [hbv]
              have HBV := Lib.hid hbv
              clear hbv
              go_upto_if 199 with (fail)
              go_cut [24] (fun s24 wx => s24 = .int .i64 (en : Int) ∧ ∃ M1 : List Int, OwnI 2 base wx (some ⟨g, 0, none⟩) N cg (P ++ (M1 ++ (L2 ++ (X2 ++ S)))) ∧ Upd (blk (some ⟨g, 0, none⟩)) wS wx ∧ Hid (M1.Perm (L1 ++ X1)) ∧ Hid (SortC ct M1))
              case first => as_aux_lemma =>
                cases bv with
                | true =>
                  have hc : a < u ∧ u < mid := by
                    have h := HBV.out
                    rw [Bool.and_eq_true, decide_eq_true_eq, decide_eq_true_eq] at h
                    exact h
                  have HREC := Lib.hid (HIH.out P L1 X1 (L2 ++ (X2 ++ S)) a u mid wc (by have := HSS.out; have := HL2.out; have := HL4.out; omega) (hw0.trans u9) o9 HA.out (by rw [HL1.out]; omega) (by rw [HL3.out]; omega) (by rw [HL1.out]; omega) (by rw [HL3.out]; omega) (List.pairwise_append.1 HLE.out).1 (List.pairwise_append.1 HXE.out).1 (fun y hy x hx => HLTE.out y (by simp [hy]) x (by simp [hx])) (by
                    have h := HAL.out (L1 ++ (X1 ++ (L2 ++ X2))) (fun y hy => by simp only [List.mem_append] at hy ⊢; rcases hy with h | h | h | h <;> simp [h])
                    simpa using h))
                  clear o9 hc
                  go_wp2_with fail
                  refine HREC.out.mono ?_
                  rintro e w9 ⟨rfl, M1, o1, p1, s1, u1⟩
                  have HP1 := Lib.hid p1
                  have HS1 := Lib.hid s1
                  clear p1 s1
                  go_wp2_with fail
                  go_meet
                  exact ⟨rfl, M1, o1, u9.trans u1, HP1, HS1⟩
                | false =>
                  have HSRT := Lib.hid (show SortC ct (L1 ++ X1) from by
                    have h := HBV.out
                    by_cases h1 : a < u
                    · have : X1 = [] := List.eq_nil_of_length_eq_zero (by
                        rw [HL3.out]
                        rw [decide_eq_true h1, Bool.true_and, decide_eq_false_iff_not] at h
                        omega)
                      rw [this, List.append_nil]; exact (List.pairwise_append.1 HLE.out).1
                    · have : L1 = [] := List.eq_nil_of_length_eq_zero (by rw [HL1.out]; omega)
                      rw [this]; exact (List.pairwise_append.1 HXE.out).1)
                  go_wp2_with fail
                  go_meet
                  exact ⟨rfl, L1 ++ X1, by simpa using o9, u9, Lib.hid (List.Perm.refl _), HSRT⟩
              case rest => as_aux_lemma =>
                obtain ⟨rfl, M1, o1, u1, HP1, HS1⟩ := hcut
                clear o9 u9 HBV
                have HM1 := Lib.hid (show M1.length = mid - a by rw [HP1.out.length_eq, List.length_append, HL1.out, HL3.out]; omega)
                obtain ⟨wj, rfl⟩ : ∃ wj : World, wj = wc := ⟨_, rfl⟩
                go_upto_region 43 with (fail)
                go_cut [213] (fun sx wx => sx = .bool (decide (mid < en) && decide (en < b)) ∧ wx = wj)
                case first => as_aux_lemma =>
                  by_cases h1 : mid < en
                  · have c1 : (mid : Int) < (en : Int) := by omega
                    by_cases h2 : en < b
                    · have c2 : (en : Int) < (b : Int) := by omega
                      go_wp2_with fail
                      go_meet
                      exact ⟨by simp [h1, h2], rfl⟩
                    · have c2 : ¬ (en : Int) < (b : Int) := by omega
                      go_wp2_with fail
                      go_meet
                      exact ⟨by simp [h1, h2], rfl⟩
                  · have c1 : ¬ (mid : Int) < (en : Int) := by omega
                    go_wp2_with fail
                    go_meet
                    exact ⟨by simp [h1], rfl⟩
                case rest => as_aux_lemma =>
                  obtain ⟨rfl, rfl⟩ := hcut
                  obtain ⟨bv, hbv⟩ : ∃ bv, (decide (mid < en) && decide (en < b)) = bv := ⟨_, rfl⟩
                  rw [hbv]
                  have HBV := Lib.hid hbv
                  clear hbv
                  have HFIN := Lib.hid (fun (M2 : List Int) (p2 : M2.Perm (L2 ++ X2)) (s2 : SortC ct M2) => merge_two HLE.out HXE.out HP1.out p2 HS1.out s2 HCR.out.1 HCR.out.2)
                  cases bv with
                  | true =>
                    have hc : mid < en ∧ en < b := by
                      have h := HBV.out
                      rw [Bool.and_eq_true, decide_eq_true_eq, decide_eq_true_eq] at h
                      exact h
                    have HREC := Lib.hid (HIH.out (P ++ M1) L2 X2 S mid en b wc (by have := HSS.out; have := HL1.out; have := HL3.out; omega) (hw0.trans u1) (by simpa using o1) (by rw [List.length_append, HM1.out, ← HA.out]; omega) (by have := HEN.out; rw [HL2.out]; omega) (by have := HEN.out; rw [HL4.out]; omega) (by have := HEN.out; rw [HL2.out]; omega) (by have := HEN.out; rw [HL4.out]; omega) (List.pairwise_append.1 HLE.out).2.1 (List.pairwise_append.1 HXE.out).2.1 (fun y hy x hx => HLTE.out y (by simp [hy]) x (by simp [hx])) (by
                      have h := HAL.out (M1 ++ (L2 ++ X2)) (fun y hy => by
                        rcases List.mem_append.1 hy with h | h
                        · rw [HP1.out.mem_iff] at h
                          simp only [List.mem_append] at h ⊢; rcases h with h | h <;> simp [h]
                        · simp only [List.mem_append] at h ⊢; rcases h with h | h <;> simp [h])
                      simpa using h))
                    clear o1 hc
                    go_wp2_with fail
                    refine HREC.out.mono ?_
                    rintro e w9 ⟨rfl, M2, o2, p2, s2, u2⟩
                    obtain ⟨f1, f2⟩ := HFIN.out M2 p2 s2
                    have HF1 := Lib.hid f1
                    have HF2 := Lib.hid f2
                    clear p2 s2 f1 f2
                    go_wp2_with fail
                    go_end0
                    exact ⟨rfl, M1 ++ M2, by simpa using o2, HPERM.out _ HF2.out, HF1.out, u1.trans u2⟩
                  | false =>
                    have HSRT := Lib.hid (show SortC ct (L2 ++ X2) from by
                      have h := HBV.out
                      have := HEN.out
                      by_cases h1 : mid < en
                      · have : X2 = [] := List.eq_nil_of_length_eq_zero (by
                          rw [HL4.out]
                          rw [decide_eq_true h1, Bool.true_and, decide_eq_false_iff_not] at h
                          omega)
                        rw [this, List.append_nil]; exact (List.pairwise_append.1 HLE.out).2.1
                      · have : L2 = [] := List.eq_nil_of_length_eq_zero (by rw [HL2.out]; omega)
                        rw [this]; exact (List.pairwise_append.1 HXE.out).2.1)
                    obtain ⟨f1, f2⟩ := HFIN.out _ (List.Perm.refl _) HSRT.out
                    have HF1 := Lib.hid f1
                    have HF2 := Lib.hid f2
                    clear f1 f2
                    go_wp2_with fail
                    go_end0
                    exact ⟨rfl, M1 ++ (L2 ++ X2), by simpa using o1, HPERM.out _ HF2.out, HF1.out, u1⟩
end Go.Proofs.YtigaopfhjimpmaaDoor
