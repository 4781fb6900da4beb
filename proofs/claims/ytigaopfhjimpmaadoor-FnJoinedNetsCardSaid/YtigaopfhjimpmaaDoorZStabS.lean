/- Sorting that keeps the order of equals: insertion in a part of a list, walked. -/
import Derived.Test.YtigaopfhjimpmaaDoorZStabI
namespace Go.Proofs.YtigaopfhjimpmaaDoor
open Go.RowKit

/-- the closure compares costs, whatever has been written into the list's block -/
def CmpC (N g gS : Nat) (ct : Int → Int) (w0 : World) : Prop := ∀ (x y : Int) (w' : World) (q : Nat), 0 ≤ x → x < N → 0 ≤ y → y < N → Upd (blk (some ⟨g, 0, none⟩)) w0 w' →
  Calls Tryd.prog 34 #[.int .i64 x, .int .i64 y, .pointer (some ⟨gS, 0, none⟩)] (w'.drewN q) fun e w'' => e = .returned (.int .i64 (cmpI (ct x) (ct y))) ∧ ∃ m, w'' = w'.drewN m
def AllR (N : Nat) (zs : List Int) : Prop := ∀ x ∈ zs, 0 ≤ x ∧ x < (N : Int)
theorem swap_last {P L : List Int} {x y : Int} {R : List Int} {k : Nat} (hk : k = P.length + L.length) :
    (P ++ ((L ++ [y]) ++ x :: R)).getD (k + 1) 0 = x ∧ (P ++ ((L ++ [y]) ++ x :: R)).getD k 0 = y ∧ ((P ++ ((L ++ [y]) ++ x :: R)).set (k + 1) y).set k x = P ++ (L ++ x :: y :: R) := by
  have e1 : ∀ u v, P ++ ((L ++ [u]) ++ v :: R) = (P ++ (L ++ [u])) ++ v :: R := fun u v => by simp
  have e2 : ∀ u v, P ++ ((L ++ [u]) ++ v :: R) = (P ++ L) ++ u :: (v :: R) := fun u v => by simp
  have l1 : ∀ u : Int, k + 1 = (P ++ (L ++ [u])).length := fun u => by simp; omega
  have l2 : k = (P ++ L).length := by simp; omega
  refine ⟨?_, ?_, ?_⟩
  · rw [e1, get_mid _ _ _ (l1 y)]
  · rw [e2, get_mid _ _ _ l2]
  · rw [e1, set_mid _ _ _ _ (l1 y), ← e1, e2, set_mid _ _ _ _ l2]; simp
set_option maxRecDepth 100000 in
set_option maxHeartbeats 1600000 in
theorem insPart_any (N g gS cg base : Nat) (ct : Int → Int) (w0 : World) (HC : CmpC N g gS ct w0) (P Z S : List Int) (a b : Nat) (w : World) (hw0 : Upd (blk (some ⟨g, 0, none⟩)) w0 w) (o : OwnI 2 base w (some ⟨g, 0, none⟩) N cg (P ++ (Z ++ S))) (ha : a = P.length) (hb : b = P.length + Z.length) (hZ : Z.Pairwise (· < ·)) (hr : AllR N (P ++ (Z ++ S))) (hN : N ≤ 48) :
    Calls Tryd.prog 56 #[.slice (some ⟨g, 0, none⟩) N cg, .int .i64 a, .int .i64 b, .func (.func 34) #[] #[.pointer (some ⟨gS, 0, none⟩)]] w fun e w' => e = .returned (.tuple #[]) ∧ ∃ M, OwnI 2 base w' (some ⟨g, 0, none⟩) N cg (P ++ (M ++ S)) ∧ M.Perm Z ∧ SortC ct M ∧ Upd (blk (some ⟨g, 0, none⟩)) w w' := by
  have hlen : (P ++ (Z ++ S)).length = N := o.len
  simp only [List.length_append] at hlen
  have hbN : b ≤ N := by omega
  have hab : a ≤ b := by omega
  have HRZ := Lib.hid (show ∀ x ∈ Z, 0 ≤ x ∧ x < (N : Int) from fun x hx => hr x (by simp [hx]))
  have HZ := Lib.hid hZ
  have HZL := Lib.hid (show a + Z.length = b by omega)
  have HP := Lib.hid ha
  clear ha hb hlen hZ hr
  have HCALL := Lib.hid HC
  clear HC
  go_enter Tryd.func56, Tryd.ntmps56
  go_wp2_with fail
  go_loopg [8] (b - a) (fun r iv wr => ∃ (k : Nat) (L : List Int), r = b - a - k ∧ (a + 1 + k ≤ b ∨ k = 0) ∧ iv = .int .i64 ((a + 1 + k : Nat) : Int) ∧ OwnI 2 base wr (some ⟨g, 0, none⟩) N cg (P ++ (L ++ (Z.drop (k + 1) ++ S))) ∧ Upd (blk (some ⟨g, 0, none⟩)) w wr ∧ Hid (L.Perm (Z.take (k + 1))) ∧ Hid (SortC ct L))
  case atStart => exact ⟨0, Z.take 1, rfl, .inr rfl, by first | rfl | go_num, by rw [← List.append_assoc (Z.take 1), List.take_append_drop]; exact o, Upd.refl _ _, Lib.hid (List.Perm.refl _), Lib.hid (by
    unfold SortC
    cases Z with
    | nil => exact List.Pairwise.nil
    | cons z Z' => simp)⟩
  case round =>
    clear o
    obtain ⟨k, L, hr, hk, rfl, o, hu, HPM, HSL⟩ := hrel
    have HRI := Lib.hid hr
    clear hr
    by_cases hlt : a + 1 + k < b
    · have hkZ : k + 1 < Z.length := by have := HZL.out; omega
      have hLl : L.length = k + 1 := by rw [HPM.out.length_eq, List.length_take]; omega
      have hdr := drop_at (U := Z) hkZ
      have HTK := Lib.hid (take_at (U := Z) hkZ)
      have hx := HRZ.out (Z.getD (k + 1) 0) (by simp only [List.getD, List.getElem?_eq_getElem hkZ, Option.getD_some]; exact List.getElem_mem hkZ)
      have HLX := Lib.hid (show ∀ y ∈ L, y < Z.getD (k + 1) 0 from fun y hy => by
        rw [HPM.out.mem_iff] at hy
        obtain ⟨i, hi, e⟩ := List.mem_iff_getElem.1 hy
        rw [List.length_take] at hi
        rw [List.getElem_take] at e
        have := List.pairwise_iff_getElem.1 HZ.out i (k + 1) (by omega) hkZ (by omega)
        simp only [List.getD, List.getElem?_eq_getElem hkZ, Option.getD_some]
        omega)
      have HLR := Lib.hid (show ∀ y ∈ L, 0 ≤ y ∧ y < (N : Int) from fun y hy => HRZ.out y (List.mem_of_mem_take (HPM.out.mem_iff.1 hy)))
      have HLL := Lib.hid hLl
      rw [hdr] at o
      generalize hxx : Z.getD (k + 1) 0 = x at *
      have HXX := Lib.hid hxx
      generalize hzr : Z.drop (k + 1 + 1) = Zr at *
      have HZR := Lib.hid hzr
      clear hdr hxx hzr hLl
      have c1 : ((a + 1 + k : Nat) : Int) < (b : Int) := by omega
      have hpos : k + 1 ≤ 48 := by omega
      go_wp2_with fail
      go_loopg [9] (k + 2) (fun r jv wr => ∃ (j : Nat) (L1 L2 : List Int), r = j + 1 ∧ j ≤ k + 1 ∧ jv = .int .i64 ((a + j : Nat) : Int) ∧ Hid (L1.length = j) ∧ OwnI 2 base wr (some ⟨g, 0, none⟩) N cg (P ++ (L1 ++ x :: (L2 ++ (Zr ++ S)))) ∧ Upd (blk (some ⟨g, 0, none⟩)) w wr ∧ Hid (L = L1 ++ L2) ∧ Hid (∀ y ∈ L2, ct x < ct y))
      case atStart => exact ⟨k + 1, L, [], rfl, Nat.le_refl _, by go_num, HLL, by simpa using o, hu, Lib.hid (by simp), Lib.hid (by simp)⟩
      case round =>
        clear o hu
        obtain ⟨j, L1, L2, hr, hj, rfl, HJ, o, hu, HE, H2⟩ := hrel
        have HRJ := Lib.hid hr
        clear hr
        have HDONE := Lib.hid (fun (he : ∀ y, L1.getLast? = some y → ct y ≤ ct x) => show (L1 ++ x :: L2).Perm (Z.take (k + 1 + 1)) ∧ SortC ct (L1 ++ x :: L2) from by
          have h1 := HSL.out
          have h2 := HLX.out
          have h3 := HPM.out
          rw [HE.out] at h1 h2 h3
          refine ⟨?_, ins_done h1 (fun y hy => h2 y (by simp [hy])) he H2.out⟩
          rw [HTK.out]
          refine List.perm_middle.trans ?_
          exact (List.Perm.cons x h3).trans (List.perm_append_singleton x _).symm)
        cases j with
        | zero =>
          have hL1 : L1 = [] := List.eq_nil_of_length_eq_zero HJ.out
          have HD := Lib.hid (HDONE.out (by rw [hL1]; intro y hy; cases hy))
          have d1 : decide (((a + 0 : Nat) : Int) > (a : Int)) = false := decide_eq_false (by omega)
          have d2 : decide ((a : Int) < ((a + 0 : Nat) : Int)) = false := decide_eq_false (by omega)
          clear hL1
          go_wp2_with go_quiet (fail)
          go_roundg (b - a - (k + 1))
          case measure => rw [HRI.out]; omega
          case rel => exact ⟨k + 1, L1 ++ x :: L2, rfl, .inl (by omega), by go_num, by rw [HZR.out]; first | simpa using o | simpa using OwnI.drewN o _, by first | exact hu | exact hu.drewN _, Lib.hid HD.out.1, Lib.hid HD.out.2⟩
        | succ j =>
          obtain ⟨L', y, hL'⟩ : ∃ L' y, L1 = L' ++ [y] := by
            rcases List.eq_nil_or_concat L1 with e | ⟨L', y, e⟩
            · have := HJ.out; rw [e] at this; simp at this
            · exact ⟨L', y, by simpa using e⟩
          have hL'l : L'.length = j := by have := HJ.out; rw [hL'] at this; simpa using this
          have hy := HLR.out y (by rw [HE.out, hL']; simp)
          obtain ⟨s1, s2, s3⟩ := swap_last (P := P) (L := L') (x := x) (y := y) (R := L2 ++ (Zr ++ S)) (k := a + j) (by rw [HP.out, hL'l])
          have HLAST := Lib.hid (fun (h : ct y ≤ ct x) => HDONE.out (fun z hz => by rw [hL'] at hz; simp at hz; subst hz; exact h))
          have HNEXT := Lib.hid (show L = L' ++ (y :: L2) by rw [HE.out, hL']; simp)
          rw [hL'] at o
          have HL' := Lib.hid hL'
          have HLL' := Lib.hid hL'l
          have kj : a + j + 1 < N := by omega
          have c1 := OwnI.cell o (j := a + j + 1) kj
          have c2 := OwnI.cell o (j := a + j) (by omega)
          rw [s1] at c1
          rw [s2] at c2
          have HS3 := Lib.hid s3
          have HF := Lib.hid (fun W q (h : Upd (blk (some ⟨g, 0, none⟩)) w W) => HCALL.out x y W q hx.1 hx.2 hy.1 hy.2 (hw0.trans h))
          clear hL' hL'l s1 s2 s3
          have e1 : ((a + (j + 1) : Nat) : Int) = ((a + j : Nat) : Int) + 1 := by omega
          rw [e1]
          have hap : a ≤ a + j := by omega
          clear e1
          generalize hp : a + j = p at *
          have HPJ := Lib.hid hp
          clear hp
          have e3 : (p : Int) + 1 < (N : Int) := by omega
          have e4 : (p : Int) < (N : Int) := by omega
          have v1 : IntKind.i64.wrap ((p : Int) + 1 - 1) = (p : Int) := by rw [IntWalk.i64_in _ (by omega)]; omega
          have v2 : 0 ≤ (p : Int) + 1 := by omega
          have v3 : ((p : Int) + 1).toNat = p + 1 := by omega
          have v4 : decide ((a : Int) < (p : Int) + 1) = true := decide_eq_true (by omega)
          have v5 : decide ((p : Int) + 1 > (a : Int)) = true := decide_eq_true (by omega)
          have HNEG := Lib.hid (cmpI_neg (ct x) (ct y))
          generalize hcv : cmpI (ct x) (ct y) = cv at *
          clear hcv
          by_cases hneg : cv < 0
          · have HLT := Lib.hid (show ct x < ct y by have h := HNEG.out; rw [decide_eq_true hneg] at h; exact of_decide_eq_true h.symm)
            go_wp2_with fail
            go_quiet ((go_at_call 34; exact HF.out _ _ (by first | exact hu | exact hu.drewN _)))
            have o2 := OwnI.drewN o nq
            have u2 := hu.drewN nq
            have c3 : (wr.drewN nq).cell? ⟨g, p + 1, none⟩ = some (.int .i64 x) := c1
            have c4 : (wr.drewN nq).cell? ⟨g, p, none⟩ = some (.int .i64 y) := c2
            clear c1 c2 o hu
            generalize wr.drewN nq = W2 at *
            have f1 := OwnI.free o2 (p + 1)
            have f2 := OwnI.free (OwnI.set o2 (p + 1) y) p
            have oS := OwnI.set (OwnI.set o2 (p + 1) y) p x
            have uS := (u2.setCell (p := ⟨g, p + 1, none⟩) (.inl ⟨_, rfl, rfl⟩) (.int .i64 y)).setCell (p := ⟨g, p, none⟩) (.inl ⟨_, rfl, rfl⟩) (.int .i64 x)
            rw [HS3.out] at oS
            have k1 : p + 1 < N := kj
            have HNX2 := Lib.hid (show ∀ z ∈ y :: L2, ct x < ct z from fun z hz => by
              rcases List.mem_cons.1 hz with e | e
              · rw [e]; exact HLT.out
              · exact H2.out z e)
            have k2 : p < N := by omega
            clear o2 u2
            go_wp2
            go_region
            all_goals
              go_wp2
              go_roundg (j + 1)
              case measure => rw [HRJ.out]; omega
              case rel => exact ⟨j, L', y :: L2, rfl, by omega, by have := HPJ.out; go_num, HLL', by simpa using oS.drew, uS.drew, HNEXT, HNX2⟩
          · have HD := Lib.hid (HLAST.out (by have h := HNEG.out; rw [decide_eq_false hneg] at h; have := of_decide_eq_false h.symm; omega))
            go_wp2_with fail
            go_quiet ((go_at_call 34; exact HF.out _ _ (by first | exact hu | exact hu.drewN _)))
            go_wp2
            go_roundg (b - a - (k + 1))
            case measure => rw [HRI.out]; omega
            case rel => exact ⟨k + 1, L1 ++ x :: L2, rfl, .inl (by omega), by go_num, by rw [HZR.out, HL'.out]; simpa using OwnI.drewN o _, hu.drewN _, Lib.hid HD.out.1, Lib.hid HD.out.2⟩
    · have hkz : Z.length ≤ k + 1 := by have := HZL.out; omega
      have HFIN := Lib.hid (show L.Perm Z from by have h := HPM.out; rw [List.take_of_length_le hkz] at h; exact h)
      rw [List.drop_eq_nil_of_le hkz] at o
      have d1 : decide (((a + 1 + k : Nat) : Int) < (b : Int)) = false := decide_eq_false (by omega)
      go_wp2_with fail
      go_end0
      exact ⟨rfl, L, by simpa using o, HFIN.out, HSL.out, hu⟩
end Go.Proofs.YtigaopfhjimpmaaDoor
