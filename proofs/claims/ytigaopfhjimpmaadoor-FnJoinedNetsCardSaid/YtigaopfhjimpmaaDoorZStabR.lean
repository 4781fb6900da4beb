/- Sorting that keeps the order of equals: the library's rotation, walked. -/
import Derived.Test.YtigaopfhjimpmaaDoorZStabI
namespace Go.Proofs.YtigaopfhjimpmaaDoor
open Go.RowKit

set_option maxRecDepth 100000 in
set_option maxHeartbeats 1000000 in
theorem rotate_any (N g cg base : Nat) (P U V S : List Int) (a m b : Nat) (fv : Value) (w : World) (o : OwnI 2 base w (some ⟨g, 0, none⟩) N cg (P ++ (U ++ (V ++ S)))) (ha : a = P.length) (hm : m = P.length + U.length) (hb : b = P.length + U.length + V.length) (hu : 0 < U.length) (hv : 0 < V.length) (hN : N ≤ 48) :
    Calls Tryd.prog 58 #[.slice (some ⟨g, 0, none⟩) N cg, .int .i64 a, .int .i64 m, .int .i64 b, fv] w fun e w' => e = .returned (.tuple #[]) ∧ OwnI 2 base w' (some ⟨g, 0, none⟩) N cg (P ++ (V ++ (U ++ S))) ∧ Upd (blk (some ⟨g, 0, none⟩)) w w' := by
  have hlen : (P ++ (U ++ (V ++ S))).length = N := o.len
  simp only [List.length_append] at hlen
  have x1 : (m : Int) - (a : Int) = (U.length : Int) := by omega
  have x2 : (b : Int) - (m : Int) = (V.length : Int) := by omega
  have hmN : m ≤ 48 := by omega
  have w1 : IntKind.i64.wrap ((m : Int) - (a : Int)) = (U.length : Int) := by rw [IntWalk.i64_in _ (by omega)]; omega
  have w2 : IntKind.i64.wrap ((b : Int) - (m : Int)) = (V.length : Int) := by rw [IntWalk.i64_in _ (by omega)]; omega
  have hUN : U.length ≤ 48 := by omega
  have hVN : V.length ≤ 48 := by omega
  obtain ⟨T, hTT⟩ : ∃ T, P ++ (V ++ (U ++ S)) = T := ⟨_, rfl⟩
  have HT0 := Lib.hid hTT
  rw [hTT]
  have HM := Lib.hid hm
  clear hTT x1 x2 hm ha hb hlen
  go_enter Tryd.func58, Tryd.ntmps58
  go_wp2_with fail
  go_loopg [10, 11] (U.length + V.length) (fun r iv jv wr => ∃ (P' U' V' S' : List Int) (i j : Nat), r = i + j ∧ U'.length = i ∧ V'.length = j ∧ 0 < i ∧ 0 < j ∧ P'.length + i = m ∧ i ≤ 48 ∧ j ≤ 48 ∧ iv = .int .i64 i ∧ jv = .int .i64 j ∧ OwnI 2 base wr (some ⟨g, 0, none⟩) N cg (P' ++ (U' ++ (V' ++ S'))) ∧ Hid (P' ++ (V' ++ (U' ++ S')) = T) ∧ Upd (blk (some ⟨g, 0, none⟩)) w wr)
  case atStart => exact ⟨P, U, V, S, _, _, rfl, rfl, rfl, hu, hv, HM.out.symm, hUN, hVN, rfl, rfl, o, HT0, Upd.refl _ _⟩
  case round =>
    clear o
    obtain ⟨P', U', V', S', i, j, hr, hU, hV, hi, hj, hPi, hi48, hj48, rfl, rfl, o, HT, hu2⟩ := hrel
    have HR := Lib.hid hr
    have HU := Lib.hid hU
    have HV := Lib.hid hV
    obtain ⟨p, hp⟩ : ∃ p, P'.length = p := ⟨_, rfl⟩
    have HP := Lib.hid hp
    have hpm : p + i = m := by omega
    have HPM := Lib.hid hpm
    have v1 : IntKind.i64.wrap ((m : Int) - (i : Int)) = (p : Int) := by rw [IntWalk.i64_in _ (by omega)]; omega
    clear hr hU hV hp hPi hpm
    by_cases hij : i = j
    · have d1 : ((i : Int) != (j : Int)) = false := by rw [hij]; exact bne_self_eq_false _
      have HSW := Lib.hid (swapRange_any N g cg base P' U' [] V' S' p m i fv wr (by simpa using o) HU.out (by rw [HV.out, hij]) HP.out.symm (by have := HPM.out; rw [HP.out]; simp; omega) hN)
      clear hij
      go_wp2_with fail
      refine HSW.out.mono ?_
      rintro e w2 ⟨rfl, o2, u2⟩
      have o3 : OwnI 2 base w2 (some ⟨g, 0, none⟩) N cg T := by rw [← HT.out]; simpa using o2
      go_wp2_with fail
      go_end0
      exact ⟨rfl, o3, hu2.trans u2⟩
    · have d1 : ((i : Int) != (j : Int)) = true := by rw [bne_iff_ne]; omega
      by_cases hgt : j < i
      · have d2 : decide ((i : Int) > (j : Int)) = true := decide_eq_true (by omega)
        have d3 : decide ((j : Int) < (i : Int)) = true := decide_eq_true (by omega)
        have e1 : U' = U'.take j ++ U'.drop j := (List.take_append_drop j U').symm
        have l1 : (U'.take j).length = j := by rw [List.length_take, HU.out]; omega
        have l2 : (U'.drop j).length = i - j := by rw [List.length_drop, HU.out]
        have HSW := Lib.hid (swapRange_any N g cg base P' (U'.take j) (U'.drop j) V' S' p m j fv wr (by
          have h := o
          rw [e1, List.append_assoc] at h
          exact h) l1 HV.out HP.out.symm (by have := HPM.out; rw [HP.out, l2]; omega) hN)
        have v2 : IntKind.i64.wrap ((i : Int) - (j : Int)) = ((i - j : Nat) : Int) := by rw [IntWalk.i64_in _ (by omega)]; omega
        have HL1 := Lib.hid l1
        have HL2 := Lib.hid l2
        have HTN := Lib.hid (show (P' ++ V') ++ (U'.take j ++ (U'.drop j ++ S')) = T from by
          have h := HT.out
          rw [e1, List.append_assoc (U'.take j)] at h
          rw [List.append_assoc]
          exact h)
        clear l1 l2 e1 o
        go_wp2_with fail
        refine HSW.out.mono ?_
        rintro e w2 ⟨rfl, o2, u2⟩
        go_wp2_with fail
        go_roundg (i - j + j)
        case measure => rw [HR.out]; omega
        case rel => exact ⟨P' ++ V', U'.drop j, U'.take j, S', i - j, j, rfl, HL2.out, HL1.out, by omega, hj, by have := HPM.out; rw [List.length_append, HP.out, HV.out]; omega, by omega, hj48, by first | rfl | go_num, rfl, by simpa using o2, HTN, hu2.trans u2⟩
      · have d2 : decide ((i : Int) > (j : Int)) = false := decide_eq_false (by omega)
        have hlt : i < j := by omega
        obtain ⟨q, hq⟩ : ∃ q : Nat, q + i = m + j := ⟨m + j - i, by omega⟩
        have HQ := Lib.hid hq
        have e1 : V' = V'.take (j - i) ++ V'.drop (j - i) := (List.take_append_drop (j - i) V').symm
        have l1 : (V'.take (j - i)).length = j - i := by rw [List.length_take, HV.out]; omega
        have l2 : (V'.drop (j - i)).length = i := by rw [List.length_drop, HV.out]; omega
        have HSW := Lib.hid (swapRange_any N g cg base P' U' (V'.take (j - i)) (V'.drop (j - i)) S' p q i fv wr (by
          have h := o
          rw [e1, List.append_assoc] at h
          exact h) HU.out l2 HP.out.symm (by have := HPM.out; have := HQ.out; rw [HP.out, l1]; omega) hN)
        have v2 : IntKind.i64.wrap ((j : Int) - (i : Int)) = ((j - i : Nat) : Int) := by rw [IntWalk.i64_in _ (by omega)]; omega
        have v3 : IntKind.i64.wrap ((m : Int) + (j : Int)) = (m : Int) + (j : Int) := IntWalk.i64_in _ (by omega)
        have v4 : IntKind.i64.wrap ((m : Int) + (j : Int) - (i : Int)) = (q : Int) := by rw [IntWalk.i64_in _ (by omega)]; omega
        clear hq
        have HL1 := Lib.hid l1
        have HL2 := Lib.hid l2
        have HTN := Lib.hid (show P' ++ (V'.take (j - i) ++ (V'.drop (j - i) ++ (U' ++ S'))) = T from by
          have h := HT.out
          rw [e1, List.append_assoc] at h
          exact h)
        clear l1 l2 e1 o
        go_wp2_with fail
        refine HSW.out.mono ?_
        rintro e w2 ⟨rfl, o2, u2⟩
        go_wp2_with fail
        go_roundg (i + (j - i))
        case measure => rw [HR.out]; omega
        case rel => exact ⟨P', V'.drop (j - i), V'.take (j - i), U' ++ S', i, j - i, rfl, HL2.out, HL1.out, hi, by omega, by rw [HP.out]; exact HPM.out, hi48, by omega, rfl, by first | rfl | go_num, by simpa using o2, HTN, hu2.trans u2⟩
end Go.Proofs.YtigaopfhjimpmaaDoor
