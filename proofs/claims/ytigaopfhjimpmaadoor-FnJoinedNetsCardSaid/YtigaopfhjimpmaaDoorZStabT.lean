/- Sorting that keeps the order of equals: the library's sort, walked, up to 48 numbers. -/
import Derived.Test.YtigaopfhjimpmaaDoorZStabN
namespace Go.Proofs.YtigaopfhjimpmaaDoor
open Go.RowKit

theorem seqI_app (k : Int) (a b : Nat) : seqI k (a + b) = seqI k a ++ seqI (k + a) b := by
  unfold seqI
  rw [List.range_add, List.map_append, List.map_map]
  congr 1
  apply List.map_congr_left
  intro x _
  show k + ((a + x : Nat) : Int) = k + a + (x : Int)
  omega
theorem seqI_up (k : Int) (n : Nat) : (seqI k n).Pairwise (· < ·) := by
  unfold seqI
  rw [List.pairwise_map]
  exact List.pairwise_lt_range.imp fun h => by omega
theorem seqI_in {k : Int} {n : Nat} {x : Int} : x ∈ seqI k n ↔ k ≤ x ∧ x < k + n := by
  unfold seqI
  rw [List.mem_map]
  constructor
  · rintro ⟨j, hj, rfl⟩
    rw [List.mem_range] at hj
    omega
  · rintro ⟨h1, h2⟩
    exact ⟨(x - k).toNat, List.mem_range.2 (by omega), by omega⟩
theorem merge_any (N g gS cg base : Nat) (ct : Int → Int) (w0 : World) (HC : CmpC N g gS ct w0) (hN : N ≤ 48) : ∀ s, MergeC N g gS cg base ct w0 s
  | 0 => fun P L X S a m b w hs hw0 o ha hm hb hL0 hX0 hL hX hlt hr => by omega
  | s + 1 => fun P L X S a m b w hs hw0 o ha hm hb hL0 hX0 hL hX hlt hr => by
    by_cases h1 : L.length = 1
    · obtain ⟨x, rfl⟩ := List.length_eq_one_iff.1 h1
      exact symM_left N g gS cg base ct w0 HC P X S x a m b w hw0 o ha hm hb hX (fun y hy => hlt x (by simp) y hy) hr hN
    · by_cases h2 : X.length = 1
      · obtain ⟨x, rfl⟩ := List.length_eq_one_iff.1 h2
        exact symM_right N g gS cg base ct w0 HC P L S x a m b w hw0 o ha hm hb (by omega) hL (fun y hy => hlt y hy x (by simp)) hr hN
      · exact symM_rec N g gS cg base ct w0 HC s (merge_any N g gS cg base ct w0 HC hN s) P L X S a m b w w hs hw0 (Upd.refl _ _) o ha hm hb (by omega) (by omega) hL hX hlt hr hN
/-- three sorted parts -/
structure Seg3 (ct : Int → Int) (n : Nat) (A B C : List Int) : Prop where
  a1 : A.Perm (seqI 0 (min n 20))
  a2 : SortC ct A
  b1 : B.Perm (seqI 20 (min (n - 20) 20))
  b2 : SortC ct B
  c1 : C.Perm (seqI 40 (n - 40))
  c2 : SortC ct C
/-- parts of twenty that are sorted -/
def SegQ (ct : Int → Int) (t : Nat) (Q : List Int) : Prop := (t = 0 → Q = []) ∧ (t = 1 → Q.Perm (seqI 0 20) ∧ SortC ct Q) ∧ (t = 2 → ∃ A B, Q = A ++ B ∧ A.Perm (seqI 0 20) ∧ SortC ct A ∧ B.Perm (seqI 20 20) ∧ SortC ct B)
theorem segQ_next {ct : Int → Int} {t : Nat} {Q M : List Int} (ht : t ≤ 1) (h : SegQ ct t Q) (h1 : M.Perm (seqI (20 * t : Nat) 20)) (h2 : SortC ct M) : SegQ ct (t + 1) (Q ++ M) := by
  obtain ⟨a, b, _⟩ := h
  rcases Nat.eq_zero_or_pos t with e | e
  · subst e
    refine ⟨fun e => by omega, fun _ => ?_, fun e => by omega⟩
    rw [a rfl, List.nil_append]; exact ⟨h1, h2⟩
  · have : t = 1 := by omega
    subst this
    obtain ⟨b1, b2⟩ := b rfl
    exact ⟨fun e => by omega, fun e => by omega, fun _ => ⟨Q, M, rfl, b1, b2, h1, h2⟩⟩
theorem seg_three {ct : Int → Int} {t n : Nat} {Q M : List Int} (ht : t ≤ 2) (hn : 20 * t ≤ n) (hn2 : n < 20 * t + 20) (h : SegQ ct t Q) (h1 : M.Perm (seqI (20 * t : Nat) (n - 20 * t))) (h2 : SortC ct M) : ∃ A B C, Q ++ M = A ++ (B ++ C) ∧ Seg3 ct n A B C := by
  obtain ⟨a, b, c⟩ := h
  have nil : ∀ k : Int, ([] : List Int).Perm (seqI k 0) := fun k => List.Perm.refl _
  match t, ht with
  | 0, _ =>
    refine ⟨M, [], [], by rw [a rfl]; simp, ⟨?_, h2, ?_, List.Pairwise.nil, ?_, List.Pairwise.nil⟩⟩
    · rw [show min n 20 = n by omega]; exact h1
    · rw [show min (n - 20) 20 = 0 by omega]; exact nil _
    · rw [show n - 40 = 0 by omega]; exact nil _
  | 1, _ =>
    obtain ⟨b1, b2⟩ := b rfl
    refine ⟨Q, M, [], by simp, ⟨?_, b2, ?_, h2, ?_, List.Pairwise.nil⟩⟩
    · rw [show min n 20 = 20 by omega]; exact b1
    · rw [show min (n - 20) 20 = n - 20 by omega]; exact h1
    · rw [show n - 40 = 0 by omega]; exact nil _
  | 2, _ =>
    obtain ⟨A, B, e, b1, b2, b3, b4⟩ := c rfl
    refine ⟨A, B, M, by rw [e]; simp, ⟨?_, b2, ?_, b4, h1, h2⟩⟩
    · rw [show min n 20 = 20 by omega]; exact b1
    · rw [show min (n - 20) 20 = 20 by omega]; exact b3
set_option maxRecDepth 100000 in
set_option maxHeartbeats 1600000 in
theorem stable_any (n g gS cg base : Nat) (ct : Int → Int) (w : World) (HC : CmpC n g gS ct w) (o : OwnI 2 base w (some ⟨g, 0, none⟩) n cg (seqI 0 n)) (hN : n ≤ 48) :
    Calls Tryd.prog 51 #[.slice (some ⟨g, 0, none⟩) n cg, .int .i64 n, .func (.func 34) #[] #[.pointer (some ⟨gS, 0, none⟩)]] w fun e w' => e = .returned (.tuple #[]) ∧ ∃ M, OwnI 2 base w' (some ⟨g, 0, none⟩) n cg M ∧ M.Perm (seqI 0 n) ∧ SortC ct M ∧ Upd (blk (some ⟨g, 0, none⟩)) w w' := by
  have HINS := Lib.hid (fun (P Z S : List Int) (a b : Nat) (w1 : World) (h1 : Upd (blk (some ⟨g, 0, none⟩)) w w1) (o1 : OwnI 2 base w1 (some ⟨g, 0, none⟩) n cg (P ++ (Z ++ S))) (h2 : a = P.length) (h3 : b = P.length + Z.length) (h4 : Z.Pairwise (· < ·)) (h5 : AllR n (P ++ (Z ++ S))) => insPart_any n g gS cg base ct w HC P Z S a b w1 h1 o1 h2 h3 h4 h5 hN)
  have HMRG := Lib.hid (fun s => merge_any n g gS cg base ct w HC hN s)
  clear HC
  go_enter Tryd.func51, Tryd.ntmps51
  go_wp2_with fail
  go_loopg [7, 8] 3 (fun r av bv wr => ∃ (t : Nat) (Q : List Int), r = 3 - t ∧ t ≤ 2 ∧ 20 * t ≤ n ∧ av = .int .i64 ((20 * t : Nat) : Int) ∧ bv = .int .i64 ((20 * t + 20 : Nat) : Int) ∧ Hid (Q.length = 20 * t) ∧ Hid (SegQ ct t Q) ∧ Hid (AllR n Q) ∧ OwnI 2 base wr (some ⟨g, 0, none⟩) n cg (Q ++ seqI (20 * t : Nat) (n - 20 * t)) ∧ Upd (blk (some ⟨g, 0, none⟩)) w wr)
  case atStart => exact ⟨0, [], rfl, by omega, by omega, rfl, rfl, Lib.hid rfl, Lib.hid ⟨fun _ => rfl, fun h => by omega, fun h => by omega⟩, Lib.hid (fun x hx => by cases hx), o, Upd.refl _ _⟩
  case round =>
    clear o
    obtain ⟨t, Q, hr, ht2, htn, rfl, rfl, HQL, HSQ, HAQ, o, hu⟩ := hrel
    have HR := Lib.hid hr
    clear hr
    by_cases hlt : 20 * t + 20 ≤ n
    · have ht1 : t ≤ 1 := by omega
      have hsp : seqI (20 * t : Nat) (n - 20 * t) = seqI (20 * t : Nat) 20 ++ seqI (20 * (t + 1) : Nat) (n - 20 * (t + 1)) := by
        have h := seqI_app ((20 * t : Nat) : Int) 20 (n - 20 * (t + 1))
        rw [show 20 + (n - 20 * (t + 1)) = n - 20 * t by omega, show ((20 * t : Nat) : Int) + ((20 : Nat) : Int) = ((20 * (t + 1) : Nat) : Int) by omega] at h
        exact h
      rw [hsp] at o
      have HSQI := Lib.hid (show ∀ x ∈ seqI (20 * t : Nat) 20 ++ seqI (20 * (t + 1) : Nat) (n - 20 * (t + 1)), 0 ≤ x ∧ x < (n : Int) from fun x hx => by
        rw [← hsp, seqI_in] at hx; omega)
      have HI := Lib.hid (HINS.out Q (seqI (20 * t : Nat) 20) (seqI (20 * (t + 1) : Nat) (n - 20 * (t + 1))) (20 * t) (20 * t + 20) wr hu o HQL.out.symm (by rw [HQL.out, seqI_len]) (seqI_up _ _) (fun x hx => by
        rcases List.mem_append.1 hx with h | h
        · exact HAQ.out x h
        · exact HSQI.out x h))
      have HNX := Lib.hid (fun (M : List Int) (p : M.Perm (seqI (20 * t : Nat) 20)) (q : SortC ct M) => segQ_next ht1 HSQ.out p q)
      have h1 : ((20 * t + 20 : Nat) : Int) ≤ (n : Int) := by omega
      have e20 : ((20 * t + 20 : Nat) : Int) = ((20 * (t + 1) : Nat) : Int) := by omega
      have HE20 := Lib.hid e20
      have v1 : IntKind.i64.wrap (((20 * t + 20 : Nat) : Int) + 20) = ((20 * (t + 1) + 20 : Nat) : Int) := by rw [IntWalk.i64_in _ (by omega)]; omega
      clear o hsp e20
      go_wp2_with fail
      refine HI.out.mono ?_
      rintro e w2 ⟨rfl, M, o2, p2, s2, u2⟩
      have HP2 := Lib.hid p2
      have HS2 := Lib.hid s2
      clear p2 s2
      go_wp2_with fail
      go_roundg (3 - (t + 1))
      case measure => rw [HR.out]; omega
      case rel => exact ⟨t + 1, Q ++ M, rfl, by omega, by omega, by first | rfl | (rw [HE20.out]), by first | rfl | go_num, Lib.hid (by rw [List.length_append, HQL.out, HP2.out.length_eq, seqI_len]; omega), Lib.hid (HNX.out M HP2.out HS2.out), Lib.hid (fun x hx => by
          rcases List.mem_append.1 hx with h | h
          · exact HAQ.out x h
          · exact HSQI.out x (List.mem_append_left _ (HP2.out.mem_iff.1 h))), by simpa using o2, hu.trans u2⟩
    · have HSQI := Lib.hid (show ∀ x ∈ seqI (20 * t : Nat) (n - 20 * t), 0 ≤ x ∧ x < (n : Int) from fun x hx => by rw [seqI_in] at hx; omega)
      have HI := Lib.hid (HINS.out Q (seqI (20 * t : Nat) (n - 20 * t)) [] (20 * t) n wr hu (by rw [List.append_nil]; exact o) HQL.out.symm (by rw [HQL.out, seqI_len]; omega) (seqI_up _ _) (fun x hx => by
        rw [List.append_nil] at hx
        rcases List.mem_append.1 hx with h | h
        · exact HAQ.out x h
        · exact HSQI.out x h))
      have HT3 := Lib.hid (fun (M : List Int) (p : M.Perm (seqI (20 * t : Nat) (n - 20 * t))) (q : SortC ct M) => seg_three ht2 htn (by omega) HSQ.out p q)
      have h1 : ¬ ((20 * t + 20 : Nat) : Int) ≤ (n : Int) := by omega
      clear o
      go_wp2_with fail
      refine HI.out.mono ?_
      rintro e w2 ⟨rfl, M, o2, p2, s2, u2⟩
      obtain ⟨A, B, C, e3, h3⟩ := HT3.out M p2 s2
      rw [List.append_nil, e3] at o2
      have H3 := Lib.hid h3
      have hu2 := hu.trans u2
      have HOA := Lib.hid (show ∀ x ∈ A ++ (B ++ C), 0 ≤ x ∧ x < (n : Int) from fun x hx => by
        rcases List.mem_append.1 hx with h | h
        · rw [h3.a1.mem_iff, seqI_in] at h; omega
        · rcases List.mem_append.1 h with h | h
          · rw [h3.b1.mem_iff, seqI_in] at h; omega
          · rw [h3.c1.mem_iff, seqI_in] at h; omega)
      have HALN := Lib.hid (show A.length = min n 20 from by rw [h3.a1.length_eq, seqI_len])
      have HBLN := Lib.hid (show B.length = min (n - 20) 20 from by rw [h3.b1.length_eq, seqI_len])
      have HCLN := Lib.hid (show C.length = n - 40 from by rw [h3.c1.length_eq, seqI_len])
      have HAB := Lib.hid (show ∀ y ∈ A, ∀ x ∈ B, y < x from fun y hy x hx => by
        rw [h3.a1.mem_iff, seqI_in] at hy
        rw [h3.b1.mem_iff, seqI_in] at hx
        omega)
      have HDP := Lib.hid (show ∀ D : List Int, D.Perm (A ++ B) → D.Perm (seqI 0 (min n 40)) from fun D hD => by
        refine (hD.trans (h3.a1.append h3.b1)).trans ?_
        by_cases hn : n ≤ 20
        · rw [show min (n - 20) 20 = 0 by omega, show min n 20 = min n 40 by omega]
          simp [seqI]
        · have h := seqI_app 0 20 (min (n - 20) 20)
          rw [show 20 + min (n - 20) 20 = min n 40 by omega, show (0 : Int) + ((20 : Nat) : Int) = 20 from rfl] at h
          rw [h, show min n 20 = 20 by omega])
      clear p2 s2 e3 h3 hu u2 HI
      go_wp2_with fail
      go_loopg [6] 2 (fun r s6 wr => (r = 2 ∧ s6 = .int .i64 20 ∧ OwnI 2 base wr (some ⟨g, 0, none⟩) n cg (A ++ (B ++ C)) ∧ Upd (blk (some ⟨g, 0, none⟩)) w wr) ∨ (r = 1 ∧ 20 < n ∧ s6 = .int .i64 40 ∧ Upd (blk (some ⟨g, 0, none⟩)) w wr ∧ ∃ D, OwnI 2 base wr (some ⟨g, 0, none⟩) n cg (D ++ C) ∧ Hid (D.Perm (seqI 0 (min n 40))) ∧ Hid (SortC ct D)) ∨ (r = 0 ∧ 40 < n ∧ s6 = .int .i64 80 ∧ Upd (blk (some ⟨g, 0, none⟩)) w wr ∧ ∃ E, OwnI 2 base wr (some ⟨g, 0, none⟩) n cg E ∧ Hid (E.Perm (seqI 0 n)) ∧ Hid (SortC ct E)))
      case atStart => exact .inl ⟨rfl, rfl, o2, hu2⟩
      case round =>
        clear o2 hu2
        rcases hrel with ⟨hr, rfl, o, hu⟩ | ⟨hr, hn20, rfl, hu, D, o, HD1, HD2⟩ | ⟨hr, hn40, rfl, hu, E, o, HE1, HE2⟩
        · have HR := Lib.hid hr
          clear hr
          by_cases hn20 : 20 < n
          · have c1 : (20 : Int) < (n : Int) := by omega
            by_cases hn40 : 40 ≤ n
            · have c2 : (40 : Int) ≤ (n : Int) := by omega
              have HI := Lib.hid (show Calls Tryd.prog 57 #[.slice (some ⟨g, 0, none⟩) n cg, .int .i64 0, .int .i64 20, .int .i64 40, .func (.func 34) #[] #[.pointer (some ⟨gS, 0, none⟩)]] wr fun e w' => e = .returned (.tuple #[]) ∧ ∃ M, OwnI 2 base w' (some ⟨g, 0, none⟩) n cg ([] ++ (M ++ C)) ∧ M.Perm (A ++ B) ∧ SortC ct M ∧ Upd (blk (some ⟨g, 0, none⟩)) wr w' from HMRG.out 40 [] A B C 0 20 40 wr (by rw [HALN.out, HBLN.out]; omega) hu o rfl (by rw [HALN.out]; omega) (by rw [HBLN.out]; omega) (by rw [HALN.out]; omega) (by rw [HBLN.out]; omega) H3.out.a2 H3.out.b2 HAB.out HOA.out)
              clear o
              go_wp2_with fail
              obtain ⟨wb, hwb⟩ : ∃ z : World, z = wr := ⟨_, rfl⟩
              go_loopg [7, 8] 1 (fun r av bv wi => (r = 1 ∧ av = .int .i64 0 ∧ bv = .int .i64 40 ∧ wr = wi) ∨ (r = 0 ∧ av = .int .i64 40 ∧ bv = .int .i64 80 ∧ Upd (blk (some ⟨g, 0, none⟩)) w wi ∧ ∃ D, OwnI 2 base wi (some ⟨g, 0, none⟩) n cg (D ++ C) ∧ Hid (D.Perm (seqI 0 (min n 40))) ∧ Hid (SortC ct D)))
              case atStart => exact .inl ⟨rfl, rfl, rfl, rfl⟩
              case round =>
                rcases hrel with ⟨_, rfl, rfl, rfl⟩ | ⟨_, rfl, rfl, hu3, D, o3, HD1, HD2⟩
                · go_wp2_with fail
                  refine HI.out.mono ?_
                  rintro e w3 ⟨rfl, D, o3, p3, s3, u3⟩
                  have HP3 := Lib.hid (HDP.out D p3)
                  have HS3 := Lib.hid s3
                  clear p3 s3
                  go_wp2_with fail
                  go_roundg 0
                  case measure => omega
                  case rel => exact .inr ⟨rfl, rfl, rfl, hu.trans u3, D, by simpa using o3, HP3, HS3⟩
                · have c3 : ¬ (80 : Int) ≤ (n : Int) := by omega
                  have c4 : ¬ (60 : Int) < (n : Int) := by omega
                  go_wp2_with fail
                  go_roundg 1
                  case measure => rw [HR.out]; omega
                  case rel => exact .inr (.inl ⟨rfl, hn20, rfl, hu3, D, o3, HD1, HD2⟩)
            · have c2 : ¬ (40 : Int) ≤ (n : Int) := by omega
              have hC : C = [] := List.eq_nil_of_length_eq_zero (by rw [HCLN.out]; omega)
              have HI := Lib.hid (show Calls Tryd.prog 57 #[.slice (some ⟨g, 0, none⟩) n cg, .int .i64 0, .int .i64 20, .int .i64 (n : Int), .func (.func 34) #[] #[.pointer (some ⟨gS, 0, none⟩)]] wr fun e w' => e = .returned (.tuple #[]) ∧ ∃ M, OwnI 2 base w' (some ⟨g, 0, none⟩) n cg ([] ++ (M ++ C)) ∧ M.Perm (A ++ B) ∧ SortC ct M ∧ Upd (blk (some ⟨g, 0, none⟩)) wr w' from HMRG.out 40 [] A B C 0 20 n wr (by rw [HALN.out, HBLN.out]; omega) hu o rfl (by rw [HALN.out]; omega) (by rw [HBLN.out]; omega) (by rw [HALN.out]; omega) (by rw [HBLN.out]; omega) H3.out.a2 H3.out.b2 HAB.out HOA.out)
              clear o hC
              go_wp2_with fail
              obtain ⟨wb, hwb⟩ : ∃ z : World, z = wr := ⟨_, rfl⟩
              go_loopg [7, 8] 0 (fun r av bv wi => r = 0 ∧ av = .int .i64 0 ∧ bv = .int .i64 40 ∧ wr = wi)
              case atStart => exact ⟨rfl, rfl, rfl, rfl⟩
              case round =>
                obtain ⟨_, rfl, rfl, rfl⟩ := hrel
                go_wp2_with fail
                refine HI.out.mono ?_
                rintro e w3 ⟨rfl, D, o3, p3, s3, u3⟩
                have HP3 := Lib.hid (HDP.out D p3)
                have HS3 := Lib.hid s3
                clear p3 s3
                go_wp2_with fail
                go_roundg 1
                case measure => rw [HR.out]; omega
                case rel => exact .inr (.inl ⟨rfl, hn20, rfl, hu.trans u3, D, by simpa using o3, HP3, HS3⟩)
          · have c1 : ¬ (20 : Int) < (n : Int) := by omega
            have HF := Lib.hid (show (A ++ (B ++ C)) = A ∧ A.Perm (seqI 0 n) from by
              have hB : B = [] := List.eq_nil_of_length_eq_zero (by rw [HBLN.out]; omega)
              have hC : C = [] := List.eq_nil_of_length_eq_zero (by rw [HCLN.out]; omega)
              refine ⟨by rw [hB, hC]; simp, ?_⟩
              have := H3.out.a1
              rw [show min n 20 = n by omega] at this
              exact this)
            rw [HF.out.1] at o
            go_wp2_with fail
            go_end0
            exact ⟨rfl, A, o, HF.out.2, H3.out.a2, hu⟩
        · have HR := Lib.hid hr
          clear hr
          by_cases hn40 : 40 < n
          · have c1 : (40 : Int) < (n : Int) := by omega
            have c2 : ¬ (80 : Int) ≤ (n : Int) := by omega
            have HDL := Lib.hid (show D.length = 40 from by rw [HD1.out.length_eq, seqI_len]; omega)
            have HI := Lib.hid (show Calls Tryd.prog 57 #[.slice (some ⟨g, 0, none⟩) n cg, .int .i64 0, .int .i64 40, .int .i64 (n : Int), .func (.func 34) #[] #[.pointer (some ⟨gS, 0, none⟩)]] wr fun e w' => e = .returned (.tuple #[]) ∧ ∃ M, OwnI 2 base w' (some ⟨g, 0, none⟩) n cg ([] ++ (M ++ [])) ∧ M.Perm (D ++ C) ∧ SortC ct M ∧ Upd (blk (some ⟨g, 0, none⟩)) wr w' from HMRG.out 48 [] D C [] 0 40 n wr (by rw [HDL.out, HCLN.out]; omega) hu (by rw [List.append_nil]; exact o) rfl (by rw [HDL.out]) (by rw [HCLN.out]; omega) (by rw [HDL.out]; omega) (by rw [HCLN.out]; omega) HD2.out H3.out.c2 (fun y hy x hx => by
                rw [HD1.out.mem_iff, seqI_in] at hy
                rw [H3.out.c1.mem_iff, seqI_in] at hx
                omega) (fun x hx => by
                rw [List.append_nil, List.nil_append] at hx
                rcases List.mem_append.1 hx with h | h
                · rw [HD1.out.mem_iff, seqI_in] at h; omega
                · rw [H3.out.c1.mem_iff, seqI_in] at h; omega))
            have HEP := Lib.hid (show ∀ E : List Int, E.Perm (D ++ C) → E.Perm (seqI 0 n) from fun E hE => by
              refine (hE.trans (HD1.out.append H3.out.c1)).trans ?_
              have h := seqI_app 0 40 (n - 40)
              rw [show 40 + (n - 40) = n by omega, show (0 : Int) + ((40 : Nat) : Int) = 40 from rfl] at h
              rw [h, show min n 40 = 40 by omega])
            clear o
            go_wp2_with fail
            obtain ⟨wb, hwb⟩ : ∃ z : World, z = wr := ⟨_, rfl⟩
            go_loopg [7, 8] 0 (fun r av bv wi => r = 0 ∧ av = .int .i64 0 ∧ bv = .int .i64 80 ∧ wr = wi)
            case atStart => exact ⟨rfl, rfl, rfl, rfl⟩
            case round =>
              obtain ⟨_, rfl, rfl, rfl⟩ := hrel
              go_wp2_with fail
              refine HI.out.mono ?_
              rintro e w3 ⟨rfl, E, o3, p3, s3, u3⟩
              have HP3 := Lib.hid (HEP.out E p3)
              have HS3 := Lib.hid s3
              clear p3 s3
              go_wp2_with fail
              go_roundg 0
              case measure => rw [HR.out]; omega
              case rel => exact .inr (.inr ⟨rfl, hn40, rfl, hu.trans u3, E, by simpa using o3, HP3, HS3⟩)
          · have c1 : ¬ (40 : Int) < (n : Int) := by omega
            have HF := Lib.hid (show D ++ C = D ∧ D.Perm (seqI 0 n) from by
              have hC : C = [] := List.eq_nil_of_length_eq_zero (by rw [HCLN.out]; omega)
              refine ⟨by rw [hC]; simp, ?_⟩
              have := HD1.out
              rw [show min n 40 = n by omega] at this
              exact this)
            rw [HF.out.1] at o
            go_wp2_with fail
            go_end0
            exact ⟨rfl, D, o, HF.out.2, HD2.out, hu⟩
        · have c1 : ¬ (80 : Int) < (n : Int) := by omega
          clear hr
          go_wp2_with fail
          go_end0
          exact ⟨rfl, E, o, HE1.out, HE2.out, hu⟩
theorem sortStable_any (n g gS cg base : Nat) (ct : Int → Int) (w : World) (HC : CmpC n g gS ct w) (o : OwnI 2 base w (some ⟨g, 0, none⟩) n cg (seqI 0 n)) (hN : n ≤ 48) :
    Calls Tryd.prog 33 #[.slice (some ⟨g, 0, none⟩) n cg, .func (.func 34) #[] #[.pointer (some ⟨gS, 0, none⟩)]] w fun e w' => e = .returned (.tuple #[]) ∧ ∃ M, OwnI 2 base w' (some ⟨g, 0, none⟩) n cg M ∧ M.Perm (seqI 0 n) ∧ SortC ct M ∧ Upd (blk (some ⟨g, 0, none⟩)) w w' := by
  have HS := Lib.hid (stable_any n g gS cg base ct w HC o hN)
  clear HC
  go_enter Tryd.func33, Tryd.ntmps33
  go_wp2_with fail
  refine HS.out.mono ?_
  rintro e w2 ⟨rfl, M, o2, p2, s2, u2⟩
  have HP2 := Lib.hid p2
  have HS2 := Lib.hid s2
  clear p2 s2
  go_wp2_with fail
  go_end0
  exact ⟨rfl, M, o2, HP2.out, HS2.out, u2⟩
end Go.Proofs.YtigaopfhjimpmaaDoor
