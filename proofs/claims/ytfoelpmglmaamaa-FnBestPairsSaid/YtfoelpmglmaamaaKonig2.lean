/- The cover of all pairs is as great as what is matched: in plain lists. -/
import Derived.Test.YtfoelpmglmaamaaKonig
namespace Go.Proofs.Ytfoelpmglmaamaa
open Go.RowKit

/-- what a state of the search for the cover is like -/
structure CvI (l r : Nat) (S : Int → Prop) (T : Nat → Prop) (Lm O : List Int) (s : CovS) : Prop where
  al : s.a.length = l
  rl : s.r.length = r
  a1 : ∀ u, u < l → s.a.getD u false = false → S (u : Int)
  a2 : ∀ y, y < r → s.r.getD y false = true → T y ∧ s.a.getD (O.getD y 0).toNat false = false
  a3 : ∀ u : Nat, u < l → s.a.getD u false = false → (u : Int) ∈ s.q
  a3' : ∀ x ∈ s.q, ∃ u : Nat, x = u ∧ u < l ∧ s.a.getD u false = false
  a5 : ∀ u : Nat, u < l → s.a.getD u false = false → Lm.getD u 0 < 0 ∨ ∃ y, y < r ∧ s.r.getD y false = true ∧ O.getD y 0 = (u : Int)
  a6 : ∀ u, u < l → s.a.getD u false = true → 0 ≤ Lm.getD u 0
/-- one state behind another -/
structure CvM (s s' : CovS) : Prop where
  r : ∀ y, s.r.getD y false = true → s'.r.getD y false = true
  q : ∃ ys, s'.q = s.q ++ ys
theorem CvM.refl (s : CovS) : CvM s s := ⟨fun _ h => h, [], by simp⟩
theorem CvM.trans {s s' s'' : CovS} (h : CvM s s') (k : CvM s' s'') : CvM s s'' := by
  obtain ⟨ys, h2⟩ := h.q
  obtain ⟨zs, k2⟩ := k.q
  exact ⟨fun y hy => k.r y (h.r y hy), ys ++ zs, by rw [k2, h2, List.append_assoc]⟩
section
variable {ps O Lm : List Int} {m l r : Nat} {S : Int → Prop} {T : Nat → Prop}
theorem cv_one (hps : PairsOk ps m l r) (hH : HallP ps m S T O) (hO : ∀ y, y < r → O.getD y 0 < l) {u : Int} {j : Nat} {s : CovS} (hj : j < m) (hu : S u) (h : CvI l r S T Lm O s) : CvI l r S T Lm O (covOne ps O u j s) ∧ CvM s (covOne ps O u j s) ∧ (pX ps j = u → (covOne ps O u j s).r.getD (pY ps j) false = true) := by
  obtain ⟨_, b0, b1⟩ := hps j hj
  have hy : pY ps j < r := by unfold pY; omega
  by_cases h1 : pX ps j = u
  · by_cases h2 : s.r.getD (pY ps j) false = true
    · rw [one_no2 h2]; exact ⟨h, CvM.refl s, fun _ => h2⟩
    · have h2 : s.r.getD (pY ps j) false = false := Bool.not_eq_true _ ▸ h2
      have hT := hH.1 j hj (by rw [h1]; exact hu)
      obtain ⟨o1, o2⟩ := hH.2 _ hT
      have o3 := hO _ hy
      obtain ⟨y, hyd⟩ : ∃ y, pY ps j = y := ⟨_, rfl⟩
      obtain ⟨o, hod⟩ : ∃ o : Nat, O.getD y 0 = o := ⟨(O.getD y 0).toNat, by rw [← hyd]; omega⟩
      rw [hyd] at h2 hT o1 o2 o3 hy ⊢
      rw [hod] at o1 o2 o3
      have hr : ∀ z, (s.r.set y true).getD z false = if y = z then true else s.r.getD z false := fun z => gB_set _ _ z _ (by rw [h.rl]; exact hy)
      by_cases h3 : s.a.getD o false = true
      · have hone := one_both (ps := ps) (O := O) (u := u) (j := j) (s := s) h1 (by rw [hyd]; exact h2) (by rw [hyd, hod, Int.toNat_natCast]; exact ⟨by omega, h3⟩)
        rw [hyd, hod, Int.toNat_natCast] at hone
        rw [hone]
        have ha : ∀ z, (s.a.set o false).getD z false = if o = z then false else s.a.getD z false := fun z => gB_set _ _ z _ (by rw [h.al]; omega)
        refine ⟨⟨by show (s.a.set o false).length = l; rw [List.length_set]; exact h.al, by show (s.r.set y true).length = r; rw [List.length_set]; exact h.rl, fun v hv hav => ?_, fun z hz hrz => ?_, fun v hv hav => ?_, fun x hx => ?_, fun v hv hav => ?_, fun v hv hav => ?_⟩, ⟨fun z hz => ?_, [(o : Int)], rfl⟩, fun _ => ?_⟩
        · have hav : (s.a.set o false).getD v false = false := hav
          by_cases e : o = v
          · subst e; exact o2
          · rw [ha, if_neg e] at hav; exact h.a1 v hv hav
        · have hrz : (s.r.set y true).getD z false = true := hrz
          show T z ∧ (s.a.set o false).getD (O.getD z 0).toNat false = false
          rw [ha]
          by_cases e : y = z
          · subst e; rw [hod, Int.toNat_natCast, if_pos rfl]; exact ⟨hT, rfl⟩
          · rw [hr, if_neg e] at hrz
            obtain ⟨g1, g2⟩ := h.a2 z hz hrz
            exact ⟨g1, by split; rfl; exact g2⟩
        · have hav : (s.a.set o false).getD v false = false := hav
          show (v : Int) ∈ s.q ++ [(o : Int)]
          rw [List.mem_append, List.mem_singleton]
          by_cases e : o = v
          · subst e; exact .inr rfl
          · rw [ha, if_neg e] at hav; exact .inl (h.a3 v hv hav)
        · have hx : x ∈ s.q ++ [(o : Int)] := hx
          rw [List.mem_append, List.mem_singleton] at hx
          show ∃ v : Nat, x = v ∧ v < l ∧ (s.a.set o false).getD v false = false
          rcases hx with hx | rfl
          · obtain ⟨v, g1, g2, g3⟩ := h.a3' x hx
            exact ⟨v, g1, g2, by rw [ha]; split; rfl; exact g3⟩
          · exact ⟨o, rfl, by omega, by rw [ha, if_pos rfl]⟩
        · have hav : (s.a.set o false).getD v false = false := hav
          show Lm.getD v 0 < 0 ∨ ∃ z, z < r ∧ (s.r.set y true).getD z false = true ∧ O.getD z 0 = (v : Int)
          by_cases e : o = v
          · subst e; exact .inr ⟨y, hy, by rw [hr, if_pos rfl], hod⟩
          · rw [ha, if_neg e] at hav
            rcases h.a5 v hv hav with g | ⟨z, g1, g2, g3⟩
            · exact .inl g
            · exact .inr ⟨z, g1, by rw [hr, g2]; split <;> rfl, g3⟩
        · have hav : (s.a.set o false).getD v false = true := hav
          by_cases e : o = v
          · rw [ha, if_pos e] at hav; cases hav
          · rw [ha, if_neg e] at hav; exact h.a6 v hv hav
        · show (s.r.set y true).getD z false = true
          rw [hr, hz]; split <;> rfl
        · show (s.r.set y true).getD y false = true
          rw [hr, if_pos rfl]
      · have h3f : s.a.getD o false = false := Bool.not_eq_true _ ▸ h3
        have hone := one_only (ps := ps) (O := O) (u := u) (j := j) (s := s) h1 (by rw [hyd]; exact h2) (by rw [hyd, hod, Int.toNat_natCast]; exact fun g => h3 g.2)
        rw [hyd] at hone
        rw [hone]
        refine ⟨⟨h.al, by show (s.r.set y true).length = r; rw [List.length_set]; exact h.rl, h.a1, fun z hz hrz => ?_, h.a3, h.a3', fun v hv hav => ?_, h.a6⟩, ⟨fun z hz => ?_, [], by simp⟩, fun _ => ?_⟩
        · have hrz : (s.r.set y true).getD z false = true := hrz
          show T z ∧ s.a.getD (O.getD z 0).toNat false = false
          by_cases e : y = z
          · subst e; rw [hod, Int.toNat_natCast]; exact ⟨hT, h3f⟩
          · rw [hr, if_neg e] at hrz; exact h.a2 z hz hrz
        · show Lm.getD v 0 < 0 ∨ ∃ z, z < r ∧ (s.r.set y true).getD z false = true ∧ O.getD z 0 = (v : Int)
          rcases h.a5 v hv hav with g | ⟨z, g1, g2, g3⟩
          · exact .inl g
          · exact .inr ⟨z, g1, by rw [hr, g2]; split <;> rfl, g3⟩
        · show (s.r.set y true).getD z false = true
          rw [hr, hz]; split <;> rfl
        · show (s.r.set y true).getD y false = true
          rw [hr, if_pos rfl]
  · rw [one_no1 h1]; exact ⟨h, CvM.refl s, fun e => absurd e h1⟩
theorem cv_to (hps : PairsOk ps m l r) (hH : HallP ps m S T O) (hO : ∀ y, y < r → O.getD y 0 < l) {u : Int} {s : CovS} (hu : S u) (h : CvI l r S T Lm O s) : ∀ j, j ≤ m → CvI l r S T Lm O (covTo ps O u s j) ∧ CvM s (covTo ps O u s j) ∧ ∀ i, i < j → pX ps i = u → (covTo ps O u s j).r.getD (pY ps i) false = true
  | 0, _ => ⟨h, CvM.refl s, fun i hi => by omega⟩
  | j + 1, hj => by
    obtain ⟨h1, h2, h3⟩ := cv_to hps hH hO hu h j (by omega)
    obtain ⟨g1, g2, g3⟩ := cv_one hps hH hO (u := u) (j := j) (by omega) hu h1
    rw [covTo]
    refine ⟨g1, h2.trans g2, fun i hi hx => ?_⟩
    by_cases e : i = j
    · subst e; exact g3 hx
    · exact g2.r _ (h3 i (by omega) hx)
theorem cv_r (hps : PairsOk ps m l r) (hH : HallP ps m S T O) (hO : ∀ y, y < r → O.getD y 0 < l) {s : CovS} (h : CvI l r S T Lm O s) : ∀ k, CvI l r S T Lm O (covR ps O m s k) ∧ ∀ p, p < k → p < (covR ps O m s k).q.length → ∀ j, j < m → pX ps j = (covR ps O m s k).q.getD p 0 → (covR ps O m s k).r.getD (pY ps j) false = true
  | 0 => ⟨h, fun p hp => by omega⟩
  | k + 1 => by
    obtain ⟨h1, h2⟩ := cv_r hps hH hO h k
    rw [covR]
    by_cases hk : k < (covR ps O m s k).q.length
    · rw [if_pos hk]
      generalize covR ps O m s k = t at *
      have hmem : t.q.getD k 0 ∈ t.q := by simp [List.getD, List.getElem?_eq_getElem hk]
      obtain ⟨v, e1, e2, e3⟩ := h1.a3' _ hmem
      have hS : S (t.q.getD k 0) := by rw [e1]; exact h1.a1 v e2 e3
      obtain ⟨g1, g2, g3⟩ := cv_to hps hH hO hS h1 m (Nat.le_refl _)
      obtain ⟨ys, hys⟩ := g2.q
      refine ⟨g1, fun p hp hpl j hj hx => ?_⟩
      by_cases hpt : p < t.q.length
      · have eq : (covTo ps O (t.q.getD k 0) t m).q.getD p 0 = t.q.getD p 0 := by rw [hys]; simp [List.getD, List.getElem?_append_left hpt]
        rw [eq] at hx
        by_cases e : p = k
        · subst e; exact g3 j hj hx
        · exact g2.r _ (h2 p (by omega) hpt j hj hx)
      · omega
    · rw [if_neg hk]
      exact ⟨h1, fun p hp hpl => h2 p (by omega) hpl⟩
end
theorem nodup_sub_len : ∀ (l1 l2 : List Nat), l1.Nodup → (∀ x ∈ l1, x ∈ l2) → l1.length ≤ l2.length
  | [], l2, _, _ => Nat.zero_le _
  | x :: l1, l2, hnd, hs => by
    have hx : x ∈ l2 := hs x (by simp)
    have h1 := List.nodup_cons.1 hnd
    have := nodup_sub_len l1 (l2.erase x) h1.2 (fun y hy => (List.mem_erase_of_ne (fun e => h1.1 (by rw [← e]; exact hy))).2 (hs y (by simp [hy])))
    rw [List.length_erase_of_mem hx] at this
    have := List.length_pos_of_mem hx
    simp only [List.length_cons]
    omega
theorem countP_pair {p q : Nat → Bool} {l r : Nat} {f g : Nat → Nat} (h1 : ∀ u, u < l → p u = true → f u < r ∧ q (f u) = true ∧ g (f u) = u) (h2 : ∀ y, y < r → q y = true → g y < l ∧ p (g y) = true ∧ f (g y) = y) : (List.range l).countP p = (List.range r).countP q := by
  rw [List.countP_eq_length_filter, List.countP_eq_length_filter]
  have hle : ∀ {p q : Nat → Bool} {l r : Nat} {f g : Nat → Nat}, (∀ u, u < l → p u = true → f u < r ∧ q (f u) = true ∧ g (f u) = u) → ((List.range l).filter p).length ≤ ((List.range r).filter q).length := by
    intro p q l r f g h
    have hnd : (((List.range l).filter p).map f).Nodup := by
      rw [List.Nodup, List.pairwise_map]
      refine List.Pairwise.imp_of_mem ?_ (List.Pairwise.filter p (List.nodup_range (n := l)))
      intro a b ha hb hab e
      rw [List.mem_filter, List.mem_range] at ha hb
      have e1 := (h a ha.1 ha.2).2.2
      have e2 := (h b hb.1 hb.2).2.2
      rw [e] at e1
      exact hab (e1.symm.trans e2)
    have hsub : ∀ y ∈ ((List.range l).filter p).map f, y ∈ (List.range r).filter q := by
      intro y hy
      obtain ⟨u, hu, rfl⟩ := List.mem_map.1 hy
      rw [List.mem_filter, List.mem_range] at hu ⊢
      exact ⟨(h u hu.1 hu.2).1, (h u hu.1 hu.2).2.1⟩
    have := nodup_sub_len _ _ hnd hsub
    simpa using this
  exact Nat.le_antisymm (hle h1) (hle h2)
theorem countP_part {α : Type} (p q : α → Bool) : ∀ (L : List α), L.countP p = L.countP (fun x => p x && q x) + L.countP (fun x => p x && !q x)
  | [] => rfl
  | x :: L => by
    have := countP_part p q L
    rw [List.countP_cons, List.countP_cons, List.countP_cons]
    cases p x <;> cases q x <;> simp <;> omega
theorem setTo_count (bs : List Bool) (k : Nat) : (setTo bs k).length = (List.range k).countP fun v => bs.getD v false := by
  unfold setTo
  rw [List.length_map, List.countP_eq_length_filter]
theorem setTo_mem (bs : List Bool) (k v : Nat) : (v : Int) ∈ setTo bs k ↔ v < k ∧ bs.getD v false = true := by
  unfold setTo
  simp only [List.mem_map, List.mem_filter, List.mem_range]
  constructor
  · rintro ⟨u, ⟨h1, h2⟩, h3⟩
    have : u = v := by omega
    subst this; exact ⟨h1, h2⟩
  · rintro ⟨h1, h2⟩; exact ⟨v, ⟨h1, h2⟩, rfl⟩
/-- what the law of the sides asks -/
structure SidesFacts (ps : List Int) (m L R : Nat) : Prop where
  mat : MatC L R (matTo ps m L R L).R (matTo ps m L R L).L
  real : RealP ps m (matTo ps m L R L).R
  cov : ∀ j, j < m → pX ps j ∈ setTo (covAll ps m L R).a L ∨ ((pY ps j : Nat) : Int) ∈ setTo (covAll ps m L R).r R
  cnt : (setTo (covAll ps m L R).a L).length + (setTo (covAll ps m L R).r R).length = (List.range L).countP fun u => decide (0 ≤ (matTo ps m L R L).L.getD u 0)
theorem sides_facts {ps : List Int} {m L R : Nat} (hps : PairsOk ps m L R) : SidesFacts ps m L R := by
  obtain ⟨hM, _⟩ := matTo_ok hps L (Nat.le_refl _)
  obtain ⟨hReal, S, T, hH, hS⟩ := mat_hall hps L (Nat.le_refl _)
  obtain ⟨i1, i2, i3, _⟩ := covI_ok (out := (matTo ps m L R L).L) (L := L) (R := R) L (Nat.le_refl _)
  have hcv := covI_cov (out := (matTo ps m L R L).L) (L := L) (R := R)
  have hmq : ∀ k, k ≤ L → (∀ u : Nat, u < k → (matTo ps m L R L).L.getD u 0 < 0 → (u : Int) ∈ (covI (matTo ps m L R L).L L R k).q) ∧ (∀ x ∈ (covI (matTo ps m L R L).L L R k).q, ∃ u : Nat, x = u ∧ u < k ∧ (matTo ps m L R L).L.getD u 0 < 0) := by
    intro k
    induction k with
    | zero => intro _; exact ⟨fun u hu => by omega, fun x hx => nomatch hx⟩
    | succ k ih =>
      intro hk
      obtain ⟨g1, g2⟩ := ih (by omega)
      rw [covI]
      constructor
      · intro u hu hl
        show (u : Int) ∈ if (matTo ps m L R L).L.getD k 0 < 0 then _ ++ [(k : Int)] else _
        by_cases e : u = k
        · subst e; rw [if_pos hl]; simp
        · have := g1 u (by omega) hl
          split
          · simp [this]
          · exact this
      · intro x hx
        have hx : x ∈ if (matTo ps m L R L).L.getD k 0 < 0 then (covI (matTo ps m L R L).L L R k).q ++ [(k : Int)] else (covI (matTo ps m L R L).L L R k).q := hx
        split at hx
        · rename_i hneg
          rw [List.mem_append, List.mem_singleton] at hx
          rcases hx with hx | rfl
          · obtain ⟨u, e1, e2, e3⟩ := g2 x hx; exact ⟨u, e1, by omega, e3⟩
          · exact ⟨k, rfl, by omega, hneg⟩
        · obtain ⟨u, e1, e2, e3⟩ := g2 x hx; exact ⟨u, e1, by omega, e3⟩
  obtain ⟨q1, q2⟩ := hmq L (Nat.le_refl _)
  have hall : covAll ps m L R = covR ps (matTo ps m L R L).R m (covI (matTo ps m L R L).L L R L) L := rfl
  have hst : CvI L R S T (matTo ps m L R L).L (matTo ps m L R L).R (covI (matTo ps m L R L).L L R L) := by
    refine ⟨i1, by rw [i2]; simp, fun u hu h => ?_, fun y hy h => ?_, fun u hu h => ?_, fun x hx => ?_, fun u hu h => ?_, fun u hu h => ?_⟩
    · rw [i3 u hu, if_pos hu, decide_eq_false_iff_not] at h
      exact hS u hu (by omega)
    · rw [i2] at h; simp [List.getD, hy] at h
    · rw [i3 u hu, if_pos hu, decide_eq_false_iff_not] at h
      exact q1 u hu (by omega)
    · obtain ⟨u, e1, e2, e3⟩ := q2 x hx
      exact ⟨u, e1, e2, by rw [i3 u e2, if_pos e2, decide_eq_false_iff_not]; omega⟩
    · rw [i3 u hu, if_pos hu, decide_eq_false_iff_not] at h
      exact .inl (by omega)
    · rw [i3 u hu, if_pos hu, decide_eq_true_iff] at h
      exact h
  have hO : ∀ y, y < R → (matTo ps m L R L).R.getD y 0 < L := fun y hy => by
    rcases hM.hr y hy with h | ⟨x, h1, h2, _⟩ <;> omega
  obtain ⟨c1, c2⟩ := cv_r hps hH hO hst L
  have hcov := covR_ok (ps := ps) (m := m) hcv (fun j hj => hO (pY ps j) (by have := (hps j hj).2; unfold pY; omega)) L
  rw [← hall] at c1 c2 hcov
  generalize hC : covAll ps m L R = C at c1 c2 hcov
  have hql : C.q.length ≤ L := by rw [hcov.ql]; have := List.count_le_length (a := false) (l := C.a); rw [hcov.al] at this; exact this
  refine ⟨hM, hReal, fun j hj => ?_, ?_⟩ <;> rw [hC]
  · obtain ⟨⟨a0, a1⟩, b0, b1⟩ := hps j hj
    obtain ⟨u, hu⟩ := Int.eq_ofNat_of_zero_le a0
    have hux : pX ps j = (u : Int) := hu
    have huL : u < L := by omega
    have hy : pY ps j < R := by unfold pY; omega
    rw [hux]
    cases ha : C.a.getD u false
    · right
      have hq := c1.a3 u huL ha
      obtain ⟨p, hp, hpe⟩ := List.mem_iff_getElem.1 hq
      have := c2 p (by omega) hp j hj (by rw [hux]; simp [List.getD, List.getElem?_eq_getElem hp, hpe])
      exact (setTo_mem _ _ _).2 ⟨hy, this⟩
    · left
      exact (setTo_mem _ _ _).2 ⟨huL, ha⟩
  · rw [setTo_count, setTo_count, countP_part (fun u => decide (0 ≤ (matTo ps m L R L).L.getD u 0)) (fun u => C.a.getD u false)]
    congr 1
    · apply List.countP_congr
      intro u hu
      rw [List.mem_range] at hu
      simp only [Bool.and_eq_true, decide_eq_true_eq]
      exact ⟨fun h => ⟨c1.a6 u hu h, h⟩, fun h => h.2⟩
    · symm
      refine countP_pair (f := fun u => ((matTo ps m L R L).L.getD u 0).toNat) (g := fun y => ((matTo ps m L R L).R.getD y 0).toNat) (fun u hu hp => ?_) (fun y hy hq => ?_)
      · simp only [Bool.and_eq_true, decide_eq_true_eq, Bool.not_eq_true'] at hp
        obtain ⟨p1, p2⟩ := hp
        rcases hM.hl u hu with h | ⟨y, h1, h2, h3⟩
        · omega
        · rcases c1.a5 u hu p2 with h | ⟨z, z1, z2, z3⟩
          · omega
          · have hzy : z = y := by
              rcases hM.hr z z1 with h | ⟨x, x1, x2, x3⟩
              · omega
              · have : x = u := by omega
                subst this; omega
            subst hzy
            simp only [h1, Int.toNat_natCast, h3]
            exact ⟨h2, z2, trivial⟩
      · obtain ⟨t1, t2⟩ := c1.a2 y hy hq
        obtain ⟨o1, _⟩ := hH.2 y t1
        rcases hM.hr y hy with h | ⟨x, x1, x2, x3⟩
        · omega
        · rw [x1, Int.toNat_natCast] at t2
          simp only [x1, Int.toNat_natCast, x3, t2]
          exact ⟨x2, by simp, trivial⟩
end Go.Proofs.Ytfoelpmglmaamaa
