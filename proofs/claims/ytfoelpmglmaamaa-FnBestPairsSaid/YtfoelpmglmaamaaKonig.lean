/- As many sides are matched as cover all pairs: in plain lists. -/
import Derived.Test.YtfoelpmglmaamaaCovSPlain
namespace Go.Proofs.Ytfoelpmglmaamaa
open Go.RowKit

/-- a set of left things whose right things are all taken, by left things of the set -/
def HallP (ps : List Int) (m : Nat) (S : Int → Prop) (T : Nat → Prop) (R : List Int) : Prop :=
  (∀ j, j < m → S (pX ps j) → T (pY ps j)) ∧ ∀ y, T y → 0 ≤ R.getD y 0 ∧ S (R.getD y 0)
theorem skip_no {ps : List Int} {x : Int} {j : Nat} {s : MatS} (h : ¬ skipB ps x j s = true) : pX ps j = x ∧ s.K.getD (pY ps j) false = false := by
  unfold skipB at h
  rw [Bool.or_eq_true, decide_eq_true_iff] at h
  constructor
  · exact Classical.byContradiction fun h1 => h (.inl h1)
  · cases hk : s.K.getD (pY ps j) false
    · rfl
    · exact absurd (.inr hk) h
theorem hall_in {ps : List Int} {m : Nat} {S : Int → Prop} {T : Nat → Prop} : ∀ (f : Nat) (o : Int) (s : MatS), HallP ps m S T s.R → S o → (findF ps m f o s).1 = false ∧ (findF ps m f o s).2.R = s.R
  | 0, o, s, _, _ => ⟨rfl, rfl⟩
  | f + 1, o, s, h, ho => by
    have loop : ∀ (c j : Nat) (s : MatS), j + c ≤ m → HallP ps m S T s.R → (findLoop (findF ps m f) ps o c j s).1 = false ∧ (findLoop (findF ps m f) ps o c j s).2.R = s.R := by
      intro c
      induction c with
      | zero => intro j s _ _; exact ⟨rfl, rfl⟩
      | succ c ih =>
        intro j s hj h
        rw [findLoop]
        by_cases h1 : skipB ps o j s = true
        · rw [if_pos h1]; exact ih (j + 1) s (by omega) h
        · rw [if_neg h1]
          obtain ⟨e1, _⟩ := skip_no h1
          obtain ⟨k1, k2⟩ := h.2 _ (h.1 j (by omega) (by rw [e1]; exact ho))
          rw [if_neg (by omega)]
          obtain ⟨r1, r2⟩ := hall_in f (s.R.getD (pY ps j) 0) (s.look (pY ps j)) h k2
          rw [if_neg (by rw [r1]; decide)]
          have r3 : (findF ps m f (s.R.getD (pY ps j) 0) (s.look (pY ps j))).2.R = s.R := r2
          have := ih (j + 1) (findF ps m f (s.R.getD (pY ps j) 0) (s.look (pY ps j))).2 (by omega) (by rw [r3]; exact h)
          rw [r3] at this
          exact this
    exact loop m 0 s (by omega) h
/-- a search turns nothing there -/
theorem hall_keep {ps : List Int} {m : Nat} {S : Int → Prop} {T : Nat → Prop} : ∀ (f : Nat) (o : Int) (s : MatS), HallP ps m S T s.R → ∀ y, T y → (findF ps m f o s).2.R.getD y 0 = s.R.getD y 0
  | 0, o, s, _ => fun _ _ => rfl
  | f + 1, o, s, h => by
    have far : ∀ (t : MatS) (y : Nat), ¬ T y → ∀ z, T z → (t.give o y).R.getD z 0 = t.R.getD z 0 := by
      intro t y hy z hz
      show (t.R.set y o).getD z 0 = _
      have : y ≠ z := fun e => hy (e ▸ hz)
      simp [List.getD, List.getElem?_set_ne this]
    have loop : ∀ (c j : Nat) (s : MatS), j + c ≤ m → HallP ps m S T s.R → ∀ y, T y → (findLoop (findF ps m f) ps o c j s).2.R.getD y 0 = s.R.getD y 0 := by
      intro c
      induction c with
      | zero => intro j s _ _ y _; rfl
      | succ c ih =>
        intro j s hj h y hy
        rw [findLoop]
        by_cases h1 : skipB ps o j s = true
        · rw [if_pos h1]; exact ih (j + 1) s (by omega) h y hy
        · rw [if_neg h1]
          by_cases hT : T (pY ps j)
          · obtain ⟨k1, k2⟩ := h.2 _ hT
            rw [if_neg (by omega)]
            obtain ⟨r1, r2⟩ := hall_in f (s.R.getD (pY ps j) 0) (s.look (pY ps j)) h k2
            rw [if_neg (by rw [r1]; decide)]
            have r3 : (findF ps m f (s.R.getD (pY ps j) 0) (s.look (pY ps j))).2.R = s.R := r2
            have := ih (j + 1) (findF ps m f (s.R.getD (pY ps j) 0) (s.look (pY ps j))).2 (by omega) (by rw [r3]; exact h) y hy
            rw [r3] at this
            exact this
          · by_cases h2 : s.R.getD (pY ps j) 0 < 0
            · rw [if_pos h2]
              exact far (s.look (pY ps j)) (pY ps j) hT y hy
            · rw [if_neg h2]
              have ihf := hall_keep f (s.R.getD (pY ps j) 0) (s.look (pY ps j)) h
              have ihf : ∀ y, T y → (findF ps m f (s.R.getD (pY ps j) 0) (s.look (pY ps j))).2.R.getD y 0 = s.R.getD y 0 := ihf
              by_cases h3 : (findF ps m f (s.R.getD (pY ps j) 0) (s.look (pY ps j))).1 = true
              · rw [if_pos h3]
                show ((findF ps m f (s.R.getD (pY ps j) 0) (s.look (pY ps j))).2.give o (pY ps j)).R.getD y 0 = _
                rw [far _ _ hT y hy, ihf y hy]
              · rw [if_neg h3]
                have := ih (j + 1) (findF ps m f (s.R.getD (pY ps j) 0) (s.look (pY ps j))).2 (by omega) ⟨h.1, fun z hz => by rw [ihf z hz]; exact h.2 z hz⟩ y hy
                rw [this, ihf y hy]
    exact loop m 0 s (by omega) h
theorem count_mono : ∀ (K K' : List Bool), K.length = K'.length → (∀ i, K.getD i false = true → K'.getD i false = true) → K'.count false ≤ K.count false
  | [], [], _, _ => Nat.le_refl _
  | [], _ :: _, h, _ => by simp at h
  | _ :: _, [], h, _ => by simp at h
  | a :: K, b :: K', h, hi => by
    have ih := count_mono K K' (by simpa using h) (fun i hk => by
      have := hi (i + 1)
      simp only [List.getD_cons_succ] at this
      exact this hk)
    have h0 := hi 0
    simp only [List.getD_cons_zero] at h0
    rw [List.count_cons, List.count_cons]
    cases a <;> cases b <;> simp at h0 ⊢ <;> omega
theorem count_up {ks : List Bool} {y : Nat} (h : y < ks.length) (hk : ks.getD y false = false) : (ks.set y true).count false + 1 = ks.count false := by
  induction ks generalizing y with
  | nil => simp at h
  | cons k ks ih =>
    cases y with
    | zero =>
      simp [List.getD] at hk
      subst hk
      simp
    | succ y =>
      have := ih (y := y) (by simpa using h) (by simpa [List.getD] using hk)
      simp only [List.set_cons_succ, List.count_cons]
      omega
/-- what a search that finds nothing has looked at -/
structure FailOk (ps : List Int) (m r : Nat) (R : List Int) (K K' : List Bool) : Prop where
  len : K'.length = r
  mono : ∀ y, K.getD y false = true → K'.getD y false = true
  new : ∀ y, K'.getD y false = true → K.getD y false = false → 0 ≤ R.getD y 0 ∧ ∀ j, j < m → pX ps j = R.getD y 0 → K'.getD (pY ps j) false = true
theorem find_fail {ps : List Int} {m l r : Nat} (hps : PairsOk ps m l r) : ∀ (f : Nat) (o : Int) (s : MatS), s.K.length = r → s.K.count false < f → (findF ps m f o s).1 = false →
    (findF ps m f o s).2.R = s.R ∧ FailOk ps m r s.R s.K (findF ps m f o s).2.K ∧ ∀ j, j < m → pX ps j = o → (findF ps m f o s).2.K.getD (pY ps j) false = true
  | 0, o, s, _, h, _ => absurd h (Nat.not_lt_zero _)
  | f + 1, o, s, hl, hc, hfail => by
    have loop : ∀ (c j : Nat) (s : MatS), j + c ≤ m → s.K.length = r → s.K.count false < f + 1 → (findLoop (findF ps m f) ps o c j s).1 = false →
        (findLoop (findF ps m f) ps o c j s).2.R = s.R ∧ FailOk ps m r s.R s.K (findLoop (findF ps m f) ps o c j s).2.K ∧ ∀ i, j ≤ i → i < j + c → pX ps i = o → (findLoop (findF ps m f) ps o c j s).2.K.getD (pY ps i) false = true := by
      intro c
      induction c with
      | zero => intro j s _ hl _ _; exact ⟨rfl, ⟨hl, fun _ h => h, fun y h1 h2 => by rw [findLoop] at h1; rw [h1] at h2; cases h2⟩, fun i h1 h2 => by omega⟩
      | succ c ih =>
        intro j s hj hl hc hfail
        obtain ⟨_, b0, b1⟩ := hps j (by omega)
        have hy : pY ps j < r := by unfold pY; omega
        rw [findLoop] at hfail ⊢
        by_cases h1 : skipB ps o j s = true
        · rw [if_pos h1] at hfail ⊢
          obtain ⟨i1, i2, i3⟩ := ih (j + 1) s (by omega) hl hc hfail
          refine ⟨i1, i2, fun i hi1 hi2 hx => ?_⟩
          by_cases e : i = j
          · subst e
            unfold skipB at h1
            rw [Bool.or_eq_true, decide_eq_true_iff] at h1
            rcases h1 with h1 | h1
            · exact absurd hx h1
            · exact i2.mono _ h1
          · exact i3 i (by omega) (by omega) hx
        · rw [if_neg h1] at hfail ⊢
          obtain ⟨e1, e2⟩ := skip_no h1
          by_cases h2 : s.R.getD (pY ps j) 0 < 0
          · rw [if_pos h2] at hfail; cases hfail
          · rw [if_neg h2] at hfail ⊢
            by_cases h3 : (findF ps m f (s.R.getD (pY ps j) 0) (s.look (pY ps j))).1 = true
            · rw [if_pos h3] at hfail; cases hfail
            · rw [if_neg h3] at hfail ⊢
              have hlk : (s.look (pY ps j)).K.length = r := by unfold MatS.look; simp [hl]
              have hcl : (s.look (pY ps j)).K.count false + 1 = s.K.count false := count_up (by omega) e2
              obtain ⟨f1, f2, f3⟩ := find_fail hps f (s.R.getD (pY ps j) 0) (s.look (pY ps j)) hlk (by omega) (Bool.not_eq_true _ ▸ h3)
              have f1 : (findF ps m f (s.R.getD (pY ps j) 0) (s.look (pY ps j))).2.R = s.R := f1
              have f2 : FailOk ps m r s.R (s.look (pY ps j)).K (findF ps m f (s.R.getD (pY ps j) 0) (s.look (pY ps j))).2.K := f2
              generalize (findF ps m f (s.R.getD (pY ps j) 0) (s.look (pY ps j))).2 = q at *
              have hcq := count_mono _ _ (by rw [hlk, f2.len]) f2.mono
              obtain ⟨i1, i2, i3⟩ := ih (j + 1) q (by omega) f2.len (by omega) hfail
              rw [f1] at i1 i2
              have hlook : ∀ z, (s.look (pY ps j)).K.getD z false = if pY ps j = z then true else s.K.getD z false := look_K (by omega)
              have hyq : q.K.getD (pY ps j) false = true := f2.mono _ (by rw [hlook, if_pos rfl])
              refine ⟨i1, ⟨i2.len, fun z hz => i2.mono z (f2.mono z (by rw [hlook, hz]; split <;> rfl)), fun z hz hz0 => ?_⟩, fun i hi1 hi2 hx => ?_⟩
              · by_cases hqz : q.K.getD z false = true
                · by_cases ez : pY ps j = z
                  · subst ez
                    exact ⟨by omega, fun j' hj' hx' => i2.mono _ (f3 j' hj' hx')⟩
                  · obtain ⟨g1, g2⟩ := f2.new z hqz (by rw [hlook, if_neg ez]; exact hz0)
                    exact ⟨g1, fun j' hj' hx' => i2.mono _ (g2 j' hj' hx')⟩
                · exact i2.new z hz (Bool.not_eq_true _ ▸ hqz)
              · by_cases e : i = j
                · subst e; exact i2.mono _ hyq
                · exact i3 i (by omega) (by omega) hx
    obtain ⟨a, b, c⟩ := loop m 0 s (by omega) hl hc hfail
    exact ⟨a, b, fun j hj hx => c j (Nat.zero_le _) (by omega) hx⟩
/-- left things stay matched; one that is found for is matched -/
theorem find_left {ps : List Int} {m : Nat} : ∀ (f : Nat) (o : Int) (s : MatS), (findF ps m f o s).2.L.length = s.L.length ∧ (∀ u, 0 ≤ s.L.getD u 0 → 0 ≤ (findF ps m f o s).2.L.getD u 0) ∧ ((findF ps m f o s).1 = true → o.toNat < s.L.length → 0 ≤ (findF ps m f o s).2.L.getD o.toNat 0)
  | 0, o, s => ⟨rfl, fun _ h => h, fun h => by cases h⟩
  | f + 1, o, s => by
    have give : ∀ (t : MatS) (y : Nat), (t.give o y).L.length = t.L.length ∧ (∀ u, 0 ≤ t.L.getD u 0 → 0 ≤ (t.give o y).L.getD u 0) ∧ (o.toNat < t.L.length → 0 ≤ (t.give o y).L.getD o.toNat 0) := by
      intro t y
      refine ⟨by show (List.set _ _ _).length = _; simp, fun u hu => ?_, fun ho => ?_⟩
      · show 0 ≤ (t.L.set o.toNat (y : Int)).getD u 0
        by_cases e : o.toNat = u
        · by_cases hl : o.toNat < t.L.length
          · rw [gI_set _ _ _ _ hl, if_pos e]; omega
          · rw [List.set_eq_of_length_le (by omega)]; exact hu
        · simp only [List.getD, List.getElem?_set_ne e] at hu ⊢; exact hu
      · show 0 ≤ (t.L.set o.toNat (y : Int)).getD o.toNat 0
        rw [gI_set _ _ _ _ ho, if_pos rfl]; omega
    have loop : ∀ (c j : Nat) (s : MatS), (findLoop (findF ps m f) ps o c j s).2.L.length = s.L.length ∧ (∀ u, 0 ≤ s.L.getD u 0 → 0 ≤ (findLoop (findF ps m f) ps o c j s).2.L.getD u 0) ∧ ((findLoop (findF ps m f) ps o c j s).1 = true → o.toNat < s.L.length → 0 ≤ (findLoop (findF ps m f) ps o c j s).2.L.getD o.toNat 0) := by
      intro c
      induction c with
      | zero => intro j s; exact ⟨rfl, fun _ h => h, fun h => by cases h⟩
      | succ c ih =>
        intro j s
        rw [findLoop]
        by_cases h1 : skipB ps o j s = true
        · rw [if_pos h1]; exact ih (j + 1) s
        · rw [if_neg h1]
          by_cases h2 : s.R.getD (pY ps j) 0 < 0
          · rw [if_pos h2]
            obtain ⟨g1, g2, g3⟩ := give (s.look (pY ps j)) (pY ps j)
            exact ⟨g1, g2, fun _ => g3⟩
          · rw [if_neg h2]
            obtain ⟨f1, f2, _⟩ := find_left f (s.R.getD (pY ps j) 0) (s.look (pY ps j))
            have f1 : (findF ps m f (s.R.getD (pY ps j) 0) (s.look (pY ps j))).2.L.length = s.L.length := f1
            have f2 : ∀ u, 0 ≤ s.L.getD u 0 → 0 ≤ (findF ps m f (s.R.getD (pY ps j) 0) (s.look (pY ps j))).2.L.getD u 0 := f2
            by_cases h3 : (findF ps m f (s.R.getD (pY ps j) 0) (s.look (pY ps j))).1 = true
            · rw [if_pos h3]
              obtain ⟨g1, g2, g3⟩ := give (findF ps m f (s.R.getD (pY ps j) 0) (s.look (pY ps j))).2 (pY ps j)
              exact ⟨by rw [← f1]; exact g1, fun u hu => g2 u (f2 u hu), fun _ ho => g3 (by rw [f1]; exact ho)⟩
            · rw [if_neg h3]
              obtain ⟨g1, g2, g3⟩ := ih (j + 1) (findF ps m f (s.R.getD (pY ps j) 0) (s.look (pY ps j))).2
              exact ⟨by rw [g1, f1], fun u hu => g2 u (f2 u hu), fun hb ho => g3 hb (by rw [f1]; exact ho)⟩
    exact loop m 0 s
/-- what is matched is a pair -/
def RealP (ps : List Int) (m : Nat) (R : List Int) : Prop := ∀ y, 0 ≤ R.getD y 0 → y < R.length → ∃ j, j < m ∧ pX ps j = R.getD y 0 ∧ pY ps j = y
theorem find_real {ps : List Int} {m : Nat} : ∀ (f : Nat) (o : Int) (s : MatS), RealP ps m s.R → RealP ps m (findF ps m f o s).2.R
  | 0, o, s, h => h
  | f + 1, o, s, h => by
    have loop : ∀ (c j : Nat) (s : MatS), j + c ≤ m → RealP ps m s.R → RealP ps m (findLoop (findF ps m f) ps o c j s).2.R := by
      intro c
      induction c with
      | zero => intro j s _ h; exact h
      | succ c ih =>
        intro j s hj h
        rw [findLoop]
        by_cases h1 : skipB ps o j s = true
        · rw [if_pos h1]; exact ih (j + 1) s (by omega) h
        · rw [if_neg h1]
          obtain ⟨e1, _⟩ := skip_no h1
          have give : ∀ (t : MatS), RealP ps m t.R → RealP ps m (t.give o (pY ps j)).R := by
            intro t ht y hy hl
            have hy' : 0 ≤ (t.R.set (pY ps j) o).getD y 0 := hy
            have hl' : y < (t.R.set (pY ps j) o).length := hl
            rw [List.length_set] at hl'
            show ∃ j', j' < m ∧ pX ps j' = (t.R.set (pY ps j) o).getD y 0 ∧ pY ps j' = y
            by_cases e : pY ps j = y
            · subst e
              rw [gI_set _ _ _ _ hl', if_pos rfl]
              exact ⟨j, by omega, e1, rfl⟩
            · have e2 : (t.R.set (pY ps j) o).getD y 0 = t.R.getD y 0 := by simp [List.getD, List.getElem?_set_ne e]
              rw [e2] at hy' ⊢
              exact ht y hy' hl'
          by_cases h2 : s.R.getD (pY ps j) 0 < 0
          · rw [if_pos h2]; exact give (s.look (pY ps j)) h
          · rw [if_neg h2]
            have ihf := find_real f (s.R.getD (pY ps j) 0) (s.look (pY ps j)) h
            by_cases h3 : (findF ps m f (s.R.getD (pY ps j) 0) (s.look (pY ps j))).1 = true
            · rw [if_pos h3]; exact give _ ihf
            · rw [if_neg h3]; exact ih (j + 1) _ (by omega) ihf
    exact loop m 0 s (by omega) h
/-- behind k left things: those of them that are not matched lie in a set whose right things are taken by the set -/
theorem mat_hall {ps : List Int} {m l r : Nat} (hps : PairsOk ps m l r) : ∀ k, k ≤ l → RealP ps m (matTo ps m l r k).R ∧ ∃ (S : Int → Prop) (T : Nat → Prop), HallP ps m S T (matTo ps m l r k).R ∧ ∀ x : Nat, x < k → (matTo ps m l r k).L.getD x 0 < 0 → S (x : Int)
  | 0, _ => ⟨fun y hy hl => by
      have h1 : 0 ≤ (List.replicate r (-1 : Int)).getD y 0 := hy
      have h2 : y < (List.replicate r (-1 : Int)).length := hl
      rw [rep_get (by simpa using h2)] at h1; omega, fun _ => False, fun _ => False, ⟨fun _ _ h => h, fun _ h => h.elim⟩, fun x hx => by omega⟩
  | k + 1, hk => by
    obtain ⟨hR, S, T, hH, hS⟩ := mat_hall hps k (by omega)
    have hml := (matTo_ok hps k (by omega)).1.ll
    rw [matTo]
    generalize matTo ps m l r k = s at *
    have hreal := find_real (ps := ps) (m := m) (r + 1) (k : Int) { s with K := List.replicate r false } hR
    have hkeep := hall_keep (r + 1) (k : Int) { s with K := List.replicate r false } hH
    obtain ⟨d1, d2, d3⟩ := find_left (ps := ps) (m := m) (r + 1) (k : Int) { s with K := List.replicate r false }
    refine ⟨hreal, ?_⟩
    cases hb : (findF ps m (r + 1) (k : Int) { s with K := List.replicate r false }).1
    · obtain ⟨e1, e2, e3⟩ := find_fail hps (r + 1) (k : Int) { s with K := List.replicate r false } (by simp) (by show (List.replicate r false).count false < r + 1; simp) hb
      have e1 : (findF ps m (r + 1) (k : Int) { s with K := List.replicate r false }).2.R = s.R := e1
      have e2 : FailOk ps m r s.R (List.replicate r false) (findF ps m (r + 1) (k : Int) { s with K := List.replicate r false }).2.K := e2
      have d2 : ∀ u, 0 ≤ s.L.getD u 0 → 0 ≤ (findF ps m (r + 1) (k : Int) { s with K := List.replicate r false }).2.L.getD u 0 := d2
      generalize (findF ps m (r + 1) (k : Int) { s with K := List.replicate r false }).2 = q at *
      have hfr : ∀ y, q.K.getD y false = true → (List.replicate r false).getD y false = false := fun y hy => by
        by_cases h : y < r
        · simp [List.getD, h]
        · simp [List.getD, h]
      refine ⟨fun u => S u ∨ u = (k : Int) ∨ ∃ y, q.K.getD y false = true ∧ s.R.getD y 0 = u, fun y => T y ∨ q.K.getD y false = true, ⟨?_, ?_⟩, ?_⟩
      · rintro j hj (h | h | ⟨y, h1, h2⟩)
        · exact .inl (hH.1 j hj h)
        · exact .inr (e3 j hj h)
        · exact .inr ((e2.new y h1 (hfr y h1)).2 j hj h2.symm)
      · rintro y (h | h)
        · rw [e1]
          obtain ⟨h1, h2⟩ := hH.2 y h
          exact ⟨h1, .inl h2⟩
        · rw [e1]
          exact ⟨(e2.new y h (hfr y h)).1, .inr (.inr ⟨y, h, rfl⟩)⟩
      · intro x hx hL
        by_cases e : x = k
        · subst e; exact .inr (.inl rfl)
        · refine .inl (hS x (by omega) ?_)
          rcases Int.lt_or_le (s.L.getD x 0) 0 with h | h
          · exact h
          · have := d2 x h; omega
    · have d3 := d3 hb (by show ((k : Int)).toNat < s.L.length; rw [Int.toNat_natCast, hml]; omega)
      rw [Int.toNat_natCast] at d3
      have d2 : ∀ u, 0 ≤ s.L.getD u 0 → 0 ≤ (findF ps m (r + 1) (k : Int) { s with K := List.replicate r false }).2.L.getD u 0 := d2
      have hkeep : ∀ y, T y → (findF ps m (r + 1) (k : Int) { s with K := List.replicate r false }).2.R.getD y 0 = s.R.getD y 0 := hkeep
      refine ⟨S, T, ⟨hH.1, fun y hy => by rw [hkeep y hy]; exact hH.2 y hy⟩, fun x hx hL => ?_⟩
      by_cases e : x = k
      · subst e; exact absurd d3 (Int.not_le.2 hL)
      · refine hS x (by omega) ?_
        rcases Int.lt_or_le (s.L.getD x 0) 0 with h | h
        · exact h
        · exact absurd (d2 x h) (Int.not_le.2 hL)
end Go.Proofs.Ytfoelpmglmaamaa
