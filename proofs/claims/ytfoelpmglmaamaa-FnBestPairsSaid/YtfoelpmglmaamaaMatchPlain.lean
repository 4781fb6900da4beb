/- Sides that are matched, in plain lists. -/
import Derived.Test.YtfoelpmglmaamaaMem
namespace Go.Proofs.Ytfoelpmglmaamaa
open Go.RowKit

/-- owners of the right things, which are looked at, and (of the reference alone) the right things of the left ones -/
structure MatS where
  R : List Int
  K : List Bool
  L : List Int
def MatS.look (s : MatS) (y : Nat) : MatS := { s with K := s.K.set y true }
def MatS.give (s : MatS) (x : Int) (y : Nat) : MatS := { s with R := s.R.set y x, L := s.L.set x.toNat y }
def pX (ps : List Int) (j : Nat) : Int := ps.getD (2 * j) 0
def pY (ps : List Int) (j : Nat) : Nat := (ps.getD (2 * j + 1) 0).toNat
def skipB (ps : List Int) (x : Int) (j : Nat) (s : MatS) : Bool := decide (pX ps j ≠ x) || s.K.getD (pY ps j) false
/-- the pairs from the j-th on, c of them -/
def findLoop (rec_ : Int → MatS → Bool × MatS) (ps : List Int) (x : Int) : Nat → Nat → MatS → Bool × MatS
  | 0, _, s => (false, s)
  | c + 1, j, s =>
    if skipB ps x j s = true then findLoop rec_ ps x c (j + 1) s
    else if s.R.getD (pY ps j) 0 < 0 then (true, (s.look (pY ps j)).give x (pY ps j))
    else if (rec_ (s.R.getD (pY ps j) 0) (s.look (pY ps j))).1 = true then (true, (rec_ (s.R.getD (pY ps j) 0) (s.look (pY ps j))).2.give x (pY ps j))
    else findLoop rec_ ps x c (j + 1) (rec_ (s.R.getD (pY ps j) 0) (s.look (pY ps j))).2
def findF (ps : List Int) (m : Nat) : Nat → Int → MatS → Bool × MatS
  | 0, _, s => (false, s)
  | f + 1, x, s => findLoop (findF ps m f) ps x m 0 s

theorem gI_set (zs : List Int) (i j : Nat) (x : Int) (h : i < zs.length) : (zs.set i x).getD j 0 = if i = j then x else zs.getD j 0 := by
  simp only [List.getD, List.getElem?_set]
  by_cases e : i = j
  · subst e; simp [h]
  · simp [e]
theorem gB_set (zs : List Bool) (i j : Nat) (x : Bool) (h : i < zs.length) : (zs.set i x).getD j false = if i = j then x else zs.getD j false := by
  simp only [List.getD, List.getElem?_set]
  by_cases e : i = j
  · subst e; simp [h]
  · simp [e]
/-- both sides tell the same pairs -/
structure MatC (l r : Nat) (R L : List Int) : Prop where
  rl : R.length = r
  ll : L.length = l
  hr : ∀ y, y < r → R.getD y 0 = -1 ∨ ∃ x : Nat, R.getD y 0 = x ∧ x < l ∧ L.getD x 0 = (y : Int)
  hl : ∀ x, x < l → L.getD x 0 = -1 ∨ ∃ y : Nat, L.getD x 0 = y ∧ y < r ∧ R.getD y 0 = (x : Int)
def clr (R : List Int) (yo : Int) : List Int := if yo < 0 then R else R.set yo.toNat (-1)
theorem clr_len (R : List Int) (yo : Int) : (clr R yo).length = R.length := by unfold clr; split <;> simp
theorem clr_get {R : List Int} {yo : Int} (h : yo < R.length) (y : Nat) : (clr R yo).getD y 0 = if yo = (y : Int) then -1 else R.getD y 0 := by
  unfold clr
  split
  · rw [if_neg (by omega)]
  · rw [gI_set _ _ _ _ (by omega)]
    by_cases e : yo.toNat = y
    · rw [if_pos e, if_pos (by omega)]
    · rw [if_neg e, if_neg (by omega)]
theorem mat_give {l r x y : Nat} {R L : List Int} {yo : Int} (h : MatC l r R L) (hx : x < l) (hy : y < r) (hR : R.getD y 0 = -1) (hL : L.getD x 0 = yo) (hne : yo ≠ (y : Int)) : MatC l r (clr (R.set y (x : Int)) yo) (L.set x (y : Int)) := by
  have hyo : yo = -1 ∨ ∃ z : Nat, yo = z ∧ z < r ∧ R.getD z 0 = (x : Int) := by
    rcases h.hl x hx with h1 | ⟨z, h1, h2, h3⟩
    · exact .inl (hL ▸ h1)
    · exact .inr ⟨z, hL ▸ h1, h2, h3⟩
  have hyl : yo < (R.set y (x : Int)).length := by
    rw [List.length_set, h.rl]
    rcases hyo with h1 | ⟨z, h1, h2, _⟩ <;> omega
  refine ⟨by rw [clr_len, List.length_set]; exact h.rl, by rw [List.length_set]; exact h.ll, fun y1 hy1 => ?_, fun x1 hx1 => ?_⟩
  · rw [clr_get hyl, gI_set _ _ _ _ (by rw [h.rl]; exact hy)]
    by_cases e1 : yo = (y1 : Int)
    · rw [if_pos e1]; exact .inl rfl
    · rw [if_neg e1]
      by_cases e2 : y = y1
      · rw [if_pos e2]
        exact .inr ⟨x, rfl, hx, by rw [gI_set _ _ _ _ (by rw [h.ll]; exact hx), if_pos rfl, e2]⟩
      · rw [if_neg e2]
        rcases h.hr y1 hy1 with h1 | ⟨x1, h1, h2, h3⟩
        · exact .inl h1
        · have hxx : x ≠ x1 := fun e => by subst e; rw [hL] at h3; exact e1 h3
          exact .inr ⟨x1, h1, h2, by rw [gI_set _ _ _ _ (by rw [h.ll]; exact hx), if_neg hxx]; exact h3⟩
  · rw [gI_set _ _ _ _ (by rw [h.ll]; exact hx)]
    by_cases e1 : x = x1
    · rw [if_pos e1]
      exact .inr ⟨y, rfl, hy, by rw [clr_get hyl, if_neg hne, gI_set _ _ _ _ (by rw [h.rl]; exact hy), if_pos rfl, e1]⟩
    · rw [if_neg e1]
      rcases h.hl x1 hx1 with h1 | ⟨y1, h1, h2, h3⟩
      · exact .inl h1
      · refine .inr ⟨y1, h1, h2, ?_⟩
        have hyy : y ≠ y1 := fun e => by subst e; rw [hR] at h3; omega
        have hyo1 : yo ≠ (y1 : Int) := fun e => by
          rcases hyo with h4 | ⟨z, h4, _, h5⟩
          · omega
          · have : z = y1 := by omega
            subst this
            rw [h3] at h5; omega
        rw [clr_get hyl, if_neg hyo1, gI_set _ _ _ _ (by rw [h.rl]; exact hy), if_neg hyy]
        exact h3
/-- what a search leaves -/
structure FindOk (l r : Nat) (x : Nat) (s : MatS) (b : Bool) (s' : MatS) : Prop where
  kl : s'.K.length = r
  kk : ∀ y, s.K.getD y false = true → s'.K.getD y false = true
  no : b = false → s'.R = s.R ∧ s'.L = s.L
  yes : b = true → MatC l r (clr s'.R (s.L.getD x 0)) s'.L ∧ (∀ y, s.K.getD y false = true → s'.R.getD y 0 = s.R.getD y 0) ∧ s'.R.length = r ∧ ∀ x1, x1 < l → x1 ≠ x → (s.L.getD x1 0 = -1 ∨ s.K.getD (s.L.getD x1 0).toNat false = true) → s'.L.getD x1 0 = s.L.getD x1 0
def PairsOk (ps : List Int) (m l r : Nat) : Prop := ∀ j, j < m → (0 ≤ ps.getD (2 * j) 0 ∧ ps.getD (2 * j) 0 < l) ∧ (0 ≤ ps.getD (2 * j + 1) 0 ∧ ps.getD (2 * j + 1) 0 < r)
theorem look_K {s : MatS} {y : Nat} (h : y < s.K.length) (z : Nat) : (s.look y).K.getD z false = if y = z then true else s.K.getD z false := gB_set _ _ _ _ h
theorem loop_ok {ps : List Int} {m l r : Nat} (hps : PairsOk ps m l r) {rec_ : Int → MatS → Bool × MatS}
    (hrec : ∀ (o : Nat) (s : MatS), o < l → MatC l r s.R s.L → s.K.length = r → (s.L.getD o 0 = -1 ∨ s.K.getD (s.L.getD o 0).toNat false = true) → FindOk l r o s (rec_ o s).1 (rec_ o s).2)
    (x : Nat) (hx : x < l) : ∀ (c j : Nat) (s : MatS), j + c ≤ m → MatC l r s.R s.L → s.K.length = r → (s.L.getD x 0 = -1 ∨ s.K.getD (s.L.getD x 0).toNat false = true) →
      FindOk l r x s (findLoop rec_ ps x c j s).1 (findLoop rec_ ps x c j s).2
  | 0, j, s, _, _, hk, _ => ⟨hk, fun _ h => h, fun _ => ⟨rfl, rfl⟩, fun h => by cases h⟩
  | c + 1, j, s, hj, hC, hk, hst => by
    obtain ⟨⟨_, _⟩, b0, b1⟩ := hps j (by omega)
    have hy : pY ps j < r := by unfold pY; omega
    rw [findLoop]
    by_cases h1 : skipB ps x j s = true
    · rw [if_pos h1]
      exact loop_ok hps hrec x hx c (j + 1) s (by omega) hC hk hst
    · rw [if_neg h1]
      have hKy : s.K.getD (pY ps j) false = false := by
        unfold skipB at h1
        rw [Bool.or_eq_true] at h1
        cases hK : s.K.getD (pY ps j) false
        · rfl
        · exact absurd (.inr hK) h1
      generalize pY ps j = y at *
      have hlk : (s.look y).K.length = r := by unfold MatS.look; simp [hk]
      have hyo : s.L.getD x 0 ≠ (y : Int) := fun e => by
        rcases hst with h | h
        · omega
        · rw [e, Int.toNat_natCast, hKy] at h; cases h
      have hgL : ∀ (t : MatS) (x1 : Nat), x1 < l → t.L.length = l → x1 ≠ x → (t.give (x : Int) y).L.getD x1 0 = t.L.getD x1 0 := fun t x1 h1 h2 h3 => by
        show (t.L.set ((x : Int).toNat) (y : Int)).getD x1 0 = _
        rw [Int.toNat_natCast, gI_set _ _ _ _ (by rw [h2]; exact hx), if_neg (fun e => h3 e.symm)]
      by_cases h2 : s.R.getD y 0 < 0
      · rw [if_pos h2]
        have hR : s.R.getD y 0 = -1 := by
          rcases hC.hr y hy with h | ⟨z, h, _⟩ <;> omega
        refine ⟨hlk, fun z hz => ?_, (fun h => by cases h), fun _ => ⟨?_, fun z hz => ?_, ?_, fun x1 hx1 hne _ => ?_⟩⟩
        · show (s.look y).K.getD z false = true
          rw [look_K (by omega), hz]; split <;> rfl
        · have := mat_give hC hx hy hR rfl hyo
          show MatC l r (clr (s.R.set y (x : Int)) _) (s.L.set ((x : Int).toNat) (y : Int))
          rw [Int.toNat_natCast]; exact this
        · show (s.R.set y (x : Int)).getD z 0 = _
          rw [gI_set _ _ _ _ (by rw [hC.rl]; exact hy), if_neg (fun e => by subst e; rw [hKy] at hz; cases hz)]
        · show (s.R.set y (x : Int)).length = r
          rw [List.length_set]; exact hC.rl
        · exact hgL (s.look y) x1 hx1 hC.ll hne
      · rw [if_neg h2]
        obtain ⟨o, ho1, ho2, ho3⟩ : ∃ o : Nat, s.R.getD y 0 = o ∧ o < l ∧ s.L.getD o 0 = (y : Int) := by
          rcases hC.hr y hy with h | h
          · omega
          · exact h
        rw [ho1]
        have hox : o ≠ x := fun e => by subst e; exact hyo ho3
        have hf := hrec o (s.look y) ho2 hC hlk (.inr (by
          show (s.look y).K.getD (s.L.getD o 0).toNat false = true
          rw [ho3, Int.toNat_natCast, look_K (by omega), if_pos rfl]))
        generalize rec_ (o : Int) (s.look y) = q at *
        obtain ⟨qb, q⟩ := q
        have hkk : ∀ z, s.K.getD z false = true → q.K.getD z false = true := fun z hz => hf.kk z (by rw [look_K (by omega), hz]; split <;> rfl)
        cases qb
        · rw [if_neg (fun h => by cases h)]
          obtain ⟨e1, e2⟩ := hf.no rfl
          have e1 : q.R = s.R := e1
          have e2 : q.L = s.L := e2
          have ih := loop_ok hps hrec x hx c (j + 1) q (by omega) (by rw [e1, e2]; exact hC) hf.kl (by rw [e2]; exact hst.imp id (hkk _))
          refine ⟨ih.kl, fun z hz => ih.kk z (hkk z hz), fun h => ?_, fun h => ?_⟩
          · obtain ⟨a, b⟩ := ih.no h
            exact ⟨a.trans e1, b.trans e2⟩
          · obtain ⟨a, b, c', d⟩ := ih.yes h
            rw [e2] at a d
            rw [e1] at b
            exact ⟨a, fun z hz => b z (hkk z hz), c', fun x1 h1 h2 h3 => d x1 h1 h2 (h3.imp id (hkk _))⟩
        · rw [if_pos rfl]
          obtain ⟨a, b, c', d⟩ := hf.yes rfl
          have a : MatC l r (clr q.R (s.L.getD o 0)) q.L := a
          rw [ho3] at a
          have hclr : clr q.R (y : Int) = q.R.set y (-1) := by unfold clr; rw [if_neg (by omega), Int.toNat_natCast]
          rw [hclr] at a
          have hLx : q.L.getD x 0 = s.L.getD x 0 := d x hx (fun e => hox e.symm) (hst.imp id (fun h => by
            show (s.look y).K.getD (s.L.getD x 0).toNat false = true
            rw [look_K (by omega), h]; split <;> rfl))
          have hg := mat_give a hx hy (by rw [gI_set _ _ _ _ (by rw [c']; exact hy), if_pos rfl]) hLx hyo
          rw [List.set_set] at hg
          refine ⟨hf.kl, hkk, (fun h => by cases h), fun _ => ⟨?_, fun z hz => ?_, ?_, fun x1 hx1 hne hc => ?_⟩⟩
          · show MatC l r (clr (q.R.set y (x : Int)) _) (q.L.set ((x : Int).toNat) (y : Int))
            rw [Int.toNat_natCast]; exact hg
          · show (q.R.set y (x : Int)).getD z 0 = _
            rw [gI_set _ _ _ _ (by rw [c']; exact hy), if_neg (fun e => by subst e; rw [hKy] at hz; cases hz)]
            exact b z (by rw [look_K (by omega), hz]; split <;> rfl)
          · show (q.R.set y (x : Int)).length = r
            rw [List.length_set]; exact c'
          · rw [hgL q x1 hx1 a.ll hne]
            have hx1o : x1 ≠ o := fun e => by
              subst e
              rcases hc with h | h
              · omega
              · rw [ho3, Int.toNat_natCast, hKy] at h; cases h
            exact d x1 hx1 hx1o (hc.imp id (fun h => by
              show (s.look y).K.getD _ false = true
              rw [look_K (by omega)]
              show (if y = (s.L.getD x1 0).toNat then true else s.K.getD (s.L.getD x1 0).toNat false) = true
              rw [h]; split <;> rfl))
theorem find_ok {ps : List Int} {m l r : Nat} (hps : PairsOk ps m l r) : ∀ (f x : Nat) (s : MatS), x < l → MatC l r s.R s.L → s.K.length = r → (s.L.getD x 0 = -1 ∨ s.K.getD (s.L.getD x 0).toNat false = true) →
    FindOk l r x s (findF ps m f x s).1 (findF ps m f x s).2
  | 0, x, s, _, _, hk, _ => ⟨hk, fun _ h => h, fun _ => ⟨rfl, rfl⟩, fun h => by cases h⟩
  | f + 1, x, s, hx, hC, hk, hst => loop_ok hps (fun o t ho hC' hk' ht => find_ok hps f o t ho hC' hk' ht) x hx m 0 s (by omega) hC hk hst

/-- the states behind the first k left things -/
def matTo (ps : List Int) (m l r : Nat) : Nat → MatS
  | 0 => ⟨List.replicate r (-1), [], List.replicate l (-1)⟩
  | k + 1 => (findF ps m (r + 1) (k : Int) { matTo ps m l r k with K := List.replicate r false }).2
theorem rep_get {n j : Nat} {a : Int} (h : j < n) : (List.replicate n a).getD j 0 = a := by simp [List.getD, h]
theorem matTo_ok {ps : List Int} {m l r : Nat} (hps : PairsOk ps m l r) : ∀ k, k ≤ l → MatC l r (matTo ps m l r k).R (matTo ps m l r k).L ∧ ∀ x, k ≤ x → x < l → (matTo ps m l r k).L.getD x 0 = -1
  | 0, _ => ⟨⟨by simp [matTo], by simp [matTo], fun y hy => .inl (by show (List.replicate r (-1 : Int)).getD y 0 = -1; exact rep_get hy), fun x hx => .inl (by show (List.replicate l (-1 : Int)).getD x 0 = -1; exact rep_get hx)⟩, fun x _ hx => by show (List.replicate l (-1 : Int)).getD x 0 = -1; exact rep_get hx⟩
  | k + 1, hk => by
    obtain ⟨h1, h2⟩ := matTo_ok hps k (by omega)
    have h3 := h2 k (Nat.le_refl _) (by omega)
    rw [matTo]
    generalize matTo ps m l r k = s at *
    have hf := find_ok hps (r + 1) k { s with K := List.replicate r false } (by omega) h1 (by simp) (.inl h3)
    generalize findF ps m (r + 1) (k : Int) { s with K := List.replicate r false } = q at *
    obtain ⟨b, q⟩ := q
    cases b
    · obtain ⟨e1, e2⟩ := hf.no rfl
      have e1 : q.R = s.R := e1
      have e2 : q.L = s.L := e2
      show MatC l r q.R q.L ∧ _
      rw [e1, e2]
      exact ⟨h1, fun x hx hx2 => h2 x (by omega) hx2⟩
    · obtain ⟨a, _, _, d⟩ := hf.yes rfl
      have a : MatC l r (clr q.R (s.L.getD k 0)) q.L := a
      rw [h3] at a
      have hc : clr q.R (-1) = q.R := by unfold clr; rw [if_pos (by omega)]
      rw [hc] at a
      refine ⟨a, fun x hx hx2 => ?_⟩
      have := d x hx2 (by omega) (.inl (h2 x (by omega) hx2))
      show q.L.getD x 0 = -1
      rw [this]
      exact h2 x (by omega) hx2
/-- the program's list of the right things of all left ones, made of the owners: behind the first k right things -/
def outTo2 (R : List Int) (L0 : List Int) : Nat → List Int
  | 0 => L0
  | k + 1 => if 0 ≤ R.getD k 0 then (outTo2 R L0 k).set (R.getD k 0).toNat k else outTo2 R L0 k
theorem outTo2_ok {l r : Nat} {R L : List Int} (h : MatC l r R L) : ∀ k, k ≤ r → (outTo2 R (List.replicate l (-1)) k).length = l ∧ ∀ x, x < l → (outTo2 R (List.replicate l (-1)) k).getD x 0 = if L.getD x 0 < k then L.getD x 0 else -1
  | 0, _ => ⟨by simp [outTo2], fun x hx => by
      show (List.replicate l (-1 : Int)).getD x 0 = _
      rw [rep_get hx]
      rcases h.hl x hx with h1 | ⟨y, h1, _⟩
      · rw [h1]; rfl
      · rw [if_neg (by omega)]⟩
  | k + 1, hk => by
    obtain ⟨h1, h2⟩ := outTo2_ok h k (by omega)
    rw [outTo2]
    rcases h.hr k (by omega) with e | ⟨x0, e1, e2, e3⟩
    · rw [if_neg (by omega)]
      refine ⟨h1, fun x hx => ?_⟩
      rw [h2 x hx]
      rcases h.hl x hx with g | ⟨y, g1, g2, g3⟩
      · rw [g, if_pos (by omega), if_pos (by omega)]
      · have : y ≠ k := fun e' => by subst e'; rw [e] at g3; omega
        by_cases hlt : L.getD x 0 < k
        · rw [if_pos hlt, if_pos (by omega)]
        · rw [if_neg hlt, if_neg (by omega)]
    · rw [e1, if_pos (by omega), Int.toNat_natCast]
      refine ⟨by rw [List.length_set]; exact h1, fun x hx => ?_⟩
      rw [gI_set _ _ _ _ (by rw [h1]; exact e2)]
      by_cases hx0 : x0 = x
      · subst hx0
        rw [if_pos rfl, e3, if_pos (by omega)]
      · rw [if_neg hx0, h2 x hx]
        rcases h.hl x hx with g | ⟨y, g1, g2, g3⟩
        · rw [g, if_pos (by omega), if_pos (by omega)]
        · have : y ≠ k := fun e' => by subst e'; rw [e1] at g3; omega
          by_cases hlt : L.getD x 0 < k
          · rw [if_pos hlt, if_pos (by omega)]
          · rw [if_neg hlt, if_neg (by omega)]
theorem outTo2_all {l r : Nat} {R L : List Int} (h : MatC l r R L) : outTo2 R (List.replicate l (-1)) r = L := by
  obtain ⟨h1, h2⟩ := outTo2_ok h r (Nat.le_refl _)
  apply List.ext_getElem (by rw [h1, h.ll])
  intro i hi hi2
  have h3 := h2 i (by omega)
  have h4 : (if L.getD i 0 < r then L.getD i 0 else -1) = L.getD i 0 := by
    rcases h.hl i (by omega) with g | ⟨y, g1, g2, g3⟩
    · rw [g, if_pos (by omega)]
    · rw [if_pos (by omega)]
  rw [h4] at h3
  simpa [List.getD, hi, hi2] using h3
end Go.Proofs.Ytfoelpmglmaamaa
