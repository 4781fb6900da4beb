/- Widest ways, in plain lists. -/
import Derived.Test.YtjbmcdnnnkfhgaaNetMem
import Derived.Test.YtjbmcdnnnkfhgaaFlow3
namespace Go.Proofs.Ytjbmcdnnnkfhgaa
open Go.RowKit

theorem wI_set (zs : List Int) (i j : Nat) (x : Int) (h : i < zs.length) : (zs.set i x).getD j 0 = if i = j then x else zs.getD j 0 := by
  simp only [List.getD, List.getElem?_set]
  by_cases e : i = j
  · subst e; simp [h]
  · simp [e]
theorem wN_set (zs : List Nat) (i j : Nat) (x : Nat) (h : i < zs.length) : (zs.set i x).getD j 0 = if i = j then x else zs.getD j 0 := by
  simp only [List.getD, List.getElem?_set]
  by_cases e : i = j
  · subst e; simp [h]
  · simp [e]
/-- widths, last arcs, and when each node was settled (0: not yet) -/
structure WideS where
  W : List Int
  B : List Int
  T : List Nat
def wideGo (s : WideS) (at_ : Int) (i : Nat) : Bool := decide (s.T.getD i 0 = 0) && (decide (0 ≤ s.W.getD i 0) && (decide (at_ < 0) || decide (s.W.getD at_.toNat 0 < s.W.getD i 0)))
def pickTo (s : WideS) : Nat → Int
  | 0 => -1
  | i + 1 => if wideGo s (pickTo s i) i = true then (i : Int) else pickTo s i
def wideOne (xs : List ArcR) (u : Nat) (s : WideS) (j : Nat) : WideS :=
  if (xs.getD j default).fr = (u : Int) ∧ s.W.getD (xs.getD j default).to_.toNat 0 < min (s.W.getD u 0) (xs.getD j default).room then
    { s with W := s.W.set (xs.getD j default).to_.toNat (min (s.W.getD u 0) (xs.getD j default).room), B := s.B.set (xs.getD j default).to_.toNat j }
  else s
def wideTo (xs : List ArcR) (u : Nat) (s : WideS) : Nat → WideS
  | 0 => s
  | j + 1 => wideOne xs u (wideTo xs u s j) j
def wide0 (N F : Nat) : WideS := ⟨(List.replicate N (-1)).set F 1000001, List.replicate N 0, List.replicate N 0⟩
def wideR (xs : List ArcR) (N F : Nat) : Nat → WideS
  | 0 => wide0 N F
  | k + 1 => if pickTo (wideR xs N F k) N < 0 then wideR xs N F k else wideTo xs (pickTo (wideR xs N F k) N).toNat { wideR xs N F k with T := (wideR xs N F k).T.set (pickTo (wideR xs N F k) N).toNat (k + 1) } xs.length
theorem wideR_stay {xs : List ArcR} {N F k : Nat} (h : pickTo (wideR xs N F k) N < 0) : ∀ d, wideR xs N F (k + d) = wideR xs N F k
  | 0 => rfl
  | d + 1 => by rw [← Nat.add_assoc, wideR, wideR_stay h d, if_pos h]
/-- the k-th round has been made -/
structure WideOk (xs : List ArcR) (N F k : Nat) (s : WideS) : Prop where
  wl : s.W.length = N
  bl : s.B.length = N
  tl : s.T.length = N
  hF : s.W.getD F 0 = 1000001
  hw : ∀ v, v < N → s.W.getD v 0 = -1 ∨ (0 ≤ s.W.getD v 0 ∧ s.W.getD v 0 ≤ 1000001)
  ht : ∀ v, v < N → s.T.getD v 0 ≠ 0 → 0 ≤ s.W.getD v 0 ∧ s.T.getD v 0 ≤ k
  hm : ∀ v x, v < N → x < N → s.T.getD v 0 ≠ 0 → s.T.getD x 0 = 0 → s.W.getD x 0 ≤ s.W.getD v 0
  hb : ∀ v, v < N → v ≠ F → 0 ≤ s.W.getD v 0 → ∃ b u : Nat, s.B.getD v 0 = (b : Int) ∧ b < xs.length ∧ (xs.getD b default).to_ = (v : Int) ∧ (xs.getD b default).fr = (u : Int) ∧ u < N ∧ s.T.getD u 0 ≠ 0 ∧ (s.T.getD v 0 ≠ 0 → s.T.getD u 0 < s.T.getD v 0)
def NetOk (xs : List ArcR) (N : Nat) : Prop := ∀ j, j < xs.length → (0 ≤ (xs.getD j default).fr ∧ (xs.getD j default).fr < N) ∧ (0 ≤ (xs.getD j default).to_ ∧ (xs.getD j default).to_ < N) ∧ (0 ≤ (xs.getD j default).room ∧ (xs.getD j default).room ≤ 1000000)
theorem wide0_ok {xs : List ArcR} {N F : Nat} (hF : F < N) : WideOk xs N F 0 (wide0 N F) := by
  have hg : ∀ v, v < N → (wide0 N F).W.getD v 0 = if F = v then 1000001 else -1 := fun v hv => by
    show ((List.replicate N (-1 : Int)).set F 1000001).getD v 0 = _
    rw [wI_set _ _ _ _ (by simp [hF])]
    simp [List.getD, hv]
  have ht : ∀ v, v < N → (wide0 N F).T.getD v 0 = 0 := fun v hv => by simp [wide0, List.getD, hv]
  refine ⟨by simp [wide0], by simp [wide0], by simp [wide0], by rw [hg F hF, if_pos rfl], fun v hv => ?_, fun v hv h => absurd (ht v hv) h, fun v x hv _ h => absurd (ht v hv) h, fun v hv hne h => ?_⟩
  · rw [hg v hv]; split <;> omega
  · rw [hg v hv, if_neg (fun e => hne e.symm)] at h; omega
/-- while the arcs out of u are looked at: u has been settled last -/
theorem wideOne_ok {xs : List ArcR} {N F k u j : Nat} {s : WideS} (hx : NetOk xs N) (hj : j < xs.length) (hu : u < N) (hF : F < N) (h : WideOk xs N F (k + 1) s) (hTu : s.T.getD u 0 = k + 1) (hlast : ∀ v, v < N → s.T.getD v 0 ≠ 0 → s.W.getD u 0 ≤ s.W.getD v 0) :
    WideOk xs N F (k + 1) (wideOne xs u s j) ∧ (wideOne xs u s j).T = s.T ∧ (wideOne xs u s j).W.getD u 0 = s.W.getD u 0 ∧ ∀ v, v < N → (wideOne xs u s j).T.getD v 0 ≠ 0 → (wideOne xs u s j).W.getD u 0 ≤ (wideOne xs u s j).W.getD v 0 := by
  obtain ⟨⟨a0, a1⟩, ⟨b0, b1⟩, c0, c1⟩ := hx j hj
  unfold wideOne
  by_cases hg : (xs.getD j default).fr = (u : Int) ∧ s.W.getD (xs.getD j default).to_.toNat 0 < min (s.W.getD u 0) (xs.getD j default).room
  · rw [if_pos hg]
    obtain ⟨h1, h2⟩ := hg
    obtain ⟨t, ht⟩ : ∃ t : Nat, (xs.getD j default).to_ = t := ⟨_, (Int.toNat_of_nonneg b0).symm⟩
    rw [ht, Int.toNat_natCast] at h2 ⊢
    have htN : t < N := by omega
    obtain ⟨hu0, hu1⟩ := h.ht u hu (by omega)
    -- t is not settled
    have hTt : s.T.getD t 0 = 0 := by
      by_cases e : s.T.getD t 0 = 0
      · exact e
      · have := hlast t htN e
        omega
    have htF : t ≠ F := fun e => by subst e; rw [h.hF] at h2; omega
    have htu : t ≠ u := fun e => by subst e; omega
    have hWg : ∀ v, (s.W.set t (min (s.W.getD u 0) (xs.getD j default).room)).getD v 0 = if t = v then min (s.W.getD u 0) (xs.getD j default).room else s.W.getD v 0 := fun v => wI_set _ _ _ _ (by rw [h.wl]; exact htN)
    refine ⟨⟨by show (List.set _ _ _).length = N; rw [List.length_set]; exact h.wl, by show (List.set _ _ _).length = N; rw [List.length_set]; exact h.bl, h.tl, ?_, fun v hv => ?_, fun v hv hT => ?_, fun v x hv hx' hT hT' => ?_, fun v hv hne h0 => ?_⟩, rfl, ?_, fun v hv hT => ?_⟩
    · show (s.W.set t _).getD F 0 = _
      rw [hWg, if_neg htF]; exact h.hF
    · show (s.W.set t _).getD v 0 = -1 ∨ (0 ≤ (s.W.set t _).getD v 0 ∧ (s.W.set t _).getD v 0 ≤ 1000001)
      rw [hWg]
      split
      · have := h.hw u hu; omega
      · exact h.hw v hv
    · show 0 ≤ (s.W.set t _).getD v 0 ∧ s.T.getD v 0 ≤ k + 1
      have hT : s.T.getD v 0 ≠ 0 := hT
      rw [hWg, if_neg (fun e => by subst e; exact hT hTt)]
      exact h.ht v hv hT
    · show (s.W.set t _).getD x 0 ≤ (s.W.set t _).getD v 0
      have hT : s.T.getD v 0 ≠ 0 := hT
      have hT' : s.T.getD x 0 = 0 := hT'
      rw [hWg v, if_neg (fun e => by subst e; exact hT hTt), hWg x]
      split
      · have := hlast v hv hT; omega
      · exact h.hm v x hv hx' hT hT'
    · have h0 : 0 ≤ (s.W.set t (min (s.W.getD u 0) (xs.getD j default).room)).getD v 0 := h0
      show ∃ b u' : Nat, (s.B.set t (j : Int)).getD v 0 = (b : Int) ∧ b < xs.length ∧ (xs.getD b default).to_ = (v : Int) ∧ (xs.getD b default).fr = (u' : Int) ∧ u' < N ∧ s.T.getD u' 0 ≠ 0 ∧ (s.T.getD v 0 ≠ 0 → s.T.getD u' 0 < s.T.getD v 0)
      rw [wI_set _ _ _ _ (by rw [h.bl]; exact htN)]
      by_cases e : t = v
      · subst e
        rw [if_pos rfl]
        exact ⟨j, u, rfl, hj, ht, h1, hu, by omega, fun hn => absurd hTt hn⟩
      · rw [if_neg e]
        rw [hWg, if_neg e] at h0
        exact h.hb v hv hne h0
    · show (s.W.set t _).getD u 0 = _
      rw [hWg, if_neg htu]
    · show (s.W.set t _).getD u 0 ≤ (s.W.set t _).getD v 0
      have hT : s.T.getD v 0 ≠ 0 := hT
      rw [hWg u, hWg v, if_neg htu, if_neg (fun e => by subst e; exact hT hTt)]
      exact hlast v hv hT
  · rw [if_neg hg]
    exact ⟨h, rfl, rfl, hlast⟩
theorem wideTo_ok {xs : List ArcR} {N F k u : Nat} {s : WideS} (hx : NetOk xs N) (hu : u < N) (hF : F < N) (h : WideOk xs N F (k + 1) s) (hTu : s.T.getD u 0 = k + 1) (hlast : ∀ v, v < N → s.T.getD v 0 ≠ 0 → s.W.getD u 0 ≤ s.W.getD v 0) :
    ∀ j, j ≤ xs.length → WideOk xs N F (k + 1) (wideTo xs u s j) ∧ (wideTo xs u s j).T = s.T ∧ (wideTo xs u s j).W.getD u 0 = s.W.getD u 0 ∧ ∀ v, v < N → (wideTo xs u s j).T.getD v 0 ≠ 0 → (wideTo xs u s j).W.getD u 0 ≤ (wideTo xs u s j).W.getD v 0
  | 0, _ => ⟨h, rfl, rfl, hlast⟩
  | j + 1, hj => by
    obtain ⟨h1, h2, h3, h4⟩ := wideTo_ok hx hu hF h hTu hlast j (by omega)
    obtain ⟨k1, k2, k3, k4⟩ := wideOne_ok hx (show j < xs.length by omega) hu hF h1 (by rw [h2]; exact hTu) h4
    exact ⟨k1, k2.trans h2, k3.trans h3, k4⟩
theorem pick_ok {s : WideS} : ∀ i, pickTo s i = -1 ∨ ∃ v : Nat, pickTo s i = v ∧ v < i ∧ s.T.getD v 0 = 0 ∧ 0 ≤ s.W.getD v 0 ∧ ∀ x, x < i → s.T.getD x 0 = 0 → s.W.getD x 0 ≤ s.W.getD v 0
  | 0 => .inl rfl
  | i + 1 => by
    have ih := pick_ok (s := s) i
    rw [pickTo]
    by_cases hg : wideGo s (pickTo s i) i = true
    · rw [if_pos hg]
      unfold wideGo at hg
      simp only [Bool.and_eq_true, Bool.or_eq_true, decide_eq_true_eq] at hg
      obtain ⟨g1, g2, g3⟩ := hg
      refine .inr ⟨i, rfl, by omega, g1, g2, fun x hx hT => ?_⟩
      by_cases e : x = i
      · rw [e]; exact Int.le_refl _
      · rcases ih with ih | ⟨v, v1, v2, v3, v4, v5⟩
        · -- no earlier one is known and not settled
          have hno : ∀ j, j ≤ i → pickTo s j = -1 → ∀ x, x < j → s.T.getD x 0 = 0 → s.W.getD x 0 < 0 := by
            intro j
            induction j with
            | zero => intro _ _ x hx; omega
            | succ j ihj =>
              intro hj hp x hx hT
              rw [pickTo] at hp
              by_cases hg2 : wideGo s (pickTo s j) j = true
              · rw [if_pos hg2] at hp; omega
              · rw [if_neg hg2] at hp
                by_cases e2 : x = j
                · subst e2
                  unfold wideGo at hg2
                  rw [hp, hT] at hg2
                  by_cases h0 : 0 ≤ s.W.getD x 0
                  · exact absurd (by rw [decide_eq_true h0]; simp) hg2
                  · omega
                · exact ihj (by omega) hp x (by omega) hT
          have := hno i (Nat.le_refl _) ih x (by omega) hT
          omega
        · have := v5 x (by omega) hT
          rcases g3 with g3 | g3
          · omega
          · rw [v1, Int.toNat_natCast] at g3; omega
    · rw [if_neg hg]
      rcases ih with ih | ⟨v, v1, v2, v3, v4, v5⟩
      · exact .inl ih
      · refine .inr ⟨v, v1, by omega, v3, v4, fun x hx hT => ?_⟩
        by_cases e : x = i
        · subst e
          unfold wideGo at hg
          rw [hT, v1, Int.toNat_natCast] at hg
          by_cases h0 : 0 ≤ s.W.getD x 0
          · by_cases h1 : s.W.getD v 0 < s.W.getD x 0
            · exact absurd (by rw [decide_eq_true h0, decide_eq_true h1]; simp) hg
            · omega
          · omega
        · exact v5 x (by omega) hT
theorem countN_set {ts : List Nat} {y m : Nat} (h : y < ts.length) (hk : ts.getD y 0 = 0) (hm : m ≠ 0) : (ts.set y m).count 0 + 1 = ts.count 0 := by
  induction ts generalizing y with
  | nil => simp at h
  | cons t ts ih =>
    cases y with
    | zero =>
      simp [List.getD] at hk
      subst hk
      simp [hm]
    | succ y =>
      have := ih (y := y) (by simpa using h) (by simpa [List.getD] using hk)
      simp only [List.set_cons_succ, List.count_cons]
      omega
theorem settle_ok {xs : List ArcR} {N F k v : Nat} {s : WideS} (h : WideOk xs N F k s) (hv : v < N) (hT : s.T.getD v 0 = 0) (h0 : 0 ≤ s.W.getD v 0) (hmax : ∀ x, x < N → s.T.getD x 0 = 0 → s.W.getD x 0 ≤ s.W.getD v 0) :
    WideOk xs N F (k + 1) { s with T := s.T.set v (k + 1) } ∧ (s.T.set v (k + 1)).getD v 0 = k + 1 ∧ ∀ x, x < N → (s.T.set v (k + 1)).getD x 0 ≠ 0 → s.W.getD v 0 ≤ s.W.getD x 0 := by
  have hTg : ∀ x, (s.T.set v (k + 1)).getD x 0 = if v = x then k + 1 else s.T.getD x 0 := fun x => wN_set _ _ _ _ (by rw [h.tl]; exact hv)
  refine ⟨⟨h.wl, h.bl, by show (List.set _ _ _).length = N; rw [List.length_set]; exact h.tl, h.hF, h.hw, fun x hx hx2 => ?_, fun x y hx hy hx2 hy2 => ?_, fun x hx hne hx0 => ?_⟩, by rw [hTg, if_pos rfl], fun x hx hx2 => ?_⟩
  · show 0 ≤ s.W.getD x 0 ∧ (s.T.set v (k + 1)).getD x 0 ≤ k + 1
    have hx2 : (s.T.set v (k + 1)).getD x 0 ≠ 0 := hx2
    rw [hTg] at hx2 ⊢
    split
    · rename_i e; subst e; exact ⟨h0, Nat.le_refl _⟩
    · rename_i e; rw [if_neg e] at hx2; have := h.ht x hx hx2; omega
  · have hx2 : (s.T.set v (k + 1)).getD x 0 ≠ 0 := hx2
    have hy2 : (s.T.set v (k + 1)).getD y 0 = 0 := hy2
    show s.W.getD y 0 ≤ s.W.getD x 0
    rw [hTg] at hx2 hy2
    have hvy : ¬ v = y := fun e => by rw [if_pos e] at hy2; omega
    rw [if_neg hvy] at hy2
    by_cases e : v = x
    · subst e; exact hmax y hy hy2
    · rw [if_neg e] at hx2; exact h.hm x y hx hy hx2 hy2
  · obtain ⟨b, u, b1, b2, b3, b4, b5, b6, b7⟩ := h.hb x hx hne hx0
    refine ⟨b, u, b1, b2, b3, b4, b5, ?_, fun hn => ?_⟩
    · show (s.T.set v (k + 1)).getD u 0 ≠ 0
      rw [hTg]; split <;> omega
    · have hn : (s.T.set v (k + 1)).getD x 0 ≠ 0 := hn
      show (s.T.set v (k + 1)).getD u 0 < (s.T.set v (k + 1)).getD x 0
      have huv : ¬ v = u := fun e => by subst e; exact b6 hT
      rw [hTg] at hn
      rw [hTg, hTg, if_neg huv]
      by_cases e : v = x
      · rw [if_pos e]; have := (h.ht u b5 b6).2; omega
      · rw [if_neg e] at hn ⊢; exact b7 hn
  · rw [hTg] at hx2
    by_cases e : v = x
    · subst e; exact Int.le_refl _
    · rw [if_neg e] at hx2; exact h.hm x v hx hv hx2 hT
theorem wideR_ok {xs : List ArcR} {N F : Nat} (hx : NetOk xs N) (hF : F < N) : ∀ k, WideOk xs N F k (wideR xs N F k)
  | 0 => wide0_ok hF
  | k + 1 => by
    have ih := wideR_ok hx hF k
    rw [wideR]
    rcases pick_ok (s := wideR xs N F k) N with h | ⟨v, v1, v2, v3, v4, v5⟩
    · rw [if_pos (by rw [h]; omega)]
      exact ⟨ih.wl, ih.bl, ih.tl, ih.hF, ih.hw, fun v hv hT => by have := ih.ht v hv hT; omega, ih.hm, ih.hb⟩
    · rw [if_neg (by rw [v1]; omega), v1, Int.toNat_natCast]
      obtain ⟨s1, s2, s3⟩ := settle_ok ih v2 v3 v4 v5
      exact (wideTo_ok hx v2 hF s1 s2 s3 xs.length (Nat.le_refl _)).1
/-- while no round was idle, each has settled a node -/
theorem wideR_count {xs : List ArcR} {N F : Nat} (hx : NetOk xs N) (hF : F < N) {k : Nat} (h : (wideR xs N F k).T.count 0 + k = N) (hp : ¬ pickTo (wideR xs N F k) N < 0) : k + 1 ≤ N ∧ (wideR xs N F (k + 1)).T.count 0 + (k + 1) = N := by
  have ih := wideR_ok hx hF k
  rcases pick_ok (s := wideR xs N F k) N with h1 | ⟨v, v1, v2, v3, v4, v5⟩
  · rw [h1] at hp; omega
  · rw [wideR, if_neg hp, v1, Int.toNat_natCast]
    obtain ⟨s1, s2, s3⟩ := settle_ok ih v2 v3 v4 v5
    have hT := (wideTo_ok hx v2 hF s1 s2 s3 xs.length (Nat.le_refl _)).2.1
    rw [hT]
    have := countN_set (m := k + 1) (by rw [ih.tl]; exact v2) v3 (by omega)
    exact ⟨by omega, by show ((wideR xs N F k).T.set v (k + 1)).count 0 + (k + 1) = N; omega⟩
theorem pick_none {s : WideS} : ∀ i, pickTo s i < 0 → ∀ x, x < i → s.T.getD x 0 = 0 → s.W.getD x 0 < 0
  | 0, _, x, hx, _ => by omega
  | i + 1, hp, x, hx, hT => by
    rw [pickTo] at hp
    by_cases hg : wideGo s (pickTo s i) i = true
    · rw [if_pos hg] at hp; omega
    · rw [if_neg hg] at hp
      by_cases e : x = i
      · subst e
        unfold wideGo at hg
        rw [hT] at hg
        by_cases h0 : 0 ≤ s.W.getD x 0
        · by_cases h1 : pickTo s x < 0
          · exact absurd (by rw [decide_eq_true h0, decide_eq_true h1]; simp) hg
          · exact absurd hp h1
        · omega
      · exact pick_none i hp x (by omega) hT
/-- the way back -/
def wpre (xs : List ArcR) (s : WideS) (v : Nat) : Nat := (xs.getD (s.B.getD v 0).toNat default).fr.toNat
def wchain (xs : List ArcR) (s : WideS) (t : Nat) : Nat → Nat
  | 0 => t
  | i + 1 => wpre xs s (wchain xs s t i)
structure WayOk (xs : List ArcR) (N F t : Nat) (s : WideS) (p : Nat) : Prop where
  le : p ≤ N
  at_ : wchain xs s t p = F
  ne : ∀ j, j < p → wchain xs s t j ≠ F ∧ wchain xs s t j < N ∧ ∃ b : Nat, s.B.getD (wchain xs s t j) 0 = (b : Int) ∧ b < xs.length ∧ (xs.getD b default).fr = ((wchain xs s t (j + 1) : Nat) : Int) ∧ (xs.getD b default).to_ = ((wchain xs s t j : Nat) : Int)
theorem wchain_shift {xs : List ArcR} {s : WideS} {t : Nat} : ∀ j, wchain xs s t (j + 1) = wchain xs s (wpre xs s t) j
  | 0 => rfl
  | j + 1 => by
    rw [wchain, wchain_shift j]; rfl
theorem way_ok {xs : List ArcR} {N F k : Nat} {s : WideS} (h : WideOk xs N F k s) (hF : F < N) (hall : ∀ v, v < N → 0 ≤ s.W.getD v 0 → s.T.getD v 0 ≠ 0) : ∀ (q t : Nat), t < N → 0 ≤ s.W.getD t 0 → s.T.getD t 0 ≤ q → ∃ p, p ≤ q ∧ wchain xs s t p = F ∧ ∀ j, j < p → wchain xs s t j ≠ F ∧ wchain xs s t j < N ∧ ∃ b : Nat, s.B.getD (wchain xs s t j) 0 = (b : Int) ∧ b < xs.length ∧ (xs.getD b default).fr = ((wchain xs s t (j + 1) : Nat) : Int) ∧ (xs.getD b default).to_ = ((wchain xs s t j : Nat) : Int)
  | 0, t, ht, h0, hq => by have := hall t ht h0; omega
  | q + 1, t, ht, h0, hq => by
    by_cases e : t = F
    · exact ⟨0, by omega, e, fun j hj => by omega⟩
    · obtain ⟨b, u, b1, b2, b3, b4, b5, b6, b7⟩ := h.hb t ht e h0
      have hu := (h.ht u b5 b6).1
      have hlt := b7 (hall t ht h0)
      have hpre : wpre xs s t = u := by unfold wpre; rw [b1, Int.toNat_natCast, b4, Int.toNat_natCast]
      obtain ⟨p, p1, p2, p3⟩ := way_ok h hF hall q u b5 hu (by omega)
      refine ⟨p + 1, by omega, by rw [wchain_shift, hpre]; exact p2, fun j hj => ?_⟩
      cases j with
      | zero => exact ⟨e, ht, b, b1, b2, by rw [wchain_shift, hpre]; exact b4, b3⟩
      | succ j =>
        rw [wchain_shift, wchain_shift, hpre]
        exact p3 j (by omega)
theorem way_all {xs : List ArcR} {N F k t : Nat} (hx : NetOk xs N) (hF : F < N) (hk : k ≤ N) (hp : pickTo (wideR xs N F k) N < 0) (ht : t < N) (h0 : 0 ≤ (wideR xs N F k).W.getD t 0) : ∃ p, WayOk xs N F t (wideR xs N F k) p := by
  have h := wideR_ok hx hF k
  have hall : ∀ v, v < N → 0 ≤ (wideR xs N F k).W.getD v 0 → (wideR xs N F k).T.getD v 0 ≠ 0 := fun v hv h1 h2 => by
    have := pick_none N hp v hv h2; omega
  obtain ⟨p, p1, p2, p3⟩ := way_ok h hF hall k t ht h0 (h.ht t ht (hall t ht h0)).2
  exact ⟨p, by omega, p2, p3⟩
/-- the arcs of the way, backwards, the first k -/
def wback (xs : List ArcR) (s : WideS) (t : Nat) (k : Nat) : List Int := (List.range k).map fun i => s.B.getD (wchain xs s t i) 0
theorem wback_succ (xs : List ArcR) (s : WideS) (t k : Nat) : wback xs s t (k + 1) = wback xs s t k ++ [s.B.getD (wchain xs s t k) 0] := by
  unfold wback
  rw [List.range_succ, List.map_append]; rfl
theorem wback_len (xs : List ArcR) (s : WideS) (t k : Nat) : (wback xs s t k).length = k := by simp [wback]
def firstW (f : Nat → Bool) : Nat → Nat → Nat
  | 0, i => i
  | k + 1, i => if f i = true then i else firstW f k (i + 1)
theorem firstW_ok {f : Nat → Bool} : ∀ (k i p : Nat), i ≤ p → p < i + k → f p = true → (∀ m, i ≤ m → m < p → f m = false) → firstW f k i = p
  | 0, i, p, h1, h2, _, _ => by omega
  | k + 1, i, p, h1, h2, h3, h4 => by
    rw [firstW]
    by_cases e : i = p
    · subst e; rw [if_pos h3]
    · rw [if_neg (by rw [h4 i (Nat.le_refl _) (by omega)]; decide)]
      exact firstW_ok k (i + 1) p (by omega) (by omega) h3 (fun m m1 m2 => h4 m (by omega) m2)
def wayP (xs : List ArcR) (N F t : Nat) : Nat := firstW (fun p => decide (wchain xs (wideR xs N F N) t p = F)) (N + 1) 0
theorem wayP_ok {xs : List ArcR} {N F t p : Nat} (h : WayOk xs N F t (wideR xs N F N) p) : wayP xs N F t = p :=
  firstW_ok (N + 1) 0 p (by omega) (by have := h.le; omega) (decide_eq_true h.at_) (fun m _ m2 => decide_eq_false (h.ne m m2).1)
/-- the widest way and its width, with the ends -/
def wideB (nodes : Int) (xs : List ArcR) (a b : Int) : Bool := endsB nodes xs a b && decide (0 ≤ (wideR xs nodes.toNat a.toNat nodes.toNat).W.getD b.toNat 0)
def wideV (nodes : Int) (xs : List ArcR) (a b : Int) : List Int × Int := if wideB nodes xs a b = true then ((wback xs (wideR xs nodes.toNat a.toNat nodes.toNat) b.toNat (wayP xs nodes.toNat a.toNat b.toNat)).reverse, (wideR xs nodes.toNat a.toNat nodes.toNat).W.getD b.toNat 0) else ([], 0)
end Go.Proofs.Ytjbmcdnnnkfhgaa
