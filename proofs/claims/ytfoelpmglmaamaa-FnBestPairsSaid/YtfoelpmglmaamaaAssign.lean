/- Best pairs cost the least: in plain lists. -/
import Derived.Test.YtfoelpmglmaamaaBPairsPlain
import Derived.Test.YtfoelpmglmaamaaSum
namespace Go.Proofs.Ytfoelpmglmaamaa
open Go.RowKit

theorem or_gt {m c : Nat} (h : m.testBit c = false) : m < m ||| 2 ^ c := by
  have h1 : m ≤ m ||| 2 ^ c := Nat.left_le_or
  have h2 := or_ne h
  omega
theorem bpB_congr {cs R R' : List Int} {S m row : Nat} (h : ∀ i, m < i → R.getD i 0 = R'.getD i 0) : ∀ c, bpB cs R S m row c = bpB cs R' S m row c
  | 0 => rfl
  | c + 1 => by
    have ih := bpB_congr (cs := cs) (row := row) (S := S) h c
    show (if m.testBit c = true then _ else _) = (if m.testBit c = true then _ else _)
    by_cases hb : m.testBit c = true
    · rw [if_pos hb, if_pos hb]; exact ih
    · rw [if_neg hb, if_neg hb, ih, h _ (or_gt (Bool.not_eq_true _ ▸ hb))]
theorem bpR_later {cs : List Int} {S : Nat} {j i : Nat} (hj : 2 ^ S - 2 - j < i ∨ 2 ^ S - 1 ≤ i) : ∀ d, j + d + 1 ≤ 2 ^ S → (bpR cs S (j + d)).getD i 0 = (bpR cs S j).getD i 0
  | 0, _ => rfl
  | d + 1, hd => by
    rw [← Nat.add_assoc, bpR, getD_far _ _ _ _ (by omega)]
    exact bpR_later hj d (by omega)
theorem rest_step {cs : List Int} {S m : Nat} (hm : m + 1 < 2 ^ S) : (bpRest cs S).getD m 0 = (bpB cs (bpRest cs S) S m (bcnt m S) S).1 := by
  have h1 : (bpRest cs S).getD m 0 = (bpR cs S (2 ^ S - 2 - m + 1)).getD m 0 := by
    rcases Nat.eq_zero_or_pos m with h0 | h0
    · subst h0
      rw [bpRest, show 2 ^ S - 2 - 0 + 1 = 2 ^ S - 1 by omega]
    have := bpR_later (cs := cs) (S := S) (j := 2 ^ S - 2 - m + 1) (i := m) (by omega) (2 ^ S - 1 - (2 ^ S - 2 - m + 1)) (by omega)
    rw [show 2 ^ S - 2 - m + 1 + (2 ^ S - 1 - (2 ^ S - 2 - m + 1)) = 2 ^ S - 1 by omega] at this
    exact this
  have hlen := bpR_len cs S (2 ^ S - 2 - m)
  rw [h1, bpR, show 2 ^ S - 2 - (2 ^ S - 2 - m) = m by omega, getD_set (show m < (bpR cs S (2 ^ S - 2 - m)).length by rw [hlen]; omega), if_pos rfl]
  have h2 := bpB_congr (cs := cs) (R := bpR cs S (2 ^ S - 2 - m)) (R' := bpRest cs S) (S := S) (m := m) (row := bcnt m S) (fun i hi => by
    have := bpR_later (cs := cs) (S := S) (j := 2 ^ S - 2 - m) (i := i) (by omega) (2 ^ S - 1 - (2 ^ S - 2 - m)) (by omega)
    rw [show 2 ^ S - 2 - m + (2 ^ S - 1 - (2 ^ S - 2 - m)) = 2 ^ S - 1 by omega] at this
    exact this.symm) S
  rw [h2]
theorem rest_full {cs : List Int} {S m : Nat} (hm : 2 ^ S ≤ m + 1) : (bpRest cs S).getD m 0 = 0 := by
  have hp := Nat.two_pow_pos S
  have := bpR_later (cs := cs) (S := S) (j := 0) (i := m) (by omega) (2 ^ S - 1) (by omega)
  rw [Nat.zero_add] at this
  show (bpR cs S (2 ^ S - 1)).getD m 0 = 0
  rw [this]
  simp only [bpR, List.getD, List.getElem?_replicate]; split <;> rfl
theorem bpB_least {cs R : List Int} {S m row : Nat} : ∀ C c, c < C → m.testBit c = false → (bpB cs R S m row C).2 = true ∧ (bpB cs R S m row C).1 ≤ cs.getD (row * S + c) 0 + R.getD (m ||| 2 ^ c) 0
  | C + 1, c, hc, hb => by
    by_cases e : c = C
    · subst e
      by_cases h2 : (bpB cs R S m row c).2 = false ∨ cs.getD (row * S + c) 0 + R.getD (m ||| 2 ^ c) 0 < (bpB cs R S m row c).1
      · rw [bpB_yes hb h2]; exact ⟨rfl, Int.le_refl _⟩
      · have h3 : (bpB cs R S m row c).2 = true := by
          cases h4 : (bpB cs R S m row c).2
          · exact absurd (.inl h4) h2
          · rfl
        have h5 : (bpB cs R S m row c).1 ≤ cs.getD (row * S + c) 0 + R.getD (m ||| 2 ^ c) 0 := Int.not_lt.1 fun h => h2 (.inr h)
        rw [bpB_no h3 h5]; exact ⟨h3, h5⟩
    · obtain ⟨g1, g2⟩ := bpB_least (cs := cs) (R := R) (S := S) (row := row) C c (by omega) hb
      by_cases hC : m.testBit C = true
      · rw [bpB_in hC]; exact ⟨g1, g2⟩
      · have hC : m.testBit C = false := Bool.not_eq_true _ ▸ hC
        by_cases h2 : cs.getD (row * S + C) 0 + R.getD (m ||| 2 ^ C) 0 < (bpB cs R S m row C).1
        · rw [bpB_yes hC (.inr h2)]; exact ⟨rfl, by show cs.getD (row * S + C) 0 + R.getD (m ||| 2 ^ C) 0 ≤ _; omega⟩
        · rw [bpB_no g1 (Int.not_lt.1 h2)]; exact ⟨g1, g2⟩
theorem bpB_some {cs R : List Int} {S m row : Nat} : ∀ C, (bpB cs R S m row C).2 = true → ∃ c, c < C ∧ m.testBit c = false ∧ (bpB cs R S m row C).1 = cs.getD (row * S + c) 0 + R.getD (m ||| 2 ^ c) 0
  | 0, h => by cases h
  | C + 1, h => by
    by_cases hC : m.testBit C = true
    · rw [bpB_in hC] at h ⊢
      obtain ⟨c, h1, h2⟩ := bpB_some C h
      exact ⟨c, by omega, h2⟩
    · have hC : m.testBit C = false := Bool.not_eq_true _ ▸ hC
      by_cases h2 : (bpB cs R S m row C).2 = false ∨ cs.getD (row * S + C) 0 + R.getD (m ||| 2 ^ C) 0 < (bpB cs R S m row C).1
      · rw [bpB_yes hC h2]; exact ⟨C, by omega, hC, rfl⟩
      · have h3 : (bpB cs R S m row C).2 = true := by
          cases h4 : (bpB cs R S m row C).2
          · exact absurd (.inl h4) h2
          · rfl
        rw [bpB_no h3 (Int.not_lt.1 fun h => h2 (.inr h))]
        obtain ⟨c, h1, h4⟩ := bpB_some C h3
        exact ⟨c, by omega, h4⟩
theorem bcnt_or {m c : Nat} (h : m.testBit c = false) : ∀ S, bcnt (m ||| 2 ^ c) S = bcnt m S + if c < S then 1 else 0
  | 0 => by simp [bcnt]
  | S + 1 => by
    have ih := bcnt_or h S
    show (if (m ||| 2 ^ c).testBit S = true then bcnt (m ||| 2 ^ c) S + 1 else bcnt (m ||| 2 ^ c) S) = (if m.testBit S = true then bcnt m S + 1 else bcnt m S) + _
    rw [ih, Nat.testBit_or, Nat.testBit_two_pow]
    by_cases e : c = S
    · subst e
      rw [h, decide_eq_true rfl, Bool.false_or, if_pos rfl, if_neg (Nat.lt_irrefl c), if_neg (by decide), if_pos (Nat.lt_succ_self c)]
    · rw [decide_eq_false e, Bool.or_false]
      by_cases hl : c < S
      · rw [if_pos hl, if_pos (show c < S + 1 by omega)]
        by_cases hb : m.testBit S = true
        · rw [if_pos hb, if_pos hb]
        · rw [if_neg hb, if_neg hb]
      · rw [if_neg hl, if_neg (show ¬ c < S + 1 by omega)]; simp only [Nat.add_zero]
theorem bcnt_zero : ∀ S, bcnt 0 S = 0
  | 0 => rfl
  | S + 1 => by show (if (0 : Nat).testBit S = true then _ else _) = 0; rw [Nat.zero_testBit, if_neg (by decide)]; exact bcnt_zero S
/-- what columns of the rows from r on cost -/
def asg (cs : List Int) (S : Nat) : Nat → List Nat → Int
  | _, [] => 0
  | r, c :: q => cs.getD (r * S + c) 0 + asg cs S (r + 1) q
theorem rest_le {cs : List Int} {S : Nat} : ∀ (q : List Nat) (r m : Nat), m < 2 ^ S → bcnt m S = r → r + q.length = S → q.Nodup → (∀ c ∈ q, c < S ∧ m.testBit c = false) → (bpRest cs S).getD m 0 ≤ asg cs S r q
  | [], r, m, hm, hr, hl, _, _ => by
    rw [rest_full (by
      rcases Nat.lt_or_ge (m + 1) (2 ^ S) with h | h
      · have := bcnt_full S m h
        simp at hl; omega
      · exact h)]
    exact Int.le_refl _
  | c :: q, r, m, hm, hr, hl, hnd, hq => by
    obtain ⟨c1, c2⟩ := hq c (by simp)
    have hnd := List.nodup_cons.1 hnd
    have hlt : m + 1 < 2 ^ S := by
      have h1 := or_gt c2
      have h2 := or_lt hm c1
      omega
    rw [rest_step hlt, hr]
    have h1 := (bpB_least (cs := cs) (R := bpRest cs S) (S := S) (m := m) (row := r) S c c1 c2).2
    have h2 := rest_le (cs := cs) q (r + 1) (m ||| 2 ^ c) (or_lt hm c1) (by rw [bcnt_or c2, if_pos c1, hr]) (by simp only [List.length_cons] at hl; omega) hnd.2 (fun x hx => by
      obtain ⟨x1, x2⟩ := hq x (by simp [hx])
      refine ⟨x1, ?_⟩
      rw [Nat.testBit_or, x2, Nat.testBit_two_pow, Bool.false_or]
      exact decide_eq_false (fun e => hnd.1 (by rw [e]; exact hx)))
    rw [asg]
    omega
theorem bpF_some {cs R : List Int} {S m row : Nat} : ∀ n c k, c ≤ k → k < c + n → bpGo cs R S m row k = true → ∃ k', bpF cs R S m row n c = some k' ∧ bpGo cs R S m row k' = true ∧ k' < c + n
  | 0, c, k, h1, h2, _ => by omega
  | n + 1, c, k, h1, h2, h3 => by
    unfold bpF
    by_cases h : bpGo cs R S m row c = true
    · rw [if_pos h]; exact ⟨c, rfl, h, by omega⟩
    · rw [if_neg h]
      have hck : c ≠ k := fun e => h (e ▸ h3)
      obtain ⟨k', g1, g2, g3⟩ := bpF_some n (c + 1) k (by omega) (by omega) h3
      exact ⟨k', g1, g2, by omega⟩
/-- the pairs of the first r rows -/
structure PairsR (cs : List Int) (S r : Nat) (st : List Int × Nat) : Prop where
  len : st.1.length = r
  lt : st.2 < 2 ^ S
  cnt : bcnt st.2 S = r
  at_ : ∀ i, i < r → ∃ c : Nat, st.1.getD i 0 = c ∧ c < S ∧ st.2.testBit c = true
  new : ∀ i j, i < j → j < r → st.1.getD i 0 ≠ st.1.getD j 0
  cost : sumI (fun i => cs.getD (i * S + (st.1.getD i 0).toNat) 0) r + (bpRest cs S).getD st.2 0 = (bpRest cs S).getD 0 0
theorem pairs_r {cs : List Int} {S : Nat} : ∀ r, r ≤ S → PairsR cs S r (bpP cs (bpRest cs S) S r)
  | 0, _ => ⟨rfl, Nat.two_pow_pos S, bcnt_zero S, fun i hi => by omega, fun i j h1 h2 => by omega, by show (0 : Int) + _ = _; rw [Int.zero_add]; rfl⟩
  | r + 1, hr => by
    have ih := pairs_r (cs := cs) (S := S) r (by omega)
    rw [bpP]
    generalize bpP cs (bpRest cs S) S r = st at *
    obtain ⟨ps, m⟩ := st
    obtain ⟨h1, h2, h3, h4, h5, h6⟩ := ih
    have h1 : ps.length = r := h1
    have h2 : m < 2 ^ S := h2
    have h3 : bcnt m S = r := h3
    have h4 : ∀ i, i < r → ∃ c : Nat, ps.getD i 0 = c ∧ c < S ∧ m.testBit c = true := h4
    have h5 : ∀ i j, i < j → j < r → ps.getD i 0 ≠ ps.getD j 0 := h5
    have h6 : sumI (fun i => cs.getD (i * S + (ps.getD i 0).toNat) 0) r + (bpRest cs S).getD m 0 = (bpRest cs S).getD 0 0 := h6
    have hlt : m + 1 < 2 ^ S := by
      rcases Nat.lt_or_ge (m + 1) (2 ^ S) with h | h
      · exact h
      · exfalso
        have e : m = 2 ^ S - 1 := by omega
        have : bcnt m S = S := by
          rw [e]
          have key : ∀ k, k ≤ S → bcnt (2 ^ S - 1) k = k := by
            intro k
            induction k with
            | zero => intro _; rfl
            | succ k ihk =>
              intro hk
              show (if (2 ^ S - 1).testBit k = true then bcnt (2 ^ S - 1) k + 1 else bcnt (2 ^ S - 1) k) = k + 1
              rw [Nat.testBit_two_pow_sub_one, if_pos (decide_eq_true (by omega)), ihk (by omega)]
          exact key S (Nat.le_refl _)
        omega
    have hz : ∃ c, c < S ∧ m.testBit c = false := by
      refine Classical.byContradiction fun hno => ?_
      have : m = 2 ^ S - 1 := by
        apply Nat.eq_of_testBit_eq
        intro i
        rw [Nat.testBit_two_pow_sub_one]
        by_cases hi : i < S
        · rw [decide_eq_true hi]
          cases hb : m.testBit i
          · exact absurd ⟨i, hi, hb⟩ hno
          · rfl
        · rw [decide_eq_false hi]
          exact Nat.testBit_lt_two_pow (Nat.lt_of_lt_of_le h2 (Nat.pow_le_pow_right (by omega) (by omega)))
      omega
    obtain ⟨c0, z1, z2⟩ := hz
    obtain ⟨g1, _⟩ := bpB_least (cs := cs) (R := bpRest cs S) (S := S) (m := m) (row := r) S c0 z1 z2
    obtain ⟨c, c1, c2, c3⟩ := bpB_some S g1
    have hst := rest_step (cs := cs) hlt
    rw [h3, c3] at hst
    obtain ⟨k, k1, k2, k3⟩ := bpF_some S 0 c (Nat.zero_le _) (by omega) (show bpGo cs (bpRest cs S) S m r c = true by unfold bpGo; rw [c2, hst, decide_eq_true rfl]; rfl)
    unfold bpGo at k2
    rw [Bool.and_eq_true, Bool.not_eq_true', decide_eq_true_iff] at k2
    obtain ⟨k4, k5⟩ := k2
    have hk : k < S := by omega
    have e : bpA (ps, m) (bpF cs (bpRest cs S) S m r S 0) = (ps ++ [(k : Int)], m ||| 2 ^ k) := by rw [k1]; rfl
    show PairsR cs S (r + 1) (bpA (ps, m) (bpF cs (bpRest cs S) S m r S 0))
    rw [e]
    have hget : ∀ i, i < r → (ps ++ [(k : Int)]).getD i 0 = ps.getD i 0 := fun i hi => by simp [List.getD, List.getElem?_append_left (show i < ps.length by omega)]
    have hlast : (ps ++ [(k : Int)]).getD r 0 = (k : Int) := by rw [← h1]; simp [List.getD]
    refine ⟨by show (ps ++ [(k : Int)]).length = r + 1; rw [List.length_append, h1]; rfl, or_lt h2 hk, by show bcnt (m ||| 2 ^ k) S = r + 1; rw [bcnt_or k4, if_pos hk, h3], fun i hi => ?_, fun i j hij hj => ?_, ?_⟩
    · show ∃ c : Nat, (ps ++ [(k : Int)]).getD i 0 = c ∧ c < S ∧ (m ||| 2 ^ k).testBit c = true
      by_cases ei : i = r
      · subst ei
        exact ⟨k, hlast, hk, by rw [Nat.testBit_or, Nat.testBit_two_pow_self]; simp⟩
      · obtain ⟨c', d1, d2, d3⟩ := h4 i (by omega)
        exact ⟨c', by rw [hget i (by omega)]; exact d1, d2, by rw [Nat.testBit_or, d3]; rfl⟩
    · show (ps ++ [(k : Int)]).getD i 0 ≠ (ps ++ [(k : Int)]).getD j 0
      rw [hget i (by omega)]
      by_cases ej : j = r
      · subst ej
        rw [hlast]
        obtain ⟨c', d1, d2, d3⟩ := h4 i hij
        intro e2
        have : c' = k := by omega
        subst this
        rw [k4] at d3; cases d3
      · rw [hget j (by omega)]
        exact h5 i j hij (by omega)
    · show sumI (fun i => cs.getD (i * S + ((ps ++ [(k : Int)]).getD i 0).toNat) 0) (r + 1) + (bpRest cs S).getD (m ||| 2 ^ k) 0 = _
      rw [sumI, sumI_congr r (g := fun i => cs.getD (i * S + (ps.getD i 0).toNat) 0) (fun i hi => by show cs.getD (i * S + ((ps ++ [(k : Int)]).getD i 0).toNat) 0 = _; rw [hget i hi]), hlast, Int.toNat_natCast]
      omega
end Go.Proofs.Ytfoelpmglmaamaa
