/- Sums, and what goes out of a set of nodes: in plain numbers. -/
import Derived.Test.YtnljfhmdjhppmaaPushPlain2
import Derived.Test.YtnljfhmdjhppmaaCutOf
import Derived.Test.YtnljfhmdjhppmaaSum
namespace Go.Proofs.Ytnljfhmdjhppmaa
open Go.RowKit

theorem sumI_ind (R : Nat → Bool) {N : Nat} {a : Int} (h0 : 0 ≤ a) (h1 : a < N) (y : Int) : sumI (fun v => if R v then (if a = (v : Int) then y else 0) else 0) N = if R a.toNat then y else 0 := by
  obtain ⟨a, rfl⟩ := Int.eq_ofNat_of_zero_le h0
  rw [Int.toNat_natCast]
  have e : ∀ v, v < N → (if R v then (if (a : Int) = (v : Int) then y else 0) else 0) = if a = v then (if R a then y else 0) else 0 := by
    intro v _
    by_cases h : a = v
    · subst h; rw [if_pos rfl, if_pos rfl]
    · rw [if_neg h, if_neg (show ¬ (a : Int) = v by omega)]; simp
  rw [sumI_congr N e, sumI_one, if_pos (by omega)]

/-- what crosses out of a set, less what crosses in -/
def crossI (xs : List ArcR) (fl : List Int) (R : Nat → Bool) (i : Nat) : Int :=
  (if R (xs.getD i default).fr.toNat && !R (xs.getD i default).to_.toNat then fl.getD i 0 else 0) - (if !R (xs.getD i default).fr.toNat && R (xs.getD i default).to_.toNat then fl.getD i 0 else 0)
def EndsOk (xs : List ArcR) (n N : Nat) : Prop := ∀ k, k < n → (0 ≤ (xs.getD k default).fr ∧ (xs.getD k default).fr < N) ∧ (0 ≤ (xs.getD k default).to_ ∧ (xs.getD k default).to_ < N)
theorem valid_ends {N : Nat} {xs : List ArcR} (h : validB N xs = true) : EndsOk xs xs.length N := by
  obtain ⟨_, _, _, hb⟩ := valid_bd h
  exact fun k hk => ⟨(hb k hk).1, (hb k hk).2.1⟩
theorem cross_eq {xs : List ArcR} {N : Nat} (fl : List Int) (R : Nat → Bool) : ∀ n, EndsOk xs n N → sumI (fun v => if R v then outTo xs fl (v : Int) n else 0) N = sumI (crossI xs fl R) n
  | 0, _ => by
    have e : ∀ v, v < N → (if R v then outTo xs fl (v : Int) 0 else 0) = 0 := fun v _ => by simp [outTo]
    rw [sumI_congr N e, sumI_zero]; rfl
  | n + 1, h => by
    obtain ⟨⟨a0, a1⟩, b0, b1⟩ := h n (by omega)
    have ih := cross_eq fl R n fun k hk => h k (by omega)
    have e : ∀ v, v < N → (if R v then outTo xs fl (v : Int) (n + 1) else 0) = ((if R v then outTo xs fl (v : Int) n else 0) + (if R v then (if (xs.getD n default).fr = (v : Int) then fl.getD n 0 else 0) else 0)) - (if R v then (if (xs.getD n default).to_ = (v : Int) then fl.getD n 0 else 0) else 0) := by
      intro v _
      cases R v
      · simp
      · rw [if_pos rfl, if_pos rfl, if_pos rfl, if_pos rfl, outTo_succ]
    rw [sumI_congr N e, sumI_sub, sumI_add, ih, sumI_ind R a0 a1, sumI_ind R b0 b1, sumI, crossI]
    cases R (xs.getD n default).fr.toNat <;> cases R (xs.getD n default).to_.toNat <;> simp <;> omega
/-- a sum with one or two nodes that are no zeros -/
theorem sum_bal {R : Nat → Bool} {g : Nat → Int} {F : Nat} : ∀ {N : Nat}, F < N → R F = true → (∀ v, v < N → v ≠ F → R v = true → g v = 0) → sumI (fun v => if R v then g v else 0) N = g F := by
  intro N hF hR h
  have e : ∀ v, v < N → (if R v then g v else 0) = if F = v then g F else 0 := by
    intro v hv
    by_cases hvF : F = v
    · subst hvF; rw [if_pos hR, if_pos rfl]
    · rw [if_neg hvF]
      cases hr : R v
      · rfl
      · rw [if_pos rfl]; exact h v hv (fun e => hvF e.symm) hr
  rw [sumI_congr N e, sumI_one, if_pos hF]

/-- no link leads out of what is reached -/
theorem bfs_closed {ls : List LinkR} {N f : Nat} (hls : LinksOk ls N) (hf : f < N) :
    (∀ i, ∀ p, p < i → p < (bfsTo ls N f i).2.length → ∀ k, k < ls.length → (ls.getD k default).fr = (bfsTo ls N f i).2.getD p 0 → (bfsTo ls N f i).1.getD (ls.getD k default).to_.toNat 0 ≠ -2) := by
  have mono : ∀ (u : Int) (st : List Int × List Int), st.1.length = N → ∀ k, k ≤ ls.length → (∀ v : Nat, st.1.getD v 0 ≠ -2 → (scanTo ls u st k).1.getD v 0 ≠ -2) ∧ (scanTo ls u st k).1.length = N ∧ (∃ ys, (scanTo ls u st k).2 = st.2 ++ ys) := by
    intro u st hst k
    induction k with
    | zero => intro _; exact ⟨fun v h => h, hst, [], by simp [scanTo]⟩
    | succ k ih =>
      intro hk
      obtain ⟨h1, h2, ys, h3⟩ := ih (by omega)
      rw [scanTo]
      split
      · refine ⟨fun v hv => ?_, by simp [h2], ys ++ [(ls.getD k default).to_], by simp [h3]⟩
        obtain ⟨_, b0, b1⟩ := hls k (by omega)
        show ((scanTo ls u st k).1.set (ls.getD k default).to_.toNat (k : Int)).getD v 0 ≠ -2
        rw [getD_set' _ _ v _ (by rw [h2]; omega)]
        split
        · omega
        · exact h1 v hv
      · exact ⟨h1, h2, ys, h3⟩
  have full : ∀ (u : Int) (st : List Int × List Int), st.1.length = N → ∀ k, k ≤ ls.length → ∀ j, j < k → (ls.getD j default).fr = u → (scanTo ls u st k).1.getD (ls.getD j default).to_.toNat 0 ≠ -2 := by
    intro u st hst k
    induction k with
    | zero => intro _ j hj; omega
    | succ k ih =>
      intro hk j hj hu
      obtain ⟨_, b0, b1⟩ := hls j (by omega)
      obtain ⟨m1, m2, _⟩ := mono u st hst k (by omega)
      rw [scanTo]
      by_cases e : j = k
      · subst e
        by_cases h2 : (scanTo ls u st j).1.getD (ls.getD j default).to_.toNat 0 = -2
        · rw [if_pos ⟨hu, h2⟩]
          show ((scanTo ls u st j).1.set (ls.getD j default).to_.toNat (j : Int)).getD (ls.getD j default).to_.toNat 0 ≠ -2
          rw [getD_set' _ _ _ _ (by rw [m2]; omega), if_pos rfl]; omega
        · rw [if_neg (fun h => h2 h.2)]; exact h2
      · have := ih (by omega) j (by omega) hu
        split
        · obtain ⟨_, c0, c1⟩ := hls k (by omega)
          show ((scanTo ls u st k).1.set (ls.getD k default).to_.toNat (k : Int)).getD (ls.getD j default).to_.toNat 0 ≠ -2
          rw [getD_set' _ _ _ _ (by rw [m2]; omega)]
          split
          · omega
          · exact this
        · exact this
  intro i
  induction i with
  | zero => intro p hp; omega
  | succ i ih =>
    intro p hp hlen k hk hfr
    have hok := bfs_ok hls hf i
    by_cases hi : i < (bfsTo ls N f i).2.length
    · rw [bfs_step hi] at hlen hfr ⊢
      obtain ⟨m1, m2, ys, m3⟩ := mono ((bfsTo ls N f i).2.getD i 0) (bfsTo ls N f i) hok.len ls.length (Nat.le_refl _)
      rw [m3] at hfr
      by_cases e : p = i
      · subst e
        refine full _ _ hok.len _ (Nat.le_refl _) k hk ?_
        rw [hfr]
        simp [List.getD, List.getElem?_append_left hi]
      · have hp2 : p < (bfsTo ls N f i).2.length := by omega
        refine m1 _ (ih p (by omega) hp2 k hk ?_)
        rw [hfr]
        simp [List.getD, List.getElem?_append_left hp2]
    · have e : bfsTo ls N f (i + 1) = bfsTo ls N f i := by rw [bfsTo, if_neg hi]
      rw [e] at hlen hfr ⊢
      exact ih p (by omega) hlen k hk hfr
theorem reach_closed {ls : List LinkR} {N f : Nat} (hls : LinksOk ls N) (hf : f < N) {l : LinkR} (hl : l ∈ ls) (h : (reachL ls N f).getD l.fr.toNat 0 ≠ -2) : (reachL ls N f).getD l.to_.toNat 0 ≠ -2 := by
  obtain ⟨k, hk, rfl⟩ := List.mem_iff_getElem.1 hl
  have e : ls[k] = ls.getD k default := by simp [List.getD, List.getElem?_eq_getElem hk]
  rw [e] at h ⊢
  have hok := bfs_ok hls hf N
  obtain ⟨⟨a0, a1⟩, _⟩ := hls k hk
  obtain ⟨p, hp, hpe⟩ := hok.inq _ (show (ls.getD k default).fr.toNat < N by omega) h
  have := bfs_len hls hf N
  exact bfs_closed hls hf N p (by omega) hp k hk (by rw [hpe]; omega)
theorem reach_from {ls : List LinkR} {N f : Nat} (hls : LinksOk ls N) (hf : f < N) : (reachL ls N f).getD f 0 ≠ -2 := by
  have := (bfs_ok hls hf N).fby
  rw [reachL, this]; decide
end Go.Proofs.Ytnljfhmdjhppmaa
