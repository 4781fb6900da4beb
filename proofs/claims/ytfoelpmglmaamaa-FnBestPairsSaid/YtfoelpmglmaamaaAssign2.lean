/- Best pairs are proved by their prices: in plain lists. -/
import Derived.Test.YtfoelpmglmaamaaAssign
import Derived.Test.YtfoelpmglmaamaaNegCyc
namespace Go.Proofs.Ytfoelpmglmaamaa
open Go.RowKit

/-- one link makes a number less -/
def relaxD (d : List Int) (l : LinkR) : List Int := if d.getD l.fr.toNat 0 + l.cost < d.getD l.to_.toNat 0 then d.set l.to_.toNat (d.getD l.fr.toNat 0 + l.cost) else d
theorem loss_fold {ls : List LinkR} {s : LossS} {r : Nat} : ∀ j, j ≤ ls.length → (lossTo ls s r j).d = (ls.take j).foldl relaxD s.d
  | 0, _ => rfl
  | j + 1, hj => by
    have ih := loss_fold (ls := ls) (s := s) (r := r) j (by omega)
    have e : ls.take (j + 1) = ls.take j ++ [ls.getD j default] := by
      rw [List.take_succ_eq_append_getElem hj]; simp [List.getD, List.getElem?_eq_getElem hj]
    rw [lossTo, e, List.foldl_append, ← ih]
    show (lossStep _ _ _).d = relaxD _ _
    unfold lossStep relaxD lossGo
    by_cases h : (lossTo ls s r j).d.getD (ls.getD j default).fr.toNat 0 + (ls.getD j default).cost < (lossTo ls s r j).d.getD (ls.getD j default).to_.toNat 0
    · rw [if_pos (decide_eq_true h), if_pos h]
    · rw [if_neg (by rw [decide_eq_false h]; decide), if_neg h]
def wX (cs ro : List Int) (S j k : Nat) : Int := cs.getD ((ro.getD j 0).toNat * S + k) 0 - cs.getD ((ro.getD j 0).toNat * S + j) 0
def bpRow (cs ro : List Int) (S k J : Nat) : List LinkR := ((List.range J).filter fun j => j != k).map fun (j : Nat) => (⟨0, false, j, k, 0, wX cs ro S j k⟩ : LinkR)
def bpLinks (cs ro : List Int) (S K : Nat) : List LinkR := (List.range K).flatMap fun k => bpRow cs ro S k S
theorem row_fold (cs ro v : List Int) (S k : Nat) : ∀ J, lgJ cs ro v S k J = (bpRow cs ro S k J).foldl relaxD v
  | 0 => rfl
  | J + 1 => by
    have ih := row_fold cs ro v S k J
    unfold bpRow at ih ⊢
    rw [lgJ, List.range_succ, List.filter_append, List.map_append, List.foldl_append, ← ih]
    by_cases e : J = k
    · subst e
      have h0 : lgX cs ro (lgJ cs ro v S J J) S J J = (lgJ cs ro v S J J).getD J 0 := by unfold lgX; omega
      have h1 : (List.filter (fun j => j != J) [J]) = [] := by simp
      rw [h0, h1, Int.min_self, set_self]; rfl
    · have h1 : (List.filter (fun j => j != k) [J]) = [J] := by simp [e]
      rw [h1]
      show _ = relaxD _ _
      unfold relaxD lgX wX
      simp only [Int.toNat_natCast]
      generalize lgJ cs ro v S k J = d
      by_cases h : d.getD J 0 + (cs.getD ((ro.getD J 0).toNat * S + k) 0 - cs.getD ((ro.getD J 0).toNat * S + J) 0) < d.getD k 0
      · rw [if_pos h, Int.min_eq_right (by omega), Int.add_sub_assoc]
      · rw [if_neg h, Int.min_eq_left (by omega), set_self]
theorem all_fold (cs ro v : List Int) (S : Nat) : ∀ K, lgK cs ro v S K = (bpLinks cs ro S K).foldl relaxD v
  | 0 => rfl
  | K + 1 => by
    rw [lgK, all_fold cs ro v S K]
    unfold bpLinks
    rw [List.range_succ, List.flatMap_append, List.foldl_append, row_fold]
    simp
theorem lg_loss (cs ro : List Int) (S : Nat) : ∀ t, lgT cs ro S t = (lossR (bpLinks cs ro S S) S t).d
  | 0 => rfl
  | t + 1 => by
    rw [lgT, lg_loss cs ro S t, all_fold]
    show _ = (lossTo _ _ _ _).d
    rw [loss_fold _ (Nat.le_refl _), List.take_length]
theorem bp_mem {cs ro : List Int} {S : Nat} {l : LinkR} : l ∈ bpLinks cs ro S S ↔ ∃ j k : Nat, j < S ∧ k < S ∧ j ≠ k ∧ l = ⟨0, false, j, k, 0, wX cs ro S j k⟩ := by
  unfold bpLinks bpRow
  simp only [List.mem_flatMap, List.mem_map, List.mem_filter, List.mem_range, bne_iff_ne]
  constructor
  · rintro ⟨k, hk, j, ⟨hj, hne⟩, rfl⟩; exact ⟨j, k, hj, hk, hne, rfl⟩
  · rintro ⟨j, k, hj, hk, hne, rfl⟩; exact ⟨k, hk, j, ⟨hj, hne⟩, rfl⟩
theorem bp_at {cs ro : List Int} {S i : Nat} (hi : i < (bpLinks cs ro S S).length) : ∃ j k : Nat, j < S ∧ k < S ∧ j ≠ k ∧ (bpLinks cs ro S S).getD i default = ⟨0, false, j, k, 0, wX cs ro S j k⟩ :=
  bp_mem.1 (getDL_mem hi)

section
variable {cs : List Int} {S : Nat} {σ ro : Nat → Nat}
/-- the next column on a round: y(t+1) goes to y(t) -/
def nxF (y : Nat → Nat) : Nat → Nat → Nat
  | 0, z => z
  | t + 1, z => if z = y (t + 1) then y t else nxF y t z
theorem nxF_off {y : Nat → Nat} {z : Nat} : ∀ p, (∀ t, t < p → z ≠ y (t + 1)) → nxF y p z = z
  | 0, _ => rfl
  | p + 1, h => by rw [nxF, if_neg (h p (by omega))]; exact nxF_off p fun t ht => h t (by omega)
theorem nxF_on {y : Nat → Nat} : ∀ (p t : Nat), t < p → (∀ i j, i < j → j < p → y (i + 1) ≠ y (j + 1)) → nxF y p (y (t + 1)) = y t
  | p + 1, t, ht, hd => by
    rw [nxF]
    by_cases e : t = p
    · subst e; rw [if_pos rfl]
    · rw [if_neg (hd t p (by omega) (by omega))]
      exact nxF_on p t (by omega) fun i j hi hj => hd i j hi (by omega)
theorem nxF_cost {y : Nat → Nat} (c : Nat → Int) (z : Nat) : ∀ p, (∀ i j, i < j → j < p → y (i + 1) ≠ y (j + 1)) → c (nxF y p z) - c z = sumI (fun t => if z = y (t + 1) then c (y t) - c (y (t + 1)) else 0) p
  | 0, _ => by rw [nxF, sumI]; omega
  | p + 1, hd => by
    have ih := nxF_cost (y := y) c z p fun i j hi hj => hd i j hi (by omega)
    rw [nxF, sumI, ← ih]
    by_cases e : z = y (p + 1)
    · rw [if_pos e, if_pos e, nxF_off p (fun t ht => by rw [e]; exact (hd t p ht (by omega)).symm), e]; omega
    · rw [if_neg e, if_neg e]; omega
theorem asg_sum (cs : List Int) (S : Nat) (τ : Nat → Nat) : ∀ n r, asg cs S r ((List.range n).map fun i => τ (r + i)) = sumI (fun i => cs.getD ((r + i) * S + τ (r + i)) 0) n := by
  intro n
  have key : ∀ (q : List Nat) (r c : Nat), asg cs S r (q ++ [c]) = asg cs S r q + cs.getD ((r + q.length) * S + c) 0 := by
    intro q
    induction q with
    | nil => intro r c; simp [asg]
    | cons x q ih =>
      intro r c
      rw [List.cons_append, asg, asg, ih, List.length_cons, show r + 1 + q.length = r + (q.length + 1) by omega]; omega
  induction n with
  | zero => intro r; rfl
  | succ n ih =>
    intro r
    rw [List.range_succ, List.map_append, sumI, ← ih r]
    show asg cs S r (_ ++ [τ (r + n)]) = _
    rw [key, List.length_map, List.length_range]
/-- a round of columns makes nothing cheaper -/
theorem round_ge (hσ : ∀ i, i < S → σ i < S ∧ ro (σ i) = i) (hro : ∀ k, k < S → ro k < S ∧ σ (ro k) = k) (hopt : ∀ q : List Nat, q.length = S → q.Nodup → (∀ c ∈ q, c < S) → sumI (fun i => cs.getD (i * S + σ i) 0) S ≤ asg cs S 0 q)
    {y : Nat → Nat} {p : Nat} (hp : 1 ≤ p) (hy : ∀ t, y t < S) (hc : y p = y 0) (hd : ∀ i j, i < j → j < p → y i ≠ y j) :
    0 ≤ sumI (fun t => cs.getD (ro (y (t + 1)) * S + y t) 0 - cs.getD (ro (y (t + 1)) * S + y (t + 1)) 0) p := by
  have hd' : ∀ i j, i < j → j < p → y (i + 1) ≠ y (j + 1) := by
    intro i j hij hj
    by_cases e : j + 1 = p
    · rw [e, hc]
      intro e2
      exact hd 0 (i + 1) (by omega) (by omega) e2.symm
    · exact hd (i + 1) (j + 1) (by omega) (by omega)
  have hon : ∀ t, t < p → nxF y p (y (t + 1)) = y t := fun t ht => nxF_on p t ht hd'
  have hoff : ∀ z, (∀ t, t < p → z ≠ y (t + 1)) → nxF y p z = z := fun z hz => nxF_off p hz
  have hcase : ∀ z, (∃ t, t < p ∧ z = y (t + 1)) ∨ (∀ t, t < p → z ≠ y (t + 1)) := fun z => by
    by_cases h : ∃ t, t < p ∧ z = y (t + 1)
    · exact .inl h
    · exact .inr fun t ht e => h ⟨t, ht, e⟩
  have hback : ∀ t, t < p → ∃ u, u < p ∧ y t = y (u + 1) := fun t ht => by
    rcases Nat.eq_zero_or_pos t with e | e
    · exact ⟨p - 1, by omega, by rw [e, show p - 1 + 1 = p by omega, hc]⟩
    · exact ⟨t - 1, by omega, by rw [show t - 1 + 1 = t by omega]⟩
  have hlt : ∀ z, z < S → nxF y p z < S := fun z hz => by
    rcases hcase z with ⟨t, ht, rfl⟩ | h
    · rw [hon t ht]; exact hy t
    · rw [hoff z h]; exact hz
  have hinj : ∀ z z', nxF y p z = nxF y p z' → z = z' := by
    intro z z' e
    rcases hcase z with ⟨t, ht, rfl⟩ | h <;> rcases hcase z' with ⟨u, hu, rfl⟩ | h'
    · rw [hon t ht, hon u hu] at e
      have : t = u := by
        rcases Nat.lt_trichotomy t u with g | g | g
        · exact absurd e (hd t u g hu)
        · exact g
        · exact absurd e.symm (hd u t g ht)
      rw [this]
    · rw [hon t ht, hoff z' h'] at e
      obtain ⟨u, hu, hu2⟩ := hback t ht
      exact absurd (e.symm.trans hu2) (h' u hu)
    · rw [hoff z h, hon u hu] at e
      obtain ⟨v, hv, hv2⟩ := hback u hu
      exact absurd (e.trans hv2) (h v hv)
    · rw [hoff z h, hoff z' h'] at e; exact e
  have ho := hopt ((List.range S).map fun i => nxF y p (σ (0 + i))) (by simp) (by
    rw [List.Nodup, List.pairwise_map]
    refine List.Pairwise.imp_of_mem ?_ (List.nodup_range (n := S))
    intro a b ha hb hab e
    rw [List.mem_range] at ha hb
    have h1 := hinj _ _ e
    rw [Nat.zero_add, Nat.zero_add] at h1
    exact hab (by rw [← (hσ a ha).2, ← (hσ b hb).2, h1])) (by
    intro c hc
    obtain ⟨i, hi, rfl⟩ := List.mem_map.1 hc
    rw [List.mem_range] at hi
    rw [Nat.zero_add]
    exact hlt _ (hσ i hi).1)
  rw [asg_sum cs S (fun i => nxF y p (σ i)) S 0] at ho
  have e0 : ∀ i, i < S → cs.getD ((0 + i) * S + nxF y p (σ (0 + i))) 0 = cs.getD (i * S + σ i) 0 + sumI (fun t => if σ i = y (t + 1) then cs.getD (i * S + y t) 0 - cs.getD (i * S + y (t + 1)) 0 else 0) p := by
    intro i _
    rw [Nat.zero_add]
    have := nxF_cost (y := y) (fun k => cs.getD (i * S + k) 0) (σ i) p hd'
    omega
  rw [sumI_congr S e0, sumI_add, sumI_comm] at ho
  have e1 : ∀ t, t < p → sumI (fun i => if σ i = y (t + 1) then cs.getD (i * S + y t) 0 - cs.getD (i * S + y (t + 1)) 0 else 0) S = cs.getD (ro (y (t + 1)) * S + y t) 0 - cs.getD (ro (y (t + 1)) * S + y (t + 1)) 0 := by
    intro t _
    have e2 : ∀ i, i < S → (if σ i = y (t + 1) then cs.getD (i * S + y t) 0 - cs.getD (i * S + y (t + 1)) 0 else 0) = if ro (y (t + 1)) = i then cs.getD (ro (y (t + 1)) * S + y t) 0 - cs.getD (ro (y (t + 1)) * S + y (t + 1)) 0 else 0 := by
      intro i hi
      by_cases e : σ i = y (t + 1)
      · have : ro (y (t + 1)) = i := by rw [← e]; exact (hσ i hi).2
        rw [if_pos e, if_pos this, this]
      · rw [if_neg e, if_neg (fun e3 => e (by rw [← e3]; exact (hro _ (hy _)).2))]
    rw [sumI_congr S e2, sumI_one, if_pos (hro _ (hy _)).1]
  rw [sumI_congr p e1] at ho
  omega
end
end Go.Proofs.Ytfoelpmglmaamaa
