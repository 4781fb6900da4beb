/- What FnBestPairs asks of best pairs: in plain lists. -/
import Derived.Test.YtfoelpmglmaamaaAssign2
namespace Go.Proofs.Ytfoelpmglmaamaa
open Go.RowKit

theorem roT_at {ps : List Int} {S : Nat} {σ : Nat → Nat} (h : ∀ i, i < S → ps.getD i 0 = (σ i : Int) ∧ σ i < S) (hn : ∀ i j, i < j → j < S → σ i ≠ σ j) : ∀ k, k ≤ S → ∀ i, i < k → (roT ps S k).getD (σ i) 0 = (i : Int)
  | k + 1, hk, i, hi => by
    have h1 := h k (by omega)
    have hl := roT_len ps S k
    rw [roT, h1.1, Int.toNat_natCast]
    by_cases e : i = k
    · subst e
      rw [getD_set (by omega), if_pos rfl]
    · rw [getD_far _ _ _ _ (fun e2 => hn i k (by omega) (by omega) e2.symm)]
      exact roT_at h hn k (by omega) i (by omega)
theorem sur_of {S : Nat} {σ : Nat → Nat} (h : ∀ i, i < S → σ i < S) (hn : ∀ i j, i < j → j < S → σ i ≠ σ j) {k : Nat} (hk : k < S) : ∃ i, i < S ∧ σ i = k := by
  refine Classical.byContradiction fun hno => ?_
  have hnd : (k :: (List.range S).map σ).Nodup := by
    rw [List.nodup_cons]
    constructor
    · intro hm
      obtain ⟨i, hi, e⟩ := List.mem_map.1 hm
      exact hno ⟨i, List.mem_range.1 hi, e⟩
    · rw [List.Nodup, List.pairwise_map]
      refine List.Pairwise.imp_of_mem ?_ (List.pairwise_lt_range (n := S))
      intro a b _ hb hab
      exact hn a b hab (List.mem_range.1 hb)
  have := nodup_le S _ hnd (fun x hx => by
    rcases List.mem_cons.1 hx with rfl | hx
    · exact hk
    · obtain ⟨i, hi, rfl⟩ := List.mem_map.1 hx
      exact h i (List.mem_range.1 hi))
  simp at this
  omega
theorem uT_at {cs ps v : List Int} {S : Nat} : ∀ r i, i < r → (uT cs ps v S r).getD i 0 = cs.getD (i * S + (ps.getD i 0).toNat) 0 - v.getD (ps.getD i 0).toNat 0
  | r + 1, i, hi => by
    have hl := uT_len cs ps v S r
    rw [uT]
    by_cases e : i = r
    · subst e
      simp only [List.getD]
      rw [List.getElem?_append_right (by omega)]
      simp [hl]
    · have := uT_at (cs := cs) (ps := ps) (v := v) (S := S) r i (by omega)
      simp only [List.getD] at this ⊢
      rw [List.getElem?_append_left (by omega)]
      exact this
theorem cyc_sum (ls : List LinkR) (s : LossS) (x : Nat) : ∀ p, cycC ls s x p = sumI (fun t => (linkT ls s (preN ls s x t)).cost) p
  | 0 => rfl
  | p + 1 => by rw [cycC, sumI, cyc_sum ls s x p]
/-- what the law asks -/
structure BestFacts (cs : List Int) (S : Nat) (ps us vs : List Int) (cost : Int) (σ : Nat → Nat) : Prop where
  pl : ps.length = S
  ul : us.length = S
  vl : vs.length = S
  at_ : ∀ i, i < S → ps.getD i 0 = (σ i : Int) ∧ σ i < S
  new : ∀ i j, i < j → j < S → σ i ≠ σ j
  sum : sumI (fun i => cs.getD (i * S + σ i) 0) S = cost
  price : sumI (fun i => us.getD i 0 + vs.getD i 0) S = cost
  le : ∀ i k, i < S → k < S → us.getD i 0 + vs.getD k 0 ≤ cs.getD (i * S + k) 0
  u : ∀ i, i < S → us.getD i 0 = cs.getD (i * S + σ i) 0 - vs.getD (σ i) 0
theorem best_facts {cs : List Int} {S : Nat} (hS1 : 1 ≤ S) : ∃ σ, BestFacts cs S (bpPs cs S) (bpUs cs S) (bpVs cs S) ((bpRest cs S).getD 0 0) σ := by
  have hP := pairs_r (cs := cs) (S := S) S (Nat.le_refl _)
  have hps : bpPs cs S = (bpP cs (bpRest cs S) S S).1 := rfl
  obtain ⟨p1, p2, p3, p4, p5, p6⟩ := hP
  rw [← hps] at p1 p4 p5 p6
  rw [rest_full (by
    rcases Nat.lt_or_ge ((bpP cs (bpRest cs S) S S).2 + 1) (2 ^ S) with h | h
    · have := bcnt_full S _ h; omega
    · exact h), Int.add_zero] at p6
  have hat : ∀ i, i < S → (bpPs cs S).getD i 0 = (((bpPs cs S).getD i 0).toNat : Int) ∧ ((bpPs cs S).getD i 0).toNat < S := fun i hi => by
    obtain ⟨c, h1, h2, _⟩ := p4 i hi
    rw [h1, Int.toNat_natCast]; exact ⟨rfl, h2⟩
  obtain ⟨σ, hσd⟩ : ∃ σ : Nat → Nat, ∀ i, ((bpPs cs S).getD i 0).toNat = σ i := ⟨_, fun _ => rfl⟩
  have hat : ∀ i, i < S → (bpPs cs S).getD i 0 = (σ i : Int) ∧ σ i < S := fun i hi => by have := hat i hi; rw [hσd] at this; exact this
  have hnew : ∀ i j, i < j → j < S → σ i ≠ σ j := fun i j hij hj e => p5 i j hij hj (by rw [(hat i (by omega)).1, (hat j hj).1, e])
  have hsum : sumI (fun i => cs.getD (i * S + σ i) 0) S = (bpRest cs S).getD 0 0 := by
    rw [← p6]; exact sumI_congr S fun i _ => by rw [hσd]
  have hro0 := roT_at hat hnew S (Nat.le_refl _)
  obtain ⟨ro, hrod⟩ : ∃ ro : Nat → Nat, ∀ k, ((roT (bpPs cs S) S S).getD k 0).toNat = ro k := ⟨_, fun _ => rfl⟩
  have hσ : ∀ i, i < S → σ i < S ∧ ro (σ i) = i := fun i hi => ⟨(hat i hi).2, by rw [← hrod, hro0 i hi, Int.toNat_natCast]⟩
  have hro : ∀ k, k < S → ro k < S ∧ σ (ro k) = k := fun k hk => by
    obtain ⟨i, hi, rfl⟩ := sur_of (fun i hi => (hat i hi).2) hnew hk
    rw [(hσ i hi).2]; exact ⟨hi, rfl⟩
  have hopt : ∀ q : List Nat, q.length = S → q.Nodup → (∀ c ∈ q, c < S) → sumI (fun i => cs.getD (i * S + σ i) 0) S ≤ asg cs S 0 q := fun q h1 h2 h3 => by
    rw [hsum]
    exact rest_le q 0 0 (Nat.two_pow_pos S) (bcnt_zero S) (by omega) h2 fun c hc => ⟨h3 c hc, Nat.zero_testBit c⟩
  have hvs : bpVs cs S = (lossR (bpLinks cs (roT (bpPs cs S) S S) S S) S S).d := by
    unfold bpVs
    rw [p1, lg_loss]
  generalize hls : bpLinks cs (roT (bpPs cs S) S S) S S = ls at *
  have hlk : ∀ i, i < ls.length → ∃ j k : Nat, j < S ∧ k < S ∧ j ≠ k ∧ ls.getD i default = ⟨0, false, j, k, 0, cs.getD (ro j * S + k) 0 - cs.getD (ro j * S + j) 0⟩ := fun i hi => by
    subst hls
    obtain ⟨j, k, h1, h2, h3, h4⟩ := bp_at hi
    refine ⟨j, k, h1, h2, h3, ?_⟩
    rw [h4]; unfold wX; rw [hrod]
  have hOk : LinksOk ls S := fun i hi => by
    obtain ⟨j, k, h1, h2, _, h4⟩ := hlk i hi
    rw [h4]
    exact ⟨⟨by show (0 : Int) ≤ j; omega, by show (j : Int) < S; omega⟩, by show (0 : Int) ≤ k; omega, by show (k : Int) < S; omega⟩
  have hne : ∀ i, i < ls.length → (ls.getD i default).fr ≠ (ls.getD i default).to_ := fun i hi => by
    obtain ⟨j, k, _, _, h3, h4⟩ := hlk i hi
    rw [h4]
    show (j : Int) ≠ k
    omega
  have hno : ∀ v, v < S → (lossR ls S S).t.getD v 0 ≤ (S - 1) * ls.length := by
    intro v hv
    rcases Nat.lt_or_ge ((S - 1) * ls.length) ((lossR ls S S).t.getD v 0) with hlt | hge
    · exfalso
      obtain ⟨x, p, hp, hc, hx, hneg, hd⟩ := neg_cycle hOk hne hS1 hv hlt
      have hw := lossW_r hOk hne S
      have hr := round_ge (cs := cs) hσ hro hopt (y := fun t => preN ls (lossR ls S S) x t) hp (fun t => (hx t).1) hc hd
      have e : cycC ls (lossR ls S S) x p = sumI (fun t => cs.getD (ro (preN ls (lossR ls S S) x (t + 1)) * S + preN ls (lossR ls S S) x t) 0 - cs.getD (ro (preN ls (lossR ls S S) x (t + 1)) * S + preN ls (lossR ls S S) x (t + 1)) 0) p := by
        rw [cyc_sum]
        refine sumI_congr p fun t _ => ?_
        obtain ⟨w1, w2, _⟩ := hw.W _ (hx t).1 (hx t).2
        have w3 := pre_step ls (lossR ls S S) x t
        obtain ⟨j, k, h1, h2, _, h4⟩ := hlk _ w1
        unfold linkT at w2 w3 ⊢
        rw [h4] at w2 w3 ⊢
        have w2 : (k : Int) = ((preN ls (lossR ls S S) x t : Nat) : Int) := w2
        have w3 : preN ls (lossR ls S S) x (t + 1) = j := by rw [w3]; exact Int.toNat_natCast j
        have w4 : k = preN ls (lossR ls S S) x t := by omega
        show cs.getD (ro j * S + k) 0 - cs.getD (ro j * S + j) 0 = _
        rw [w3, w4]
      rw [e] at hneg
      omega
    · exact hge
  have hst := loss_stable hOk hne hS1 hno
  rw [← hvs] at hst
  have hvl : (bpVs cs S).length = S := by rw [hvs]; exact (lossW_r hOk hne S).dl
  have hstab : ∀ j k, j < S → k < S → (bpVs cs S).getD k 0 ≤ (bpVs cs S).getD j 0 + (cs.getD (ro j * S + k) 0 - cs.getD (ro j * S + j) 0) := fun j k hj hk => by
    by_cases e : j = k
    · subst e; omega
    · have hm : (⟨0, false, j, k, 0, wX cs (roT (bpPs cs S) S S) S j k⟩ : LinkR) ∈ ls := by rw [← hls]; exact bp_mem.2 ⟨j, k, hj, hk, e, rfl⟩
      obtain ⟨i, hi, he⟩ := List.mem_iff_getElem.1 hm
      have := hst i hi
      have e2 : ls.getD i default = ⟨0, false, j, k, 0, wX cs (roT (bpPs cs S) S S) S j k⟩ := by simp [List.getD, List.getElem?_eq_getElem hi, he]
      rw [e2] at this
      have this : (bpVs cs S).getD ((k : Int)).toNat 0 ≤ (bpVs cs S).getD ((j : Int)).toNat 0 + wX cs (roT (bpPs cs S) S S) S j k := this
      unfold wX at this
      rw [Int.toNat_natCast, Int.toNat_natCast, hrod] at this
      exact this
  have hu : ∀ i, i < S → (bpUs cs S).getD i 0 = cs.getD (i * S + σ i) 0 - (bpVs cs S).getD (σ i) 0 := fun i hi => by
    unfold bpUs
    rw [p1, uT_at S i hi, hσd]
  refine ⟨σ, p1, by unfold bpUs; rw [p1, uT_len], hvl, hat, hnew, hsum, ?_, fun i k hi hk => ?_, hu⟩
  · rw [sumI_add, sumI_congr S hu, sumI_sub, hsum, sumI_perm (fun k => (bpVs cs S).getD k 0) σ ro hσ hro]
    omega
  · rw [hu i hi]
    have := hstab (σ i) k (hσ i hi).1 hk
    rw [(hσ i hi).2] at this
    omega
end Go.Proofs.Ytfoelpmglmaamaa
