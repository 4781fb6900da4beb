/- The way back from the last changed node ends in a round. -/
import Derived.Test.YtnljfhmdjhppmaaRoundPlain
namespace Go.Proofs.Ytnljfhmdjhppmaa
open Go.RowKit

theorem nodup_le : ∀ (N : Nat) (l : List Nat), l.Nodup → (∀ x ∈ l, x < N) → l.length ≤ N
  | 0, l, _, h => by
    cases l with
    | nil => exact Nat.le_refl _
    | cons x l => exact absurd (h x (by simp)) (by omega)
  | N + 1, l, hd, h => by
    by_cases hm : N ∈ l
    · have h1 := nodup_le N (l.erase N) (hd.erase N) (fun x hx => by
        have h2 := (hd.mem_erase_iff).1 hx
        have := h x h2.2
        have := h2.1
        omega)
      rw [List.length_erase_of_mem hm] at h1
      omega
    · have := nodup_le N l hd (fun x hx => by
        have h1 := h x hx
        have : x ≠ N := fun e => hm (e ▸ hx)
        omega)
      omega
theorem pigeon {f : Nat → Nat} {N : Nat} (h : ∀ i, i ≤ N → f i < N) : ∃ i j, i < j ∧ j ≤ N ∧ f i = f j := by
  by_cases hex : ∃ i j, i < j ∧ j ≤ N ∧ f i = f j
  · exact hex
  · exfalso
    have hnd : ((List.range (N + 1)).map f).Nodup := by
      rw [List.Nodup, List.pairwise_map]
      refine List.Pairwise.imp_of_mem ?_ List.pairwise_lt_range
      intro a b _ hb hab e
      exact hex ⟨a, b, hab, by have := List.mem_range.1 hb; omega, e⟩
    have := nodup_le N _ hnd (fun x hx => by
      obtain ⟨i, hi, rfl⟩ := List.mem_map.1 hx
      exact h i (by have := List.mem_range.1 hi; omega))
    simp at this
    omega
/-- the node ahead on the way back -/
def preT (ls : List LinkR) (s : LossS) (v : Nat) : Nat := (ls.getD ((s.t.getD v 0 - 1) % ls.length) default).fr.toNat
def preN (ls : List LinkR) (s : LossS) (e : Nat) : Nat → Nat
  | 0 => e
  | i + 1 => preT ls s (preN ls s e i)
theorem preN_add (ls : List LinkR) (s : LossS) (e i : Nat) : ∀ j, preN ls s e (i + j) = preN ls s (preN ls s e i) j
  | 0 => rfl
  | j + 1 => by rw [← Nat.add_assoc, preN, preN, preN_add ls s e i j]
theorem preT_lt {ls : List LinkR} {N : Nat} {s : LossS} {r : Nat} (hls : LinksOk ls N) (h : LossOk ls N s r 0) {v : Nat} (hv : v < N) (h0 : 0 < s.t.getD v 0) : preT ls s v < N := by
  obtain ⟨p1, _, _⟩ := h.P v hv h0
  have := (hls _ p1).1
  unfold preT
  omega
theorem chain_ok {ls : List LinkR} {N : Nat} {s : LossS} {r e : Nat} (hls : LinksOk ls N) (h : LossOk ls N s r 0) (he : e < N) (hlast : (N - 1) * ls.length < s.t.getD e 0) : ∀ i, i ≤ N - 1 → preN ls s e i < N ∧ (N - 1 - i) * ls.length < s.t.getD (preN ls s e i) 0
  | 0, _ => ⟨he, hlast⟩
  | i + 1, hi => by
    obtain ⟨h1, h2⟩ := chain_ok hls h he hlast i (by omega)
    have h0 : 0 < s.t.getD (preN ls s e i) 0 := by omega
    obtain ⟨p1, _, p3⟩ := h.P _ h1 h0
    have hfr := (hls _ p1).1
    refine ⟨preT_lt hls h h1 h0, ?_⟩
    have e1 : N - 1 - i = (N - 1 - (i + 1)) + 1 := by omega
    rw [e1, Nat.succ_mul] at h2
    have hM : 0 < ls.length := by omega
    have := p3 (by omega)
    show (N - 1 - (i + 1)) * ls.length < s.t.getD (preT ls s (preN ls s e i)) 0
    unfold preT
    omega
/-- all nodes on the way back were changed, and behind N steps one stands on a round -/
theorem back_ok {ls : List LinkR} {N : Nat} {s : LossS} {r e : Nat} (hls : LinksOk ls N) (h : LossOk ls N s r 0) (hN : 1 ≤ N) (he : e < N) (hlast : (N - 1) * ls.length < s.t.getD e 0) :
    (∀ m, preN ls s e m < N ∧ 0 < s.t.getD (preN ls s e m) 0) ∧ ∃ p, 1 ≤ p ∧ p ≤ N ∧ preN ls s e (N + p) = preN ls s e N := by
  have hc := chain_ok hls h he hlast
  have hlt : ∀ i, i ≤ N → preN ls s e i < N := by
    intro i hi
    by_cases e1 : i ≤ N - 1
    · exact (hc i e1).1
    · obtain ⟨h1, h2⟩ := hc (N - 1) (Nat.le_refl _)
      have e2 : i = N - 1 + 1 := by omega
      rw [e2, preN]
      exact preT_lt hls h h1 (by omega)
  obtain ⟨i, j, hij, hjN, hf⟩ := pigeon hlt
  have hper : ∀ m, i ≤ m → preN ls s e (m + (j - i)) = preN ls s e m := by
    intro m hm
    obtain ⟨d, rfl⟩ : ∃ d, m = i + d := ⟨m - i, by omega⟩
    rw [show i + d + (j - i) = j + d by omega, preN_add, preN_add, ← hf]
  refine ⟨?_, j - i, by omega, by omega, hper N (by omega)⟩
  intro m
  induction m using Nat.strongRecOn with
  | ind m ih =>
    by_cases e1 : m ≤ N - 1
    · obtain ⟨h1, h2⟩ := hc m e1
      exact ⟨h1, by omega⟩
    · have e2 := hper (m - (j - i)) (by omega)
      rw [show m - (j - i) + (j - i) = m by omega] at e2
      rw [e2]
      exact ih (m - (j - i)) (by omega)
theorem least_p {P : Nat → Prop} : ∀ (b p : Nat), p ≤ b → 1 ≤ p → P p → ∃ q, 1 ≤ q ∧ q ≤ p ∧ P q ∧ ∀ m, 1 ≤ m → m < q → ¬ P m
  | 0, p, h1, h2, _ => by omega
  | b + 1, p, h1, h2, h3 => by
    by_cases hex : ∃ m, 1 ≤ m ∧ m < p ∧ P m
    · obtain ⟨m, a, c, d⟩ := hex
      obtain ⟨q, q1, q2, q3, q4⟩ := least_p b m (by omega) a d
      exact ⟨q, q1, by omega, q3, q4⟩
    · exact ⟨p, h2, Nat.le_refl _, h3, fun m a c d => hex ⟨m, a, c, d⟩⟩
/-- the nodes of the round behind its first one, backwards: the first k -/
def backTo (ls : List LinkR) (s : LossS) (x : Nat) (k : Nat) : List Int := (List.range k).map fun (i : Nat) => ((preN ls s x (i + 1) : Nat) : Int)
theorem backTo_succ (ls : List LinkR) (s : LossS) (x k : Nat) : backTo ls s x (k + 1) = backTo ls s x k ++ [((preN ls s x (k + 1) : Nat) : Int)] := by
  unfold backTo
  rw [List.range_succ, List.map_append]; rfl
theorem backTo_len (ls : List LinkR) (s : LossS) (x k : Nat) : (backTo ls s x k).length = k := by simp [backTo]
end Go.Proofs.Ytnljfhmdjhppmaa
