/- Cheapest trees: one scan in the order of the costs, and the cheapest arc that joins two groups again and again: in plain lists. -/
import Derived.Test.YtigaopfhjimpmaaStabT
import Derived.Test.YtigaopfhjimpmaaNetMem
import Derived.Test.YtigaopfhjimpmaaFlow
namespace Go.Proofs.Ytigaopfhjimpmaa
open Go.RowKit

theorem SortC.eq_of_perm {ct : Int → Int} : ∀ {A B : List Int}, SortC ct A → SortC ct B → A.Perm B → A = B
  | [], B, _, _, h => (List.Perm.nil_eq h)
  | a :: A, [], _, _, h => absurd h.length_eq (by simp)
  | a :: A, b :: B, ha, hb, h => by
    rw [SortC, List.pairwise_cons] at ha hb
    have e : a = b := by
      by_cases e : a = b
      · exact e
      · exfalso
        have h1 : a ∈ b :: B := h.mem_iff.1 (by simp)
        have h2 : b ∈ a :: A := h.mem_iff.2 (by simp)
        have h1 : a ∈ B := by rcases List.mem_cons.1 h1 with e2 | e2; exact absurd e2 e; exact e2
        have h2 : b ∈ A := by rcases List.mem_cons.1 h2 with e2 | e2; exact absurd e2.symm e; exact e2
        have h3 := ha.1 b h2
        have h4 := hb.1 a h1
        unfold LtC at h3 h4; omega
    subst e
    rw [SortC.eq_of_perm ha.2 hb.2 (List.Perm.cons_inv h)]
def leC (ct : Int → Int) (x y : Int) : Bool := decide (ct x < ct y) || (decide (ct x = ct y) && decide (x ≤ y))
theorem leC_iff {ct : Int → Int} {x y : Int} : leC ct x y = true ↔ ct x < ct y ∨ (ct x = ct y ∧ x ≤ y) := by
  unfold leC; simp
theorem sorted_ms (ct : Int → Int) (Z : List Int) (hZ : Z.Pairwise (· < ·)) : SortC ct (Z.mergeSort (leC ct)) := by
  have h1 : (Z.mergeSort (leC ct)).Pairwise fun a b => leC ct a b = true := List.pairwise_mergeSort (fun a b c h1 h2 => by rw [leC_iff] at *; omega) (fun a b => by
    rw [Bool.or_eq_true, leC_iff, leC_iff]; omega) Z
  have h2 : (Z.mergeSort (leC ct)).Nodup := (List.mergeSort_perm Z (leC ct)).nodup_iff.2 (hZ.imp fun h => by omega)
  have h3 := h1.and h2
  exact h3.imp fun ⟨a, b⟩ => by
    rw [leC_iff] at a
    unfold LtC; omega
def frA (xs : List ArcR) (i : Int) : Nat := (xs.getD i.toNat default).fr.toNat
def toA (xs : List ArcR) (i : Int) : Nat := (xs.getD i.toNat default).to_.toNat
def coA (xs : List ArcR) (i : Int) : Int := (xs.getD i.toNat default).cost
/-- one number for another -/
def repl (a b : Int) (z : Int) : Int := if z = a then b else z
theorem repl_same (a : Int) (G : List Int) : G.map (repl a a) = G := by
  conv => rhs; rw [← List.map_id G]
  exact List.map_congr_left fun z _ => by unfold repl; split <;> simp [*]
/-- a scan: groups, arcs taken, cost -/
structure KruS where
  G : List Int
  out : List Int
  c : Int
def kru (xs : List ArcR) : List Int → KruS → KruS
  | [], s => s
  | i :: B, s => if s.G.getD (frA xs i) 0 = s.G.getD (toA xs i) 0 then kru xs B s else kru xs B ⟨s.G.map (repl (s.G.getD (frA xs i) 0) (s.G.getD (toA xs i) 0)), s.out ++ [i], s.c + coA xs i⟩
/-- two lists of groups that part the nodes alike -/
def SameP (N : Nat) (G H : List Int) : Prop := G.length = N ∧ H.length = N ∧ ∀ u v, u < N → v < N → (G.getD u 0 = G.getD v 0 ↔ H.getD u 0 = H.getD v 0)
theorem getD_map_repl {a b : Int} {G : List Int} {u : Nat} (h : u < G.length) : (G.map (repl a b)).getD u 0 = repl a b (G.getD u 0) := by
  simp [List.getD, h]
theorem SameP.join {N f t : Nat} {G H : List Int} (h : SameP N G H) (hf : f < N) (ht : t < N) : SameP N (G.map (repl (G.getD f 0) (G.getD t 0))) (H.map (repl (H.getD t 0) (H.getD f 0))) := by
  obtain ⟨h1, h2, h3⟩ := h
  refine ⟨by rw [List.length_map]; exact h1, by rw [List.length_map]; exact h2, fun u v hu hv => ?_⟩
  rw [getD_map_repl (by omega), getD_map_repl (by omega), getD_map_repl (by omega), getD_map_repl (by omega)]
  have a1 := h3 u f hu hf
  have a2 := h3 v f hv hf
  have a3 := h3 u t hu ht
  have a4 := h3 v t hv ht
  have a5 := h3 u v hu hv
  have a6 := h3 f t hf ht
  have a7 := h3 t f ht hf
  unfold repl
  generalize G.getD u 0 = gu at *
  generalize G.getD v 0 = gv at *
  generalize G.getD f 0 = gf at *
  generalize G.getD t 0 = gt at *
  generalize H.getD u 0 = hu' at *
  generalize H.getD v 0 = hv' at *
  generalize H.getD f 0 = hf' at *
  generalize H.getD t 0 = ht' at *
  split <;> split <;> split <;> split <;> omega
/-- what is not yet scanned holds all that can still join -/
structure KruI (xs : List ArcR) (N : Nat) (B : List Int) (G H : List Int) : Prop where
  same : SameP N G H
  srt : SortC (coA xs) B
  rng : ∀ i ∈ B, 0 ≤ i ∧ i < (xs.length : Int)
  rest : ∀ i : Nat, i < xs.length → (i : Int) ∉ B → G.getD (frA xs i) 0 = G.getD (toA xs i) 0
/-- the cheapest arc that joins, of the first k arcs -/
def bestA (xs : List ArcR) (H : List Int) : Nat → Int
  | 0 => -1
  | k + 1 => if H.getD (frA xs k) 0 ≠ H.getD (toA xs k) 0 ∧ (bestA xs H k < 0 ∨ coA xs k < coA xs (bestA xs H k)) then (k : Int) else bestA xs H k
theorem best_ok {xs : List ArcR} {H : List Int} : ∀ k, (bestA xs H k = -1 ∧ ∀ j, j < k → H.getD (frA xs j) 0 = H.getD (toA xs j) 0) ∨ ∃ i : Nat, bestA xs H k = (i : Int) ∧ i < k ∧ H.getD (frA xs i) 0 ≠ H.getD (toA xs i) 0 ∧ ∀ j : Nat, j < k → H.getD (frA xs j) 0 ≠ H.getD (toA xs j) 0 → j ≠ i → LtC (coA xs) i j
  | 0 => .inl ⟨rfl, fun j hj => by omega⟩
  | k + 1 => by
    rw [bestA]
    rcases best_ok (xs := xs) (H := H) k with ⟨h1, h2⟩ | ⟨i, h1, h2, h3, h4⟩
    · by_cases hc : H.getD (frA xs k) 0 ≠ H.getD (toA xs k) 0
      · rw [if_pos ⟨hc, .inl (by omega)⟩]
        refine .inr ⟨k, rfl, by omega, hc, fun j hj hne hjk => ?_⟩
        exact absurd (h2 j (by omega)) hne
      · rw [if_neg (fun h => hc h.1)]
        refine .inl ⟨h1, fun j hj => ?_⟩
        by_cases e : j = k
        · subst e; exact Decidable.not_not.1 hc
        · exact h2 j (by omega)
    · by_cases hc : H.getD (frA xs k) 0 ≠ H.getD (toA xs k) 0 ∧ (bestA xs H k < 0 ∨ coA xs k < coA xs (bestA xs H k))
      · rw [if_pos hc]
        obtain ⟨c1, c2⟩ := hc
        rw [h1] at c2
        have c3 : coA xs k < coA xs i := by rcases c2 with c | c; omega; exact c
        refine .inr ⟨k, rfl, by omega, c1, fun j hj hne hjk => ?_⟩
        by_cases e : j = i
        · subst e; exact .inl c3
        · have := h4 j (by omega) hne e
          unfold LtC at this ⊢; omega
      · rw [if_neg hc]
        refine .inr ⟨i, h1, by omega, h3, fun j hj hne hji => ?_⟩
        by_cases e : j = k
        · subst e
          have : ¬ coA xs j < coA xs i := fun h => hc ⟨hne, .inr (by rw [h1]; exact h)⟩
          unfold LtC; omega
        · exact h4 j (by omega) hne hji
theorem same_ends {xs : List ArcR} {N : Nat} (hv : validB N xs = true) {i : Int} (h0 : 0 ≤ i) (h1 : i < xs.length) : frA xs i < N ∧ toA xs i < N := by
  obtain ⟨_, _, _, hb⟩ := valid_bd hv
  have := hb i.toNat (by omega)
  unfold frA toA; omega
/-- nothing joins any more: the scan takes nothing more -/
theorem kru_none {xs : List ArcR} {N : Nat} (hv : validB N xs = true) : ∀ (B : List Int) (s : KruS) (H : List Int), KruI xs N B s.G H → bestA xs H xs.length < 0 → kru xs B s = s
  | [], s, H, _, _ => rfl
  | i :: B, s, H, h, hb => by
    obtain ⟨r0, r1⟩ := h.rng i (by simp)
    obtain ⟨f1, f2⟩ := same_ends hv r0 r1
    have hj : s.G.getD (frA xs i) 0 = s.G.getD (toA xs i) 0 := by
      rcases best_ok (xs := xs) (H := H) xs.length with ⟨_, h2⟩ | ⟨i', h1, _⟩
      · have := h2 i.toNat (by omega)
        rw [show ((i.toNat : Nat) : Int) = i by omega] at this
        exact (h.same.2.2 _ _ f1 f2).2 this
      · omega
    rw [kru, if_pos hj]
    refine kru_none hv B s H ⟨h.same, (List.pairwise_cons.1 h.srt).2, fun j hj => h.rng j (by simp [hj]), fun j hjl hnj => ?_⟩ hb
    by_cases e : (j : Int) = i
    · rw [e]; exact hj
    · exact h.rest j hjl (by simp [e, hnj])
/-- the cheapest arc that joins is the next one that the scan takes -/
theorem kru_next {xs : List ArcR} {N : Nat} (hv : validB N xs = true) : ∀ (B : List Int) (s : KruS) (H : List Int) (i : Nat), KruI xs N B s.G H → bestA xs H xs.length = (i : Int) →
    i < xs.length ∧ ∃ B' : List Int, B'.length < B.length ∧ ∃ s' : KruS, s'.out = s.out ++ [(i : Int)] ∧ s'.c = s.c + coA xs i ∧ kru xs B s = kru xs B' s' ∧ KruI xs N B' s'.G (H.map (repl (H.getD (toA xs i) 0) (H.getD (frA xs i) 0)))
  | [], s, H, i, h, hb => by
    exfalso
    rcases best_ok (xs := xs) (H := H) xs.length with ⟨h1, _⟩ | ⟨i', h1, h2, h3, _⟩
    · omega
    · have := h.rest i' h2 (by simp)
      obtain ⟨f1, f2⟩ := same_ends hv (i := (i' : Int)) (by omega) (by omega)
      exact h3 ((h.same.2.2 _ _ f1 f2).1 this)
  | b :: B, s, H, i, h, hb => by
    obtain ⟨r0, r1⟩ := h.rng b (by simp)
    obtain ⟨f1, f2⟩ := same_ends hv r0 r1
    by_cases hj : s.G.getD (frA xs b) 0 = s.G.getD (toA xs b) 0
    · have ih := kru_next hv B s H i ⟨h.same, (List.pairwise_cons.1 h.srt).2, fun j hj => h.rng j (by simp [hj]), fun j hjl hnj => by
        by_cases e : (j : Int) = b
        · rw [e]; exact hj
        · exact h.rest j hjl (by simp [e, hnj])⟩ hb
      obtain ⟨h1, B', h2, s', h3⟩ := ih
      refine ⟨h1, B', by simp; omega, s', ?_⟩
      rw [kru, if_pos hj]; exact h3
    · rcases best_ok (xs := xs) (H := H) xs.length with ⟨h1, _⟩ | ⟨i', h1, h2, h3, h4⟩
      · omega
      · have : i' = i := by omega
        subst this
        have hbH : ¬ H.getD (frA xs b) 0 = H.getD (toA xs b) 0 := fun e => hj ((h.same.2.2 _ _ f1 f2).2 e)
        -- the scan's arc and the cheapest one are one
        have hbi : b = (i' : Int) := by
          by_cases e : b = (i' : Int)
          · exact e
          · exfalso
            obtain ⟨g1, g2⟩ := same_ends hv (i := (i' : Int)) (by omega) (by omega)
            have l1 := h4 b.toNat (by omega) (by rw [show ((b.toNat : Nat) : Int) = b by omega]; exact hbH) (by omega)
            rw [show ((b.toNat : Nat) : Int) = b by omega] at l1
            have hin : (i' : Int) ∈ b :: B := by
              by_cases hin : (i' : Int) ∈ b :: B
              · exact hin
              · exact absurd ((h.same.2.2 _ _ g1 g2).1 (h.rest i' h2 hin)) h3
            have hin2 : (i' : Int) ∈ B := by rcases List.mem_cons.1 hin with e2 | e2; exact absurd e2.symm e; exact e2
            have l2 := (List.pairwise_cons.1 h.srt).1 _ hin2
            unfold LtC at l1 l2; omega
        subst hbi
        refine ⟨h2, B, by simp, ⟨s.G.map (repl (s.G.getD (frA xs i') 0) (s.G.getD (toA xs i') 0)), s.out ++ [(i' : Int)], s.c + coA xs i'⟩, rfl, rfl, by rw [kru, if_neg hj], ?_⟩
        refine ⟨h.same.join f1 f2, (List.pairwise_cons.1 h.srt).2, fun j hj => h.rng j (by simp [hj]), fun j hjl hnj => ?_⟩
        obtain ⟨g1, g2⟩ := same_ends hv (i := (j : Int)) (by omega) (by omega)
        have hGl := h.same.1
        show (s.G.map _).getD _ 0 = (s.G.map _).getD _ 0
        rw [getD_map_repl (by omega), getD_map_repl (by omega)]
        by_cases e : (j : Int) = (i' : Int)
        · rw [e]; unfold repl; rw [if_pos rfl]; split <;> rfl
        · rw [h.rest j hjl (by simp only [List.mem_cons, not_or]; exact ⟨e, hnj⟩)]
/-- all arcs, by costs -/
def ordA (xs : List ArcR) : List Int := (seqI 0 xs.length).mergeSort (leC (coA xs))
theorem ordA_perm (xs : List ArcR) : (ordA xs).Perm (seqI 0 xs.length) := List.mergeSort_perm _ _
theorem ordA_sort (xs : List ArcR) : SortC (coA xs) (ordA xs) := sorted_ms _ _ (seqI_up _ _)
theorem ordA_eq {xs : List ArcR} {M : List Int} (h1 : M.Perm (seqI 0 xs.length)) (h2 : SortC (coA xs) M) : M = ordA xs := SortC.eq_of_perm h2 (ordA_sort xs) (h1.trans (ordA_perm xs).symm)
theorem kru_start {xs : List ArcR} {N : Nat} : KruI xs N (ordA xs) (seqI 0 N) (seqI 0 N) := by
  refine ⟨⟨seqI_len _ _, seqI_len _ _, fun u v _ _ => Iff.rfl⟩, ordA_sort xs, fun i hi => ?_, fun i hi hn => ?_⟩
  · rw [(ordA_perm xs).mem_iff, seqI_in] at hi; omega
  · exact absurd ((ordA_perm xs).mem_iff.2 (seqI_in.2 ⟨by omega, by omega⟩)) hn
def kruO (xs : List ArcR) (N : Nat) : KruS := kru xs (ordA xs) ⟨seqI 0 N, [], 0⟩
def ctB (nodes : Int) (xs : List ArcR) : Bool := validB nodes xs && decide (((kruO xs nodes.toNat).out.length : Int) = nodes - 1)
def ctL (nodes : Int) (xs : List ArcR) : List Int := if ctB nodes xs = true then (kruO xs nodes.toNat).out else []
def ctC (nodes : Int) (xs : List ArcR) : Int := if ctB nodes xs = true then (kruO xs nodes.toNat).c else 0
theorem kru_len (xs : List ArcR) : ∀ (B : List Int) (s : KruS), (kru xs B s).out.length ≤ s.out.length + B.length
  | [], s => by simp [kru]
  | i :: B, s => by
    rw [kru]
    split
    · have := kru_len xs B s
      simp; omega
    · have := kru_len xs B ⟨s.G.map (repl (s.G.getD (frA xs i) 0) (s.G.getD (toA xs i) 0)), s.out ++ [i], s.c + coA xs i⟩
      simp at this ⊢; omega
theorem ctL_len (nodes : Int) (xs : List ArcR) : (ctL nodes xs).length ≤ 1048576 := by
  unfold ctL
  split
  · rename_i h
    unfold ctB at h
    rw [Bool.and_eq_true] at h
    have h1 := (valid_bd h.1).2.2.1
    have h2 := kru_len xs (ordA xs) ⟨seqI 0 nodes.toNat, [], 0⟩
    rw [(ordA_perm xs).length_eq, seqI_len] at h2
    show (kru xs (ordA xs) ⟨seqI 0 nodes.toNat, [], 0⟩).out.length ≤ _
    have h3 : (⟨seqI 0 nodes.toNat, [], 0⟩ : KruS).out.length = 0 := rfl
    omega
  · exact Nat.zero_le _
end Go.Proofs.Ytigaopfhjimpmaa
