/- Joined texts: MatL, KruP, KruQ, Links, ReachPlain, Lefts, Reach, ReachS, PushPlain, PushPlain2, Push, Along, CutOf, Great, Ask. -/
import Derived.Test.YtigaopfhjimpmaaDoorZMatI
import Derived.Test.YtigaopfhjimpmaaDoorZStabT
import Derived.Test.YtigaopfhjimpmaaDoorZNetMem
import Derived.Test.YtigaopfhjimpmaaDoorJ2
import Derived.Test.YtigaopfhjimpmaaDoorZNetMark
import Derived.StillTailTactics
import Derived.RegionTactic
import Derived.Test.YtigaopfhjimpmaaDoorZSrc
namespace Go.Proofs.YtigaopfhjimpmaaDoor
theorem mat_len (J : Nat → Nat → Bool) (N : Nat) : ∀ f S (o : List Int), (mat J N f S o).length = o.length
  | 0, _, _ => rfl
  | f + 1, S, o => by
    rw [mat]
    split
    · rfl
    · split
      · rw [mat_len J N f, List.length_set, List.length_set]
      · rw [mat_len J N f, List.length_set]
theorem maV_length {nodes : Int} {xs : List ArcR} (h : maB nodes xs = true) : (maV nodes xs).length = nodes.toNat ∧ nodes ≤ 12 := by
  unfold maV
  rw [if_pos h]
  unfold matW
  rw [mat_len, List.length_replicate]
  unfold maB at h
  rw [Bool.and_eq_true, decide_eq_true_eq] at h
  exact ⟨rfl, h.2⟩
theorem maV_len (nodes : Int) (xs : List ArcR) : (maV nodes xs).length ≤ 1048576 := by
  cases h : maB nodes xs
  · rw [maV_no h]; simp
  · obtain ⟨a, b⟩ := maV_length h
    omega
end Go.Proofs.YtigaopfhjimpmaaDoor

namespace Go.Proofs.YtigaopfhjimpmaaDoor
open Go.RowKit

theorem SortC.eq_of_perm {ct : Int → Int} : ∀ {A B : List Int}, SortC ct A → SortC ct B → A.Perm B → A = B
  | [], B, _, _, h => (List.Perm.nil_eq h)
  | a :: A, [], _, _, h => absurd h.length_eq (by simp)
  | a :: A, b :: B, ha, hb, h => by
    rw [SortC, List.pairwise_cons] at ha hb
    have e : a = b := by
      by_cases e : a = b
      · exact e
      · exfalso
        have h1 : a ∈ b :: B := h.mem_iff.1 (by simp)
        have h2 : b ∈ a :: A := h.mem_iff.2 (by simp)
        have h1 : a ∈ B := by rcases List.mem_cons.1 h1 with e2 | e2; exact absurd e2 e; exact e2
        have h2 : b ∈ A := by rcases List.mem_cons.1 h2 with e2 | e2; exact absurd e2.symm e; exact e2
        have h3 := ha.1 b h2
        have h4 := hb.1 a h1
        unfold LtC at h3 h4; omega
    subst e
    rw [SortC.eq_of_perm ha.2 hb.2 (List.Perm.cons_inv h)]
def leC (ct : Int → Int) (x y : Int) : Bool := decide (ct x < ct y) || (decide (ct x = ct y) && decide (x ≤ y))
theorem leC_iff {ct : Int → Int} {x y : Int} : leC ct x y = true ↔ ct x < ct y ∨ (ct x = ct y ∧ x ≤ y) := by
  unfold leC; simp
theorem sorted_ms (ct : Int → Int) (Z : List Int) (hZ : Z.Pairwise (· < ·)) : SortC ct (Z.mergeSort (leC ct)) := by
  have h1 : (Z.mergeSort (leC ct)).Pairwise fun a b => leC ct a b = true := List.pairwise_mergeSort (fun a b c h1 h2 => by rw [leC_iff] at *; omega) (fun a b => by
    rw [Bool.or_eq_true, leC_iff, leC_iff]; omega) Z
  have h2 : (Z.mergeSort (leC ct)).Nodup := (List.mergeSort_perm Z (leC ct)).nodup_iff.2 (hZ.imp fun h => by omega)
  have h3 := h1.and h2
  exact h3.imp fun ⟨a, b⟩ => by
    rw [leC_iff] at a
    unfold LtC; omega
def frA (xs : List ArcR) (i : Int) : Nat := (xs.getD i.toNat default).fr.toNat
def toA (xs : List ArcR) (i : Int) : Nat := (xs.getD i.toNat default).to_.toNat
def coA (xs : List ArcR) (i : Int) : Int := (xs.getD i.toNat default).cost
/-- one number for another -/
def repl (a b : Int) (z : Int) : Int := if z = a then b else z
theorem repl_same (a : Int) (G : List Int) : G.map (repl a a) = G := by
  conv => rhs; rw [← List.map_id G]
  exact List.map_congr_left fun z _ => by unfold repl; split <;> simp [*]
/-- a scan: groups, arcs taken, cost -/
structure KruS where
  G : List Int
  out : List Int
  c : Int
def kru (xs : List ArcR) : List Int → KruS → KruS
  | [], s => s
  | i :: B, s => if s.G.getD (frA xs i) 0 = s.G.getD (toA xs i) 0 then kru xs B s else kru xs B ⟨s.G.map (repl (s.G.getD (frA xs i) 0) (s.G.getD (toA xs i) 0)), s.out ++ [i], s.c + coA xs i⟩
/-- two lists of groups that part the nodes alike -/
def SameP (N : Nat) (G H : List Int) : Prop := G.length = N ∧ H.length = N ∧ ∀ u v, u < N → v < N → (G.getD u 0 = G.getD v 0 ↔ H.getD u 0 = H.getD v 0)
theorem getD_map_repl {a b : Int} {G : List Int} {u : Nat} (h : u < G.length) : (G.map (repl a b)).getD u 0 = repl a b (G.getD u 0) := by
  simp [List.getD, h]
theorem SameP.join {N f t : Nat} {G H : List Int} (h : SameP N G H) (hf : f < N) (ht : t < N) : SameP N (G.map (repl (G.getD f 0) (G.getD t 0))) (H.map (repl (H.getD t 0) (H.getD f 0))) := by
  obtain ⟨h1, h2, h3⟩ := h
  refine ⟨by rw [List.length_map]; exact h1, by rw [List.length_map]; exact h2, fun u v hu hv => ?_⟩
  rw [getD_map_repl (by omega), getD_map_repl (by omega), getD_map_repl (by omega), getD_map_repl (by omega)]
  have a1 := h3 u f hu hf
  have a2 := h3 v f hv hf
  have a3 := h3 u t hu ht
  have a4 := h3 v t hv ht
  have a5 := h3 u v hu hv
  have a6 := h3 f t hf ht
  have a7 := h3 t f ht hf
  unfold repl
  generalize G.getD u 0 = gu at *
  generalize G.getD v 0 = gv at *
  generalize G.getD f 0 = gf at *
  generalize G.getD t 0 = gt at *
  generalize H.getD u 0 = hu' at *
  generalize H.getD v 0 = hv' at *
  generalize H.getD f 0 = hf' at *
  generalize H.getD t 0 = ht' at *
  split <;> split <;> split <;> split <;> omega
/-- what is not yet scanned holds all that can still join -/
structure KruI (xs : List ArcR) (N : Nat) (B : List Int) (G H : List Int) : Prop where
  same : SameP N G H
  srt : SortC (coA xs) B
  rng : ∀ i ∈ B, 0 ≤ i ∧ i < (xs.length : Int)
  rest : ∀ i : Nat, i < xs.length → (i : Int) ∉ B → G.getD (frA xs i) 0 = G.getD (toA xs i) 0
/-- the cheapest arc that joins, of the first k arcs -/
def bestA (xs : List ArcR) (H : List Int) : Nat → Int
  | 0 => -1
  | k + 1 => if H.getD (frA xs k) 0 ≠ H.getD (toA xs k) 0 ∧ (bestA xs H k < 0 ∨ coA xs k < coA xs (bestA xs H k)) then (k : Int) else bestA xs H k
theorem best_ok {xs : List ArcR} {H : List Int} : ∀ k, (bestA xs H k = -1 ∧ ∀ j, j < k → H.getD (frA xs j) 0 = H.getD (toA xs j) 0) ∨ ∃ i : Nat, bestA xs H k = (i : Int) ∧ i < k ∧ H.getD (frA xs i) 0 ≠ H.getD (toA xs i) 0 ∧ ∀ j : Nat, j < k → H.getD (frA xs j) 0 ≠ H.getD (toA xs j) 0 → j ≠ i → LtC (coA xs) i j
  | 0 => .inl ⟨rfl, fun j hj => by omega⟩
  | k + 1 => by
    rw [bestA]
    rcases best_ok (xs := xs) (H := H) k with ⟨h1, h2⟩ | ⟨i, h1, h2, h3, h4⟩
    · by_cases hc : H.getD (frA xs k) 0 ≠ H.getD (toA xs k) 0
      · rw [if_pos ⟨hc, .inl (by omega)⟩]
        refine .inr ⟨k, rfl, by omega, hc, fun j hj hne hjk => ?_⟩
        exact absurd (h2 j (by omega)) hne
      · rw [if_neg (fun h => hc h.1)]
        refine .inl ⟨h1, fun j hj => ?_⟩
        by_cases e : j = k
        · subst e; exact Decidable.not_not.1 hc
        · exact h2 j (by omega)
    · by_cases hc : H.getD (frA xs k) 0 ≠ H.getD (toA xs k) 0 ∧ (bestA xs H k < 0 ∨ coA xs k < coA xs (bestA xs H k))
      · rw [if_pos hc]
        obtain ⟨c1, c2⟩ := hc
        rw [h1] at c2
        have c3 : coA xs k < coA xs i := by rcases c2 with c | c; omega; exact c
        refine .inr ⟨k, rfl, by omega, c1, fun j hj hne hjk => ?_⟩
        by_cases e : j = i
        · subst e; exact .inl c3
        · have := h4 j (by omega) hne e
          unfold LtC at this ⊢; omega
      · rw [if_neg hc]
        refine .inr ⟨i, h1, by omega, h3, fun j hj hne hji => ?_⟩
        by_cases e : j = k
        · subst e
          have : ¬ coA xs j < coA xs i := fun h => hc ⟨hne, .inr (by rw [h1]; exact h)⟩
          unfold LtC; omega
        · exact h4 j (by omega) hne hji
theorem same_ends {xs : List ArcR} {N : Nat} (hv : validB N xs = true) {i : Int} (h0 : 0 ≤ i) (h1 : i < xs.length) : frA xs i < N ∧ toA xs i < N := by
  obtain ⟨_, _, _, hb⟩ := valid_bd hv
  have := hb i.toNat (by omega)
  unfold frA toA; omega
/-- nothing joins any more: the scan takes nothing more -/
theorem kru_none {xs : List ArcR} {N : Nat} (hv : validB N xs = true) : ∀ (B : List Int) (s : KruS) (H : List Int), KruI xs N B s.G H → bestA xs H xs.length < 0 → kru xs B s = s
  | [], s, H, _, _ => rfl
  | i :: B, s, H, h, hb => by
    obtain ⟨r0, r1⟩ := h.rng i (by simp)
    obtain ⟨f1, f2⟩ := same_ends hv r0 r1
    have hj : s.G.getD (frA xs i) 0 = s.G.getD (toA xs i) 0 := by
      rcases best_ok (xs := xs) (H := H) xs.length with ⟨_, h2⟩ | ⟨i', h1, _⟩
      · have := h2 i.toNat (by omega)
        rw [show ((i.toNat : Nat) : Int) = i by omega] at this
        exact (h.same.2.2 _ _ f1 f2).2 this
      · omega
    rw [kru, if_pos hj]
    refine kru_none hv B s H ⟨h.same, (List.pairwise_cons.1 h.srt).2, fun j hj => h.rng j (by simp [hj]), fun j hjl hnj => ?_⟩ hb
    by_cases e : (j : Int) = i
    · rw [e]; exact hj
    · exact h.rest j hjl (by simp [e, hnj])
/-- the cheapest arc that joins is the next one that the scan takes -/
theorem kru_next {xs : List ArcR} {N : Nat} (hv : validB N xs = true) : ∀ (B : List Int) (s : KruS) (H : List Int) (i : Nat), KruI xs N B s.G H → bestA xs H xs.length = (i : Int) →
    i < xs.length ∧ ∃ B' : List Int, B'.length < B.length ∧ ∃ s' : KruS, s'.out = s.out ++ [(i : Int)] ∧ s'.c = s.c + coA xs i ∧ kru xs B s = kru xs B' s' ∧ KruI xs N B' s'.G (H.map (repl (H.getD (toA xs i) 0) (H.getD (frA xs i) 0)))
  | [], s, H, i, h, hb => by
    exfalso
    rcases best_ok (xs := xs) (H := H) xs.length with ⟨h1, _⟩ | ⟨i', h1, h2, h3, _⟩
    · omega
    · have := h.rest i' h2 (by simp)
      obtain ⟨f1, f2⟩ := same_ends hv (i := (i' : Int)) (by omega) (by omega)
      exact h3 ((h.same.2.2 _ _ f1 f2).1 this)
  | b :: B, s, H, i, h, hb => by
    obtain ⟨r0, r1⟩ := h.rng b (by simp)
    obtain ⟨f1, f2⟩ := same_ends hv r0 r1
    by_cases hj : s.G.getD (frA xs b) 0 = s.G.getD (toA xs b) 0
    · have ih := kru_next hv B s H i ⟨h.same, (List.pairwise_cons.1 h.srt).2, fun j hj => h.rng j (by simp [hj]), fun j hjl hnj => by
        by_cases e : (j : Int) = b
        · rw [e]; exact hj
        · exact h.rest j hjl (by simp [e, hnj])⟩ hb
      obtain ⟨h1, B', h2, s', h3⟩ := ih
      refine ⟨h1, B', by simp; omega, s', ?_⟩
      rw [kru, if_pos hj]; exact h3
    · rcases best_ok (xs := xs) (H := H) xs.length with ⟨h1, _⟩ | ⟨i', h1, h2, h3, h4⟩
      · omega
      · have : i' = i := by omega
        subst this
        have hbH : ¬ H.getD (frA xs b) 0 = H.getD (toA xs b) 0 := fun e => hj ((h.same.2.2 _ _ f1 f2).2 e)
        -- the scan's arc and the cheapest one are one
        have hbi : b = (i' : Int) := by
          by_cases e : b = (i' : Int)
          · exact e
          · exfalso
            obtain ⟨g1, g2⟩ := same_ends hv (i := (i' : Int)) (by omega) (by omega)
            have l1 := h4 b.toNat (by omega) (by rw [show ((b.toNat : Nat) : Int) = b by omega]; exact hbH) (by omega)
            rw [show ((b.toNat : Nat) : Int) = b by omega] at l1
            have hin : (i' : Int) ∈ b :: B := by
              by_cases hin : (i' : Int) ∈ b :: B
              · exact hin
              · exact absurd ((h.same.2.2 _ _ g1 g2).1 (h.rest i' h2 hin)) h3
            have hin2 : (i' : Int) ∈ B := by rcases List.mem_cons.1 hin with e2 | e2; exact absurd e2.symm e; exact e2
            have l2 := (List.pairwise_cons.1 h.srt).1 _ hin2
            unfold LtC at l1 l2; omega
        subst hbi
        refine ⟨h2, B, by simp, ⟨s.G.map (repl (s.G.getD (frA xs i') 0) (s.G.getD (toA xs i') 0)), s.out ++ [(i' : Int)], s.c + coA xs i'⟩, rfl, rfl, by rw [kru, if_neg hj], ?_⟩
        refine ⟨h.same.join f1 f2, (List.pairwise_cons.1 h.srt).2, fun j hj => h.rng j (by simp [hj]), fun j hjl hnj => ?_⟩
        obtain ⟨g1, g2⟩ := same_ends hv (i := (j : Int)) (by omega) (by omega)
        have hGl := h.same.1
        show (s.G.map _).getD _ 0 = (s.G.map _).getD _ 0
        rw [getD_map_repl (by omega), getD_map_repl (by omega)]
        by_cases e : (j : Int) = (i' : Int)
        · rw [e]; unfold repl; rw [if_pos rfl]; split <;> rfl
        · rw [h.rest j hjl (by simp only [List.mem_cons, not_or]; exact ⟨e, hnj⟩)]
/-- all arcs, by costs -/
def ordA (xs : List ArcR) : List Int := (seqI 0 xs.length).mergeSort (leC (coA xs))
theorem ordA_perm (xs : List ArcR) : (ordA xs).Perm (seqI 0 xs.length) := List.mergeSort_perm _ _
theorem ordA_sort (xs : List ArcR) : SortC (coA xs) (ordA xs) := sorted_ms _ _ (seqI_up _ _)
theorem ordA_eq {xs : List ArcR} {M : List Int} (h1 : M.Perm (seqI 0 xs.length)) (h2 : SortC (coA xs) M) : M = ordA xs := SortC.eq_of_perm h2 (ordA_sort xs) (h1.trans (ordA_perm xs).symm)
theorem kru_start {xs : List ArcR} {N : Nat} : KruI xs N (ordA xs) (seqI 0 N) (seqI 0 N) := by
  refine ⟨⟨seqI_len _ _, seqI_len _ _, fun u v _ _ => Iff.rfl⟩, ordA_sort xs, fun i hi => ?_, fun i hi hn => ?_⟩
  · rw [(ordA_perm xs).mem_iff, seqI_in] at hi; omega
  · exact absurd ((ordA_perm xs).mem_iff.2 (seqI_in.2 ⟨by omega, by omega⟩)) hn
def kruO (xs : List ArcR) (N : Nat) : KruS := kru xs (ordA xs) ⟨seqI 0 N, [], 0⟩
def ctB (nodes : Int) (xs : List ArcR) : Bool := validB nodes xs && decide (((kruO xs nodes.toNat).out.length : Int) = nodes - 1)
def ctL (nodes : Int) (xs : List ArcR) : List Int := if ctB nodes xs = true then (kruO xs nodes.toNat).out else []
def ctC (nodes : Int) (xs : List ArcR) : Int := if ctB nodes xs = true then (kruO xs nodes.toNat).c else 0
theorem kru_len (xs : List ArcR) : ∀ (B : List Int) (s : KruS), (kru xs B s).out.length ≤ s.out.length + B.length
  | [], s => by simp [kru]
  | i :: B, s => by
    rw [kru]
    split
    · have := kru_len xs B s
      simp; omega
    · have := kru_len xs B ⟨s.G.map (repl (s.G.getD (frA xs i) 0) (s.G.getD (toA xs i) 0)), s.out ++ [i], s.c + coA xs i⟩
      simp at this ⊢; omega
theorem ctL_len (nodes : Int) (xs : List ArcR) : (ctL nodes xs).length ≤ 1048576 := by
  unfold ctL
  split
  · rename_i h
    unfold ctB at h
    rw [Bool.and_eq_true] at h
    have h1 := (valid_bd h.1).2.2.1
    have h2 := kru_len xs (ordA xs) ⟨seqI 0 nodes.toNat, [], 0⟩
    rw [(ordA_perm xs).length_eq, seqI_len] at h2
    show (kru xs (ordA xs) ⟨seqI 0 nodes.toNat, [], 0⟩).out.length ≤ _
    have h3 : (⟨seqI 0 nodes.toNat, [], 0⟩ : KruS).out.length = 0 := rfl
    omega
  · exact Nat.zero_le _
end Go.Proofs.YtigaopfhjimpmaaDoor

namespace Go.Proofs.YtigaopfhjimpmaaDoor
open Go.RowKit
open DetP

/-- how many of the first n numbers -/
def cnt (p : Nat → Bool) : Nat → Nat
  | 0 => 0
  | n + 1 => cnt p n + if p n = true then 1 else 0
theorem cnt_congr {p q : Nat → Bool} : ∀ n, (∀ i, i < n → p i = q i) → cnt p n = cnt q n
  | 0, _ => rfl
  | n + 1, h => by rw [cnt, cnt, cnt_congr n (fun i hi => h i (by omega)), h n (by omega)]
theorem cnt_le (p : Nat → Bool) : ∀ n, cnt p n ≤ n
  | 0 => Nat.le_refl _
  | n + 1 => by have := cnt_le p n; rw [cnt]; split <;> omega
theorem cnt_pos {p : Nat → Bool} {a : Nat} (ha : p a = true) : ∀ n, a < n → 0 < cnt p n
  | 0, h => by omega
  | n + 1, h => by
    rw [cnt]
    by_cases e : a = n
    · subst e; rw [if_pos ha]; omega
    · have := cnt_pos ha n (by omega); omega
theorem cnt_none {p : Nat → Bool} : ∀ n, (∀ i, i < n → p i = false) → cnt p n = 0
  | 0, _ => rfl
  | n + 1, h => by rw [cnt, cnt_none n (fun i hi => h i (by omega)), if_neg (by rw [h n (by omega)]; decide)]
theorem cnt_del {p : Nat → Bool} {a : Nat} (ha : p a = true) : ∀ n, a < n → cnt (fun x => p x && decide (x ≠ a)) n + 1 = cnt p n
  | 0, h => by omega
  | n + 1, h => by
    rw [cnt, cnt]
    by_cases e : a = n
    · subst e
      have h1 : cnt (fun x => p x && decide (x ≠ a)) a = cnt p a := cnt_congr a fun i hi => by
        have : i ≠ a := by omega
        simp [this]
      rw [h1, if_pos ha]; simp
    · have := cnt_del ha n (by omega)
      have e2 : n ≠ a := fun h => e h.symm
      simp only [decide_eq_true e2, Bool.and_true]
      omega
theorem cnt_add {p q : Nat → Bool} : ∀ n, (∀ i, i < n → (p i && q i) = false) → cnt (fun x => p x || q x) n = cnt p n + cnt q n
  | 0, _ => rfl
  | n + 1, h => by
    have h1 := cnt_add (p := p) (q := q) n (fun i hi => h i (by omega))
    have h2 := h n (by omega)
    rw [cnt, cnt, cnt, h1]
    cases hp : p n <;> cases hq : q n
    · simp
    · simp; omega
    · simp; omega
    · rw [hp, hq] at h2; cases h2
theorem cnt_not (p : Nat → Bool) : ∀ n, cnt p n + cnt (fun x => !p x) n = n
  | 0 => rfl
  | n + 1 => by
    have := cnt_not p n
    rw [cnt, cnt]
    cases p n <;> simp <;> omega
/-- each of the one comes from one of the other -/
theorem cnt_onto {p : Nat → Bool} {N : Nat} {g : Nat → Nat} : ∀ (n : Nat) (q : Nat → Bool), (∀ l, l < n → p l = true → ∃ v, v < N ∧ q v = true ∧ g v = l) → cnt p n ≤ cnt q N
  | 0, q, _ => Nat.zero_le _
  | n + 1, q, h => by
    have h1 := cnt_onto (p := p) n (fun v => q v && decide (g v ≠ n)) (fun l hl hp => by
      obtain ⟨v, a, b, c⟩ := h l (by omega) hp
      have : g v ≠ n := by omega
      exact ⟨v, a, by simp [b, this], c⟩)
    have h2 := cnt_add (p := fun v => q v && decide (g v ≠ n)) (q := fun v => q v && decide (g v = n)) N (fun i _ => by cases q i <;> by_cases e : g i = n <;> simp [e])
    have h3 : cnt (fun x => (q x && decide (g x ≠ n)) || (q x && decide (g x = n))) N = cnt q N := cnt_congr N fun i _ => by cases q i <;> by_cases e : g i = n <;> simp [e]
    rw [h3] at h2
    rw [cnt]
    by_cases hp : p n = true
    · obtain ⟨v, a, b, c⟩ := h n (by omega) hp
      have := cnt_pos (p := fun v => q v && decide (g v = n)) (a := v) (by simp [b, c]) N a
      rw [if_pos hp]; omega
    · rw [if_neg hp]; omega
/-- a label that labels itself -/
def fixB (G : List Int) (l : Nat) : Bool := decide (G.getD l 0 = (l : Int))
structure KInv (xs : List ArcR) (N : Nat) (A : List Int) (s : KruS) : Prop where
  len : s.G.length = N
  lab : ∀ v, v < N → ∃ g : Nat, s.G.getD v 0 = (g : Int) ∧ g < N ∧ s.G.getD g 0 = (g : Int)
  num : cnt (fixB s.G) N + s.out.length = N
  done : ∀ i : Nat, i < xs.length → (i : Int) ∈ A → s.G.getD (frN xs i) 0 = s.G.getD (toN xs i) 0
  sound : ∀ z : Nat → Int, (∀ i : Nat, i < xs.length → z (frN xs i) = z (toN xs i)) → ∀ u v, u < N → v < N → s.G.getD u 0 = s.G.getD v 0 → z u = z v
theorem seqI_v {N v : Nat} (hv : v < N) : (seqI 0 N).getD v 0 = (v : Int) := by rw [seqI_get 0 N v hv]; omega
theorem kinv_start (xs : List ArcR) (N : Nat) : KInv xs N [] ⟨seqI 0 N, [], 0⟩ := by
  refine ⟨seqI_len _ _, fun v hv => ⟨v, seqI_v hv, hv, seqI_v hv⟩, ?_, fun i _ hi => (by cases hi), fun z _ u v hu hv h => ?_⟩
  · have : cnt (fixB (seqI 0 N)) N = cnt (fun _ => true) N := cnt_congr N fun i hi => by unfold fixB; rw [seqI_v hi]; simp
    have h2 := cnt_not (fun _ => true) N
    have h3 : cnt (fun _ => !true) N = 0 := cnt_none N fun _ _ => rfl
    show cnt (fixB (seqI 0 N)) N + 0 = N
    omega
  · have h : (seqI 0 N).getD u 0 = (seqI 0 N).getD v 0 := h
    rw [seqI_v hu, seqI_v hv] at h
    have : u = v := by omega
    rw [this]
theorem kru_appQ (xs : List ArcR) : ∀ (A B : List Int) (s : KruS), kru xs (A ++ B) s = kru xs B (kru xs A s)
  | [], B, s => rfl
  | i :: A, B, s => by
    rw [List.cons_append, kru, kru]
    split
    · exact kru_appQ xs A B s
    · exact kru_appQ xs A B _
theorem frA_nat (xs : List ArcR) (i : Nat) : frA xs (i : Int) = frN xs i := by unfold frA frN; rw [Int.toNat_natCast]
theorem toA_nat (xs : List ArcR) (i : Nat) : toA xs (i : Int) = toN xs i := by unfold toA toN; rw [Int.toNat_natCast]
theorem kinv_step {xs : List ArcR} {N : Nat} {A : List Int} {s : KruS} {i : Nat} (hi : i < xs.length) (hx : ∀ j, j < xs.length → frN xs j < N ∧ toN xs j < N) (h : KInv xs N A s) : KInv xs N (A ++ [(i : Int)]) (kru xs [(i : Int)] s) := by
  obtain ⟨h1, h2, h3, h4, h5⟩ := h
  obtain ⟨hf, ht⟩ := hx i hi
  rw [kru, frA_nat, toA_nat]
  by_cases e : s.G.getD (frN xs i) 0 = s.G.getD (toN xs i) 0
  · rw [if_pos e, kru]
    refine ⟨h1, h2, h3, fun j hjl hj => ?_, h5⟩
    rcases List.mem_append.1 hj with hj | hj
    · exact h4 j hjl hj
    · have : j = i := by have := List.mem_singleton.1 hj; omega
      rw [this]; exact e
  · rw [if_neg e, kru]
    obtain ⟨a, a1, a2, a3⟩ := h2 _ hf
    obtain ⟨b, b1, b2, b3⟩ := h2 _ ht
    have hab : (a : Int) ≠ (b : Int) := fun h => e (by rw [a1, b1, h])
    rw [a1, b1]
    have hg : ∀ v, v < N → (s.G.map (repl (a : Int) (b : Int))).getD v 0 = repl (a : Int) (b : Int) (s.G.getD v 0) := fun v hv => getD_map_repl (by omega)
    refine ⟨by rw [List.length_map]; exact h1, fun v hv => ?_, ?_, fun j hjl hj => ?_, fun z hz u v hu hv huv => ?_⟩
    · show ∃ g : Nat, (s.G.map (repl (a : Int) (b : Int))).getD v 0 = (g : Int) ∧ g < N ∧ (s.G.map (repl (a : Int) (b : Int))).getD g 0 = (g : Int)
      obtain ⟨c, c1, c2, c3⟩ := h2 v hv
      rw [hg v hv, c1]
      by_cases hc : (c : Int) = (a : Int)
      · refine ⟨b, by unfold repl; rw [if_pos hc], b2, ?_⟩
        rw [hg b b2, b3]; unfold repl; rw [if_neg (fun h => hab h.symm)]
      · refine ⟨c, by unfold repl; rw [if_neg hc], c2, ?_⟩
        rw [hg c c2, c3]; unfold repl; rw [if_neg hc]
    · show cnt (fixB (s.G.map (repl (a : Int) (b : Int)))) N + (s.out ++ [(i : Int)]).length = N
      rw [List.length_append, List.length_singleton]
      have k1 := cnt_del (p := fixB s.G) (a := a) (by unfold fixB; rw [a3]; simp) N a2
      have k2 : cnt (fixB (s.G.map (repl (a : Int) (b : Int)))) N = cnt (fun x => fixB s.G x && decide (x ≠ a)) N := cnt_congr N fun l hl => by
        unfold fixB
        rw [hg l hl]
        obtain ⟨c, c1, c2, c3⟩ := h2 l hl
        rw [c1]
        unfold repl
        by_cases e1 : (c : Int) = (a : Int)
        · rw [if_pos e1]
          have hca : c = a := by omega
          by_cases e2 : l = a
          · have : ¬ (b : Int) = (l : Int) := fun h => hab (by omega)
            simp [e2, this]
            omega
          · have n1 : ¬ (c : Int) = (l : Int) := by omega
            have n2 : ¬ (b : Int) = (l : Int) := fun h => by
              have : b = l := by omega
              rw [← this, b3] at c1
              omega
            simp [n1, n2]
        · rw [if_neg e1]
          by_cases e2 : l = a
          · exfalso
            rw [e2, a3] at c1
            exact e1 c1.symm
          · simp [e2]
      rw [k2]; omega
    · show (s.G.map (repl (a : Int) (b : Int))).getD (frN xs j) 0 = (s.G.map (repl (a : Int) (b : Int))).getD (toN xs j) 0
      rw [hg _ (hx j hjl).1, hg _ (hx j hjl).2]
      rcases List.mem_append.1 hj with hj | hj
      · rw [h4 j hjl hj]
      · have : j = i := by have := List.mem_singleton.1 hj; omega
        rw [this, a1, b1]
        unfold repl
        rw [if_pos rfl, if_neg (fun h => hab h.symm)]
    · have huv : (s.G.map (repl (a : Int) (b : Int))).getD u 0 = (s.G.map (repl (a : Int) (b : Int))).getD v 0 := huv
      rw [hg u hu, hg v hv] at huv
      have key := h5 z hz
      have hft := hz i hi
      have hfa : ∀ u, u < N → s.G.getD u 0 = (a : Int) → z u = z (frN xs i) := fun u hu h => key u _ hu hf (by rw [h, a1])
      have htb : ∀ u, u < N → s.G.getD u 0 = (b : Int) → z u = z (toN xs i) := fun u hu h => key u _ hu ht (by rw [h, b1])
      unfold repl at huv
      by_cases e1 : s.G.getD u 0 = (a : Int)
      · by_cases e2 : s.G.getD v 0 = (a : Int)
        · exact key u v hu hv (by rw [e1, e2])
        · rw [if_pos e1, if_neg e2] at huv
          rw [hfa u hu e1, htb v hv huv.symm, hft]
      · by_cases e2 : s.G.getD v 0 = (a : Int)
        · rw [if_neg e1, if_pos e2] at huv
          rw [htb u hu huv, hfa v hv e2, hft]
        · rw [if_neg e1, if_neg e2] at huv
          exact key u v hu hv huv
/-- the scan of all arcs -/
theorem kinv_take {xs : List ArcR} {N : Nat} (hx : ∀ j, j < xs.length → frN xs j < N ∧ toN xs j < N) : ∀ p, p ≤ (ordA xs).length → KInv xs N ((ordA xs).take p) (kru xs ((ordA xs).take p) ⟨seqI 0 N, [], 0⟩)
  | 0, _ => kinv_start xs N
  | p + 1, hp => by
    have ih := kinv_take hx p (by omega)
    have hm : (ordA xs)[p] ∈ ordA xs := List.getElem_mem (by omega)
    rw [(ordA_perm xs).mem_iff, seqI_in] at hm
    obtain ⟨i, hi⟩ := Int.eq_ofNat_of_zero_le hm.1
    have hil : i < xs.length := by omega
    rw [List.take_succ_eq_append_getElem (by omega), kru_appQ, hi]
    exact kinv_step hil hx ih
theorem kinv_all {xs : List ArcR} {N : Nat} (hx : ∀ j, j < xs.length → frN xs j < N ∧ toN xs j < N) : KInv xs N (ordA xs) (kruO xs N) := by
  have := kinv_take hx (ordA xs).length (Nat.le_refl _)
  rw [List.take_length] at this
  exact this
theorem mem_ord {xs : List ArcR} {i : Nat} (hi : i < xs.length) : (i : Int) ∈ ordA xs := (ordA_perm xs).mem_iff.2 (seqI_in.2 ⟨by omega, by omega⟩)
theorem kinv_one {xs : List ArcR} {N : Nat} {A : List Int} {s : KruS} (h : KInv xs N A s) (hN : 0 < N) : s.out.length + 1 ≤ N ∧ (s.out.length + 1 = N ↔ ∀ u v, u < N → v < N → s.G.getD u 0 = s.G.getD v 0) := by
  obtain ⟨h1, h2, h3, _, _⟩ := h
  obtain ⟨g, g1, g2, g3⟩ := h2 0 hN
  have hfg : fixB s.G g = true := by unfold fixB; rw [g3]; simp
  have hp := cnt_pos hfg N g2
  have hd := cnt_del hfg N g2
  refine ⟨by omega, fun he => ?_, fun hall => ?_⟩
  · have hz : cnt (fun x => fixB s.G x && decide (x ≠ g)) N = 0 := by omega
    have hone : ∀ l, l < N → fixB s.G l = true → l = g := fun l hl hf => by
      by_cases e : l = g
      · exact e
      · have := cnt_pos (p := fun x => fixB s.G x && decide (x ≠ g)) (a := l) (by simp [hf, e]) N hl
        omega
    intro u v hu hv
    obtain ⟨a, a1, a2, a3⟩ := h2 u hu
    obtain ⟨b, b1, b2, b3⟩ := h2 v hv
    rw [a1, b1, hone a a2 (by unfold fixB; rw [a3]; simp), hone b b2 (by unfold fixB; rw [b3]; simp)]
  · have hz : cnt (fun x => fixB s.G x && decide (x ≠ g)) N = 0 := cnt_none N fun l hl => by
      cases hf : fixB s.G l
      · rfl
      · unfold fixB at hf
        rw [decide_eq_true_eq] at hf
        have := hall l 0 hl hN
        rw [hf, g1] at this
        have : l = g := by omega
        simp [this]
    omega
/-- a cheapest tree joins all nodes just if trees can be counted -/
theorem ct_trees {xs : List ArcR} {m : Nat} (hv : validB ((m + 1 : Nat) : Int) xs = true) (hin : ∀ i, i < xs.length → frN xs i < m + 1 ∧ toN xs i < m + 1 ∧ frN xs i ≠ toN xs i) (hn : xs.length ≤ 48) (hm : 1 ≤ m) : ctB ((m + 1 : Nat) : Int) xs = decide (0 < bP (lapB xs) m) := by
  have hx : ∀ j, j < xs.length → frN xs j < m + 1 ∧ toN xs j < m + 1 := fun j hj => ⟨(hin j hj).1, (hin j hj).2.1⟩
  have hk := kinv_all hx
  obtain ⟨k1, k2⟩ := kinv_one hk (by omega)
  have hnn := bP_nonneg hin hn
  unfold ctB
  rw [hv, Bool.true_and, Int.toNat_natCast]
  by_cases e : (kruO xs (m + 1)).out.length + 1 = m + 1
  · have hall := k2.1 e
    have hpos : 0 < bP (lapB xs) m := by
      by_cases h0 : bP (lapB xs) m = 0
      · exfalso
        obtain ⟨z, hz, k, hkm, hne⟩ := trees_none hin hn h0
        exact hne (hk.sound z hz k m (by omega) (by omega) (hall k m (by omega) (by omega)))
      · omega
    rw [decide_eq_true hpos, decide_eq_true (by omega)]
  · have h0 : bP (lapB xs) m = 0 := by
      have hex : ∃ k, k < m ∧ (kruO xs (m + 1)).G.getD k 0 ≠ (kruO xs (m + 1)).G.getD m 0 := by
        by_cases hex : ∃ k, k < m ∧ (kruO xs (m + 1)).G.getD k 0 ≠ (kruO xs (m + 1)).G.getD m 0
        · exact hex
        · exfalso
          have hc : ∀ k, k < m + 1 → (kruO xs (m + 1)).G.getD k 0 = (kruO xs (m + 1)).G.getD m 0 := fun k hk => by
            by_cases e : k = m
            · rw [e]
            · by_cases e2 : (kruO xs (m + 1)).G.getD k 0 = (kruO xs (m + 1)).G.getD m 0
              · exact e2
              · exact absurd ⟨k, by omega, e2⟩ hex
          exact e (k2.2 fun u v hu hv => by rw [hc u hu, hc v hv])
      obtain ⟨k, hkm, hne⟩ := hex
      exact none_trees hin hn (z := fun v => (kruO xs (m + 1)).G.getD v 0) (fun i hi => hk.done i hi (mem_ord hi)) hkm hne
    rw [decide_eq_false (by omega), decide_eq_false (by omega)]
/-- the arcs of a scan join groups that differ, one after the other -/
def okF (xs : List ArcR) : List Int → List Int → Prop
  | _, [] => True
  | H, i :: L => 0 ≤ i ∧ i < xs.length ∧ H.getD (toA xs i) 0 ≠ H.getD (frA xs i) 0 ∧ okF xs (H.map (repl (H.getD (toA xs i) 0) (H.getD (frA xs i) 0))) L
def sumC (xs : List ArcR) : List Int → Int
  | [] => 0
  | i :: L => coA xs i + sumC xs L
theorem kru_okF {xs : List ArcR} {N : Nat} (hv : validB N xs = true) : ∀ (B : List Int) (s : KruS) (H : List Int), (∀ i ∈ B, 0 ≤ i ∧ i < (xs.length : Int)) → SameP N s.G H → ∃ L, (kru xs B s).out = s.out ++ L ∧ okF xs H L ∧ (kru xs B s).c = s.c + sumC xs L
  | [], s, H, _, _ => ⟨[], by simp [kru], trivial, by simp [kru, sumC]⟩
  | i :: B, s, H, hr, hs => by
    obtain ⟨r0, r1⟩ := hr i (by simp)
    obtain ⟨f1, f2⟩ := same_ends hv r0 r1
    rw [kru]
    by_cases e : s.G.getD (frA xs i) 0 = s.G.getD (toA xs i) 0
    · rw [if_pos e]
      exact kru_okF hv B s H (fun j hj => hr j (by simp [hj])) hs
    · rw [if_neg e]
      obtain ⟨L, l1, l2, l3⟩ := kru_okF hv B ⟨s.G.map (repl (s.G.getD (frA xs i) 0) (s.G.getD (toA xs i) 0)), s.out ++ [i], s.c + coA xs i⟩ (H.map (repl (H.getD (toA xs i) 0) (H.getD (frA xs i) 0))) (fun j hj => hr j (by simp [hj])) (hs.join f1 f2)
      refine ⟨i :: L, by rw [l1]; simp, ⟨r0, r1, fun h => e ((hs.2.2 _ _ f1 f2).2 h.symm), l2⟩, by rw [l3, sumC]; show s.c + coA xs i + sumC xs L = _; omega⟩
theorem ct_okF {xs : List ArcR} {N : Nat} (hv : validB N xs = true) : okF xs (seqI 0 N) (kruO xs N).out ∧ (kruO xs N).c = sumC xs (kruO xs N).out := by
  obtain ⟨L, l1, l2, l3⟩ := kru_okF hv (ordA xs) ⟨seqI 0 N, [], 0⟩ (seqI 0 N) (fun i hi => by rw [(ordA_perm xs).mem_iff, seqI_in] at hi; omega) ⟨seqI_len _ _, seqI_len _ _, fun u v _ _ => Iff.rfl⟩
  have e : (kruO xs N).out = L := by show (kru xs (ordA xs) ⟨seqI 0 N, [], 0⟩).out = L; rw [l1]; rfl
  rw [e]
  refine ⟨l2, ?_⟩
  show (kru xs (ordA xs) ⟨seqI 0 N, [], 0⟩).c = _
  rw [l3]
  show (0 : Int) + sumC xs L = sumC xs L
  omega
/-- a rooted tree: each other node has an arc into it, and reaches the root -/
structure Rooted (xs : List ArcR) (N r : Nat) (zs : List Int) : Prop where
  root : r < N
  arcs : ∀ v, v < N → v ≠ r → 0 ≤ zs.getD v 0 ∧ zs.getD v 0 < xs.length ∧ toA xs (zs.getD v 0) = v
  reach : ∀ v, v < N → ∃ s, itR (rprev xs zs) s v = r
  away : zs.getD r 0 < 0
def ownB (zs : List Int) (r : Nat) (A : List Int) (v : Nat) : Bool := decide (v ≠ r) && decide (zs.getD v 0 ∈ A)
/-- of the arcs of a rooted tree the scan has taken none fewer -/
theorem own_le {xs : List ArcR} {N r : Nat} {zs : List Int} {A : List Int} {s : KruS} (hx : ∀ j, j < xs.length → frN xs j < N ∧ toN xs j < N) (hR : Rooted xs N r zs) (h : KInv xs N A s) : cnt (ownB zs r A) N ≤ s.out.length := by
  have h1 := cnt_onto (p := fixB s.G) (N := N) (g := fun v => (s.G.getD v 0).toNat) N (fun v => !ownB zs r A v) (fun l hl hf => by
    unfold fixB at hf
    rw [decide_eq_true_eq] at hf
    by_cases hex : ∃ v, v < N ∧ ownB zs r A v = false ∧ s.G.getD v 0 = (l : Int)
    · obtain ⟨v, a, b, c⟩ := hex
      exact ⟨v, a, by simp [b], by rw [c, Int.toNat_natCast]⟩
    · exfalso
      have hall : ∀ v, v < N → s.G.getD v 0 = (l : Int) → ownB zs r A v = true := fun v hv hg => by
        cases hb : ownB zs r A v
        · exact absurd ⟨v, hv, hb, hg⟩ hex
        · rfl
      have hstep : ∀ t v, v < N → s.G.getD v 0 = (l : Int) → itR (rprev xs zs) t v < N ∧ s.G.getD (itR (rprev xs zs) t v) 0 = (l : Int) := by
        intro t
        induction t with
        | zero => intro v hv hg; exact ⟨hv, hg⟩
        | succ t ih =>
          intro v hv hg
          have ho := hall v hv hg
          unfold ownB at ho
          rw [Bool.and_eq_true, decide_eq_true_eq, decide_eq_true_eq] at ho
          obtain ⟨b0, b1, b2⟩ := hR.arcs v hv ho.1
          obtain ⟨i, hi⟩ := Int.eq_ofNat_of_zero_le b0
          have hil : i < xs.length := by omega
          have hrp : rprev xs zs v = frN xs i := by unfold rprev frN; rw [hi, Int.toNat_natCast]
          have hd := h.done i hil (by rw [← hi]; exact ho.2)
          rw [hi, toA_nat] at b2
          refine ih (rprev xs zs v) (by rw [hrp]; exact (hx i hil).1) ?_
          rw [hrp, hd, b2, hg]
      obtain ⟨t, ht⟩ := hR.reach l hl
      obtain ⟨q1, q2⟩ := hstep t l hl hf
      rw [ht] at q2
      have := hall r hR.root q2
      unfold ownB at this
      simp at this)
  have h2 := cnt_not (ownB zs r A) N
  have h3 := h.num
  omega
theorem sumN_ite (p : Nat → Bool) (c : Int) : ∀ n, sumN n (fun v => if p v = true then c else 0) = c * (cnt p n : Int)
  | 0 => by simp [sumN, cnt]
  | n + 1 => by
    rw [sumN, cnt, sumN_ite p c n]
    cases p n
    · simp
    · simp only [if_true]; rw [Int.natCast_add]; grind
def ownC (xs : List ArcR) (zs : List Int) (r : Nat) (A : List Int) (v : Nat) : Int := if ownB zs r A v = true then coA xs (zs.getD v 0) else 0
theorem own_snoc {zs : List Int} {r : Nat} {A : List Int} {i : Int} (hi : i ∉ A) (v : Nat) : ownB zs r (A ++ [i]) v = (ownB zs r A v || (decide (v ≠ r) && decide (zs.getD v 0 = i))) ∧ (ownB zs r A v && (decide (v ≠ r) && decide (zs.getD v 0 = i))) = false := by
  unfold ownB
  by_cases e1 : v = r <;> by_cases e2 : zs.getD v 0 = i <;> by_cases e3 : zs.getD v 0 ∈ A
  all_goals simp_all
theorem rooted_take {xs : List ArcR} {N r : Nat} {zs : List Int} (hx : ∀ j, j < xs.length → frN xs j < N ∧ toN xs j < N) (hR : Rooted xs N r zs) : ∀ p, p ≤ (ordA xs).length → ∀ C : Int, (∀ i ∈ (ordA xs).take p, coA xs i ≤ C) → C * ((cnt (ownB zs r ((ordA xs).take p)) N : Int) - ((kru xs ((ordA xs).take p) ⟨seqI 0 N, [], 0⟩).out.length : Int)) ≤ sumN N (ownC xs zs r ((ordA xs).take p)) - (kru xs ((ordA xs).take p) ⟨seqI 0 N, [], 0⟩).c
  | 0, _, C, _ => by
    have e1 : cnt (ownB zs r ((ordA xs).take 0)) N = 0 := cnt_none N fun v _ => by unfold ownB; simp
    have e2 : sumN N (ownC xs zs r ((ordA xs).take 0)) = 0 := by
      rw [sumN_congr N _ (fun _ => 0) fun v _ => by unfold ownC ownB; simp, sumN_zero]
    rw [e1, e2]
    show C * (((0 : Nat) : Int) - ((0 : Nat) : Int)) ≤ 0 - 0
    simp
  | p + 1, hp, C, hC => by
    have hpl : p < (ordA xs).length := by omega
    have hsort := ordA_sort xs
    have htk : (ordA xs).take (p + 1) = (ordA xs).take p ++ [(ordA xs)[p]] := List.take_succ_eq_append_getElem hpl
    have hcC : coA xs (ordA xs)[p] ≤ C := hC _ (by rw [htk]; exact List.mem_append_right _ (List.mem_singleton.2 rfl))
    have hsp : ∀ i ∈ (ordA xs).take p, LtC (coA xs) i (ordA xs)[p] := fun i hi => by
      unfold SortC at hsort
      have h1 : ((ordA xs).take (p + 1)).Pairwise (LtC (coA xs)) := hsort.sublist (List.take_sublist _ _)
      rw [htk, List.pairwise_append] at h1
      exact h1.2.2 i hi _ (by simp)
    have hni : (ordA xs)[p] ∉ (ordA xs).take p := fun h => by
      have := hsp _ h
      unfold LtC at this; omega
    have ih := rooted_take hx hR p (by omega) (coA xs (ordA xs)[p]) (fun i hi => by have := hsp i hi; unfold LtC at this; omega)
    have hle := own_le hx hR (kinv_take hx (p + 1) hp)
    rw [htk] at hle ⊢
    rw [kru_appQ] at hle ⊢
    generalize hA : (ordA xs).take p = A at *
    generalize hi : (ordA xs)[p] = i at *
    generalize kru xs A ⟨seqI 0 N, [], 0⟩ = s at *
    clear hA htk hC hsp
    have c1 : cnt (ownB zs r (A ++ [i])) N = cnt (ownB zs r A) N + cnt (fun v => decide (v ≠ r) && decide (zs.getD v 0 = i)) N := by
      rw [← cnt_add N fun v _ => (own_snoc hni v).2]
      exact cnt_congr N fun v _ => (own_snoc hni v).1
    have c2 : sumN N (ownC xs zs r (A ++ [i])) = sumN N (ownC xs zs r A) + coA xs i * (cnt (fun v => decide (v ≠ r) && decide (zs.getD v 0 = i)) N : Int) := by
      rw [← sumN_ite, ← sumN_add]
      refine sumN_congr N _ _ fun v _ => ?_
      unfold ownC
      obtain ⟨o1, o2⟩ := own_snoc (zs := zs) (r := r) hni v
      rw [o1]
      cases hb : ownB zs r A v
      · rw [Bool.false_or]
        by_cases e : (decide (v ≠ r) && decide (zs.getD v 0 = i)) = true
        · rw [if_pos e, if_pos e]
          rw [Bool.and_eq_true, decide_eq_true_eq, decide_eq_true_eq] at e
          rw [e.2]; simp
        · rw [if_neg e, if_neg e]; simp
      · rw [hb, Bool.true_and] at o2
        rw [o2]; simp
    generalize cnt (fun v => decide (v ≠ r) && decide (zs.getD v 0 = i)) N = t at *
    rw [c1] at hle ⊢
    rw [c2]
    generalize cnt (ownB zs r A) N = T at *
    generalize sumN N (ownC xs zs r A) = TC at *
    have hk : ((kru xs [i] s).out.length = s.out.length ∧ (kru xs [i] s).c = s.c) ∨ ((kru xs [i] s).out.length = s.out.length + 1 ∧ (kru xs [i] s).c = s.c + coA xs i) := by
      rw [kru]
      split
      · exact .inl ⟨rfl, rfl⟩
      · refine .inr ⟨?_, rfl⟩
        show (s.out ++ [i]).length = _
        simp
    generalize (kru xs [i] s).out.length = K' at *
    generalize (kru xs [i] s).c = c' at *
    generalize s.out.length = K at *
    generalize s.c = sc at *
    generalize coA xs i = c at *
    have hS : ((T + t : Nat) : Int) - (K' : Int) ≤ 0 := by omega
    have h9 : C * (((T + t : Nat) : Int) - (K' : Int)) ≤ c * (((T + t : Nat) : Int) - (K' : Int)) := by
      have h8 := Int.mul_nonneg (show 0 ≤ C - c by omega) (show 0 ≤ -(((T + t : Nat) : Int) - (K' : Int)) by omega)
      grind
    refine Int.le_trans h9 ?_
    rw [Int.natCast_add]
    rcases hk with ⟨k1, k2⟩ | ⟨k1, k2⟩
    · rw [k1, k2]
      grind
    · rw [k1, k2, Int.natCast_add]
      grind
theorem rooted_best {xs : List ArcR} {m r : Nat} {zs : List Int} (hx : ∀ j, j < xs.length → frN xs j < m + 1 ∧ toN xs j < m + 1) (hR : Rooted xs (m + 1) r zs) : (kruO xs (m + 1)).out.length = m ∧ (kruO xs (m + 1)).c ≤ costR xs zs (m + 1) := by
  have hcnt : cnt (ownB zs r (ordA xs)) (m + 1) = m := by
    have h1 : cnt (ownB zs r (ordA xs)) (m + 1) = cnt (fun v => true && decide (v ≠ r)) (m + 1) := cnt_congr _ fun v hv => by
      unfold ownB
      by_cases e : v = r
      · simp [e]
      · obtain ⟨b0, b1, _⟩ := hR.arcs v hv e
        have : zs.getD v 0 ∈ ordA xs := (ordA_perm xs).mem_iff.2 (seqI_in.2 ⟨by omega, by omega⟩)
        rw [decide_eq_true this, decide_eq_true (show v ≠ r from e)]
    have h2 := cnt_del (p := fun _ => true) (a := r) rfl (m + 1) hR.root
    have h3 := cnt_not (fun _ => true) (m + 1)
    have h4 : cnt (fun _ => !true) (m + 1) = 0 := cnt_none _ fun _ _ => rfl
    omega
  have hle := own_le hx hR (kinv_all hx)
  have hone := (kinv_one (kinv_all hx) (by omega)).1
  rw [hcnt] at hle
  have hlen : (kruO xs (m + 1)).out.length = m := by omega
  refine ⟨hlen, ?_⟩
  obtain ⟨C, hC⟩ : ∃ C : Int, ∀ i ∈ ordA xs, coA xs i ≤ C := by
    generalize ordA xs = L
    induction L with
    | nil => exact ⟨0, fun i hi => by cases hi⟩
    | cons a L ih =>
      obtain ⟨C, hC⟩ := ih
      refine ⟨max C (coA xs a), fun i hi => ?_⟩
      rcases List.mem_cons.1 hi with h | h
      · rw [h]; omega
      · have := hC i h; omega
  have hT := rooted_take hx hR (ordA xs).length (Nat.le_refl _) C (by rw [List.take_length]; exact hC)
  rw [List.take_length, hcnt] at hT
  have e1 : kru xs (ordA xs) ⟨seqI 0 (m + 1), [], 0⟩ = kruO xs (m + 1) := rfl
  rw [e1, hlen] at hT
  have e2 : ∀ n, n ≤ m + 1 → sumN n (ownC xs zs r (ordA xs)) = costR xs zs n := by
    intro n
    induction n with
    | zero => intro _; rfl
    | succ n ih =>
      intro hn
      rw [sumN, costR, ih (by omega)]
      unfold ownC ownB
      by_cases e : n = r
      · rw [if_neg (by simp [e]), if_pos (by rw [e]; exact hR.away)]; omega
      · obtain ⟨b0, b1, _⟩ := hR.arcs n (by omega) e
        have hmem : zs.getD n 0 ∈ ordA xs := (ordA_perm xs).mem_iff.2 (seqI_in.2 ⟨by omega, by omega⟩)
        rw [if_pos (by rw [decide_eq_true hmem, decide_eq_true (show n ≠ r from e)]; rfl), if_neg (by omega)]; rfl
  rw [e2 _ (Nat.le_refl _)] at hT
  have h0 : C * ((m : Int) - (m : Int)) = 0 := by rw [Int.sub_self]; omega
  omega
/-- what the search for a rooted tree tells -/
def GoodR (xs : List ArcR) (r N : Nat) (st : List Int × Int) : Prop := st.1.length = 0 ∨ (st.1.length = N ∧ ChR xs r st.1 ∧ (∀ k, k < st.1.length → k ≠ r → toA xs (st.1.getD k 0) = k) ∧ rootedR xs st.1 r N N = true ∧ st.2 = costR xs st.1 N)
theorem leafR_good {xs : List ArcR} {N r : Nat} {zs : List Int} {st : List Int × Int} (h : ChR xs r zs) (hl : zs.length = N) (ht : ∀ k, k < zs.length → k ≠ r → toA xs (zs.getD k 0) = k) (hs : GoodR xs r N st) : GoodR xs r N (leafR xs N r zs st) := by
  unfold leafR
  split
  · rename_i h2
    exact .inr ⟨hl, h, ht, h2.1, rfl⟩
  · exact hs
theorem rtTo_good {xs : List ArcR} {N r k : Nat} {G : List Int → List Int × Int → List Int × Int} {zs : List Int} {st : List Int × Int} (hG : ∀ (i : Nat) st, i < xs.length → (xs.getD i default).to_ = (k : Int) → GoodR xs r N st → GoodR xs r N (G (zs ++ [(i : Int)]) st)) (hs : GoodR xs r N st) : ∀ i, i ≤ xs.length → GoodR xs r N (rtTo xs k G zs st i)
  | 0, _ => hs
  | i + 1, hi => by
    unfold rtTo
    have ih := rtTo_good hG hs i (by omega)
    split
    · rename_i h; exact hG i _ (by omega) h ih
    · exact ih
theorem to_snoc {xs : List ArcR} {zs : List Int} {x : Int} {r : Nat} (ht : ∀ k, k < zs.length → k ≠ r → toA xs (zs.getD k 0) = k) (hx : zs.length ≠ r → toA xs x = zs.length) : ∀ k, k < (zs ++ [x]).length → k ≠ r → toA xs ((zs ++ [x]).getD k 0) = k := by
  intro k hk hne
  rw [List.length_append, List.length_singleton] at hk
  by_cases e : k < zs.length
  · rw [show (zs ++ [x]).getD k 0 = zs.getD k 0 by simp only [List.getD]; rw [List.getElem?_append_left e]]
    exact ht k e hne
  · have e2 : k = zs.length := by omega
    rw [e2, show (zs ++ [x]).getD zs.length 0 = x by simp [List.getD]]
    exact hx (by omega)
theorem rtF_good {xs : List ArcR} {N r : Nat} : ∀ (f : Nat) (zs : List Int) (st : List Int × Int), zs.length + f = N → ChR xs r zs → (∀ k, k < zs.length → k ≠ r → toA xs (zs.getD k 0) = k) → GoodR xs r N st → GoodR xs r N (rtF xs N r f zs st)
  | 0, zs, st, hl, h, ht, hs => leafR_good h (by omega) ht hs
  | f + 1, zs, st, hl, h, ht, hs => by
    unfold rtF
    split
    · rename_i e
      exact rtF_good f _ st (by rw [List.length_append, List.length_singleton]; omega) (h.root e) (to_snoc ht (fun h => absurd e h)) hs
    · rename_i e
      refine rtTo_good (r := r) (fun i st hi hto hs => ?_) hs _ (Nat.le_refl _)
      exact rtF_good f _ st (by rw [List.length_append, List.length_singleton]; omega) (h.arc e hi) (to_snoc ht (fun _ => by unfold toA; rw [Int.toNat_natCast, hto, Int.toNat_natCast])) hs
theorem rootedR_at {xs : List ArcR} {zs : List Int} {r N : Nat} : ∀ m, rootedR xs zs r N m = true → ∀ v, v < m → reachR xs zs r N v = true
  | 0, _, v, hv => by omega
  | m + 1, h, v, hv => by
    unfold rootedR at h
    rw [Bool.and_eq_true] at h
    by_cases e : v = m
    · rw [e]; exact h.2
    · exact rootedR_at m h.1 v (by omega)
theorem rooted_of {xs : List ArcR} {N r : Nat} (hr : r < N) {st : List Int × Int} (h : st = rtF xs N r N [] ([], 0)) (hne : st.1.length ≠ 0) : Rooted xs N r st.1 ∧ st.2 = costR xs st.1 N := by
  have hg := rtF_good (xs := xs) (N := N) (r := r) N [] ([], 0) (by simp) ChR.nil (fun k hk => by simp at hk) (.inl rfl)
  rw [← h] at hg
  rcases hg with hg | ⟨g1, g2, g3, g4, g5⟩
  · exact absurd hg hne
  · refine ⟨⟨hr, fun v hv hvr => ?_, fun v hv => ?_, ?_⟩, g5⟩
    · rcases g2 v (by omega) with ⟨e, _⟩ | ⟨_, a, b⟩
      · exact absurd e hvr
      · exact ⟨a, b, g3 v (by omega) hvr⟩
    · obtain ⟨s, _, hs⟩ := (reachR_iff _ _).1 (rootedR_at N g4 v hv)
      exact ⟨s, hs⟩
    · rcases g2 r (by omega) with ⟨_, e⟩ | ⟨e, _⟩
      · omega
      · exact absurd rfl e
end Go.Proofs.YtigaopfhjimpmaaDoor

namespace Go.Proofs.YtigaopfhjimpmaaDoor
open Go.RowKit

/-- a left over arc -/
structure LinkR where
  arc : Nat
  back : Bool
  fr : Int
  to_ : Int
  room : Int
  cost : Int
deriving DecidableEq
instance : Inhabited LinkR := ⟨⟨0, false, 0, 0, 0, 0⟩⟩
def LinkR.by_ (l : LinkR) : Int := if l.back then -1 else 1
/-- the cells of a link of the program -/
def LinkR.cells (l : LinkR) : List Value := [.int .i64 l.arc, .int .i64 l.by_, .int .i64 l.fr, .int .i64 l.to_, .int .i64 l.room, .int .i64 l.cost]
/-- the cells of a left over arc of the reference -/
def LinkR.cellsS (l : LinkR) : List Value := [.int .i64 l.fr, .int .i64 l.to_, .int .i64 l.room, .int .i64 l.cost, .int .i64 l.arc, .bool l.back]

/-- elements of s cells each -/
def flatV {α : Type} (f : α → List Value) (xs : List α) : List Value := xs.flatMap f
theorem flatV_len {α : Type} (f : α → List Value) (s : Nat) (hf : ∀ a, (f a).length = s) (xs : List α) : (flatV f xs).length = xs.length * s := by
  induction xs with
  | nil => simp [flatV]
  | cons x xs ih => simp only [flatV, List.flatMap_cons, List.length_append, List.length_cons] at *; rw [ih, hf, Nat.succ_mul]; omega
theorem flatV_get {α : Type} (f : α → List Value) (s : Nat) (hf : ∀ a, (f a).length = s) (d : α) : ∀ (xs : List α) (k i : Nat), k < xs.length → i < s → (flatV f xs)[k * s + i]? = (f (xs.getD k d))[i]?
  | [], k, i, h, _ => by simp at h
  | x :: xs, 0, i, _, hi => by
    simp only [flatV, List.flatMap_cons]
    rw [List.getElem?_append_left (by rw [hf]; omega)]
    simp
  | x :: xs, k + 1, i, h, hi => by
    have := flatV_get f s hf d xs k i (by simpa using h) hi
    simp only [flatV, List.flatMap_cons]
    rw [List.getElem?_append_right (by rw [hf, Nat.succ_mul]; omega), hf]
    rw [show (k + 1) * s + i - s = k * s + i by rw [Nat.succ_mul]; omega]
    simpa [flatV] using this
theorem flatV_append {α : Type} (f : α → List Value) (xs ys : List α) : flatV f xs ++ flatV f ys = flatV f (xs ++ ys) := by simp [flatV]
theorem flatV_one {α : Type} (f : α → List Value) (x : α) : flatV f [x] = f x := by simp [flatV]

def linksOf (i : Nat) (a : ArcR) (y : Int) : List LinkR := (if y < a.room then [⟨i, false, a.fr, a.to_, a.room - y, a.cost⟩] else []) ++ (if 0 < y then [⟨i, true, a.to_, a.fr, y, -a.cost⟩] else [])
/-- the links of the first k arcs -/
def linksTo (xs : List ArcR) (fl : List Int) (k : Nat) : List LinkR := (List.range k).flatMap fun i => linksOf i (xs.getD i default) (fl.getD i 0)
theorem linksTo_succ (xs : List ArcR) (fl : List Int) (k : Nat) : linksTo xs fl (k + 1) = linksTo xs fl k ++ linksOf k (xs.getD k default) (fl.getD k 0) := by
  unfold linksTo
  rw [List.range_succ, List.flatMap_append]; simp
theorem linksOf_len (i : Nat) (a : ArcR) (y : Int) : (linksOf i a y).length ≤ 2 := by
  unfold linksOf
  split <;> split <;> simp
theorem linksTo_len (xs : List ArcR) (fl : List Int) : ∀ k, (linksTo xs fl k).length ≤ 2 * k
  | 0 => by simp [linksTo]
  | k + 1 => by
    have := linksTo_len xs fl k
    have := linksOf_len k (xs.getD k default) (fl.getD k 0)
    rw [linksTo_succ, List.length_append]; omega
theorem linksOf_yy {i : Nat} {a : ArcR} {y : Int} (h1 : y < a.room) (h2 : 0 < y) : linksOf i a y = [⟨i, false, a.fr, a.to_, a.room - y, a.cost⟩] ++ [⟨i, true, a.to_, a.fr, y, -a.cost⟩] := by unfold linksOf; rw [if_pos h1, if_pos h2]
theorem linksOf_yn {i : Nat} {a : ArcR} {y : Int} (h1 : y < a.room) (h2 : ¬ 0 < y) : linksOf i a y = [⟨i, false, a.fr, a.to_, a.room - y, a.cost⟩] := by unfold linksOf; rw [if_pos h1, if_neg h2]; rfl
theorem linksOf_ny {i : Nat} {a : ArcR} {y : Int} (h1 : ¬ y < a.room) (h2 : 0 < y) : linksOf i a y = [⟨i, true, a.to_, a.fr, y, -a.cost⟩] := by unfold linksOf; rw [if_neg h1, if_pos h2]; rfl
theorem linksOf_nn {i : Nat} {a : ArcR} {y : Int} (h1 : ¬ y < a.room) (h2 : ¬ 0 < y) : linksOf i a y = [] := by unfold linksOf; rw [if_neg h1, if_neg h2]; rfl

/-- cells of one new block, as the source of an append -/
theorem src_one {w : World} {T : Nat} {cs : Array Value} (m : Nat) (hm : 0 < m) : 0 < m → ∃ bd, some (⟨w.heap.size, 0, none⟩ : Addr) = some bd ∧ ∀ j u, cs.toList[j]? = some u → (w.alloc (.cells cs T)).cell? (bd.add j) = some u := by
  intro _
  refine ⟨_, rfl, fun j u hj => ?_⟩
  have := (Blk.new w T cs).cell j
  have e : (⟨w.heap.size, 0, none⟩ : Addr).add j = ⟨w.heap.size, j, none⟩ := by
    unfold Addr.add
    split
    · rename_i h; rw [h]
    · simp
  rw [e, this, ← Array.getElem?_toList, hj]

theorem keepFar {w w' : World} {row : Option Nat} {a : Addr} {v : Value} (hg : w.grownBy w' row) (h : w.cell? a = some v) (hne : some a.block ≠ row) : w'.cell? a = some v :=
  (hg.cell_far a (World.block_lt_of_cell? w _ h) hne).trans h
theorem ne_own {A : Option Addr} {n c b : Nat} (h : ∀ ad, A = some ad → ad.block ≠ b) : some b ≠ (Value.slice A n c).ownBlock := by
  cases A with
  | none => intro h2; cases h2
  | some ad => intro h2; injection h2 with h2; exact h ad rfl h2.symm
theorem below_grown {B base T size n c : Nat} {a w w' : World} {A : Option Addr} {vs : List Value} (hb : Below B a w) (hB : B ≤ w.heap.size) (hg : w.grownBy w' (Value.slice A n c).ownBlock) (ho : OwnC T base size w A n c vs) (hbase : B ≤ base) : Below B a w' := by
  refine below_blkC hb hB ((Upd.refl _ _).grown hg ?_) ho hbase
  intro k hk
  cases A with
  | none => cases hk
  | some ad => injection hk with hk; exact .inl ⟨ad, rfl, hk⟩

end Go.Proofs.YtigaopfhjimpmaaDoor

namespace Go.Proofs.YtigaopfhjimpmaaDoor
open Go.RowKit

/-- one node's round: the first k links -/
def scanTo (ls : List LinkR) (u : Int) (st : List Int × List Int) : Nat → List Int × List Int
  | 0 => st
  | k + 1 => if (ls.getD k default).fr = u ∧ (scanTo ls u st k).1.getD (ls.getD k default).to_.toNat 0 = -2 then ((scanTo ls u st k).1.set (ls.getD k default).to_.toNat (k : Int), (scanTo ls u st k).2 ++ [(ls.getD k default).to_]) else scanTo ls u st k
/-- the rounds of the first i nodes of the queue -/
def bfsTo (ls : List LinkR) (N f : Nat) : Nat → List Int × List Int
  | 0 => ((List.replicate N (-2)).set f (-1), [(f : Int)])
  | i + 1 => if i < (bfsTo ls N f i).2.length then scanTo ls ((bfsTo ls N f i).2.getD i 0) (bfsTo ls N f i) ls.length else bfsTo ls N f i
/-- by which link each node is reached: -1 the first one, -2 not at all -/
def reachL (ls : List LinkR) (N f : Nat) : List Int := (bfsTo ls N f N).1
theorem scan_yes {ls : List LinkR} {u : Int} {st : List Int × List Int} {k : Nat} (h1 : (ls.getD k default).fr = u) (h2 : (scanTo ls u st k).1.getD (ls.getD k default).to_.toNat 0 = -2) :
    scanTo ls u st (k + 1) = ((scanTo ls u st k).1.set (ls.getD k default).to_.toNat (k : Int), (scanTo ls u st k).2 ++ [(ls.getD k default).to_]) := by rw [scanTo, if_pos ⟨h1, h2⟩]
theorem scan_no1 {ls : List LinkR} {u : Int} {st : List Int × List Int} {k : Nat} (h1 : ¬ (ls.getD k default).fr = u) : scanTo ls u st (k + 1) = scanTo ls u st k := by rw [scanTo, if_neg (fun h => h1 h.1)]
theorem scan_no2 {ls : List LinkR} {u : Int} {st : List Int × List Int} {k : Nat} (h2 : ¬ (scanTo ls u st k).1.getD (ls.getD k default).to_.toNat 0 = -2) : scanTo ls u st (k + 1) = scanTo ls u st k := by rw [scanTo, if_neg (fun h => h2 h.2)]

/-- ends of links are nodes -/
def LinksOk (ls : List LinkR) (N : Nat) : Prop := ∀ k, k < ls.length → (0 ≤ (ls.getD k default).fr ∧ (ls.getD k default).fr < N) ∧ (0 ≤ (ls.getD k default).to_ ∧ (ls.getD k default).to_ < N)

/-- what a state of the rounds is like -/
structure BfsOk (ls : List LinkR) (N f : Nat) (st : List Int × List Int) : Prop where
  len : st.1.length = N
  cnt : st.2.length + st.1.countP (fun b => b == -2) = N
  pos : 1 ≤ st.2.length
  q0 : st.2.getD 0 0 = f
  qin : ∀ j, j < st.2.length → 0 ≤ st.2.getD j 0 ∧ st.2.getD j 0 < N
  byf : ∀ v, v < N → st.1.getD v 0 = -1 → v = f
  fby : st.1.getD f 0 = -1
  bd : ∀ v, v < N → -2 ≤ st.1.getD v 0 ∧ st.1.getD v 0 < ls.length
  inq : ∀ v, v < N → st.1.getD v 0 ≠ -2 → ∃ p, p < st.2.length ∧ st.2.getD p 0 = v
  by_ : ∀ p, p < st.2.length → 0 < p → ∃ k, k < ls.length ∧ st.1.getD (st.2.getD p 0).toNat 0 = k ∧ (ls.getD k default).to_ = st.2.getD p 0 ∧ ∃ p', p' < p ∧ st.2.getD p' 0 = (ls.getD k default).fr

theorem getD_set' (zs : List Int) (i j : Nat) (x : Int) (h : i < zs.length) : (zs.set i x).getD j 0 = if i = j then x else zs.getD j 0 := by
  simp only [List.getD, List.getElem?_set]
  by_cases e : i = j
  · subst e; simp [h]
  · simp [e]
theorem getD_snoc_lt {zs : List Int} {x : Int} {j : Nat} (h : j < zs.length) : (zs ++ [x]).getD j 0 = zs.getD j 0 := by
  simp [List.getD, List.getElem?_append_left h]
theorem getD_snoc_eq {zs : List Int} {x : Int} {j : Nat} (h : j = zs.length) : (zs ++ [x]).getD j 0 = x := by
  subst h
  simp [List.getD]
theorem countP_set2 (zs : List Int) (i : Nat) (x : Int) (h : i < zs.length) (h1 : zs.getD i 0 = -2) (hx : x ≠ -2) : (zs.set i x).countP (fun b => b == -2) + 1 = zs.countP (fun b => b == -2) := by
  induction zs generalizing i with
  | nil => simp at h
  | cons z zs ih =>
    cases i with
    | zero =>
      have hz : z = -2 := by simpa [List.getD] using h1
      subst hz
      have hx' : (x == -2) = false := by simpa using hx
      simp [List.countP_cons, hx']
    | succ i =>
      have := ih i (by simpa using h) (by simpa [List.getD] using h1)
      simp only [List.set_cons_succ, List.countP_cons] at *
      omega

theorem bfs_start {ls : List LinkR} {N f : Nat} (hf : f < N) : BfsOk ls N f (bfsTo ls N f 0) := by
  have hl : (List.replicate N (-2 : Int)).length = N := by simp
  have hg : ∀ v, v < N → (List.replicate N (-2 : Int)).getD v 0 = -2 := fun v hv => by simp [List.getD, hv]
  have hs : ∀ v, ((List.replicate N (-2 : Int)).set f (-1)).getD v 0 = if f = v then -1 else (List.replicate N (-2 : Int)).getD v 0 := fun v => getD_set' _ f v _ (by rw [hl]; exact hf)
  constructor
  · simp [bfsTo]
  · have := countP_set2 (List.replicate N (-2 : Int)) f (-1) (by simpa using hf) (hg f hf) (by decide)
    simp only [bfsTo, List.length_singleton]
    rw [List.countP_replicate] at this
    simp at this
    omega
  · simp [bfsTo]
  · simp [bfsTo]
  · intro j hj
    have hj0 : j = 0 := by simp [bfsTo] at hj; exact hj
    subst hj0
    simp [bfsTo]; omega
  · intro v hv h
    simp only [bfsTo] at h
    rw [hs v] at h
    by_cases e : f = v
    · exact e.symm
    · rw [if_neg e, hg v hv] at h; exact absurd h (by decide)
  · simp only [bfsTo]; rw [hs f, if_pos rfl]
  · intro v hv
    simp only [bfsTo]
    rw [hs v]
    split
    · omega
    · rw [hg v hv]; omega
  · intro v hv h
    simp only [bfsTo] at h ⊢
    rw [hs v] at h
    by_cases e : f = v
    · exact ⟨0, by simp, by simp [e]⟩
    · rw [if_neg e, hg v hv] at h; exact absurd rfl h
  · intro p hp h0
    simp [bfsTo] at hp
    omega

theorem bfs_scan {ls : List LinkR} {N f i : Nat} (hls : LinksOk ls N) {st : List Int × List Int} (h : BfsOk ls N f st) (hi : i < st.2.length) (u : Int) (hu : st.2.getD i 0 = u) :
    ∀ k, k ≤ ls.length → BfsOk ls N f (scanTo ls u st k) ∧ i < (scanTo ls u st k).2.length ∧ (scanTo ls u st k).2.getD i 0 = u
  | 0, _ => ⟨h, hi, hu⟩
  | k + 1, hk => by
    obtain ⟨h, hi, hu⟩ := bfs_scan hls h hi u hu k (by omega)
    obtain ⟨⟨a0, a1⟩, ⟨b0, b1⟩⟩ := hls k (by omega)
    by_cases h1 : (ls.getD k default).fr = u
    · by_cases h2 : (scanTo ls u st k).1.getD (ls.getD k default).to_.toNat 0 = -2
      · rw [scan_yes h1 h2]
        generalize scanTo ls u st k = s at *
        generalize hl : ls.getD k default = l at *
        have htN : l.to_.toNat < N := by omega
        have hset : ∀ v, (s.1.set l.to_.toNat (k : Int)).getD v 0 = if l.to_.toNat = v then (k : Int) else s.1.getD v 0 := fun v => getD_set' _ _ v _ (by rw [h.len]; exact htN)
        have hne : l.to_.toNat ≠ f := fun e => by rw [e, h.fby] at h2; exact absurd h2 (by decide)
        refine ⟨?_, ?_, ?_⟩
        · constructor
          · simp [h.len]
          · have := countP_set2 s.1 l.to_.toNat (k : Int) (by rw [h.len]; exact htN) h2 (by omega)
            have := h.cnt
            simp only [List.length_append, List.length_singleton]
            omega
          · simp
          · show (s.2 ++ [l.to_]).getD 0 0 = f
            rw [getD_snoc_lt (by have := h.pos; omega)]; exact h.q0
          · intro j hj
            simp only [List.length_append, List.length_singleton] at hj
            by_cases e : j < s.2.length
            · show 0 ≤ (s.2 ++ [l.to_]).getD j 0 ∧ (s.2 ++ [l.to_]).getD j 0 < N
              rw [getD_snoc_lt e]; exact h.qin j e
            · show 0 ≤ (s.2 ++ [l.to_]).getD j 0 ∧ (s.2 ++ [l.to_]).getD j 0 < N
              rw [getD_snoc_eq (by omega)]; omega
          · intro v hv hvv
            have hvv' : (s.1.set l.to_.toNat (k : Int)).getD v 0 = -1 := hvv
            rw [hset v] at hvv'
            by_cases e : l.to_.toNat = v
            · rw [if_pos e] at hvv'; omega
            · rw [if_neg e] at hvv'; exact h.byf v hv hvv'
          · show (s.1.set l.to_.toNat (k : Int)).getD f 0 = -1
            rw [hset f, if_neg hne]; exact h.fby
          · intro v hv
            show -2 ≤ (s.1.set l.to_.toNat (k : Int)).getD v 0 ∧ (s.1.set l.to_.toNat (k : Int)).getD v 0 < ls.length
            rw [hset v]
            split
            · omega
            · exact h.bd v hv
          · intro v hv hvv
            have hvv' : (s.1.set l.to_.toNat (k : Int)).getD v 0 ≠ -2 := hvv
            rw [hset v] at hvv'
            by_cases e : l.to_.toNat = v
            · refine ⟨s.2.length, by simp, ?_⟩
              show (s.2 ++ [l.to_]).getD s.2.length 0 = v
              rw [getD_snoc_eq rfl]; omega
            · rw [if_neg e] at hvv'
              obtain ⟨p, hp, hp2⟩ := h.inq v hv hvv'
              refine ⟨p, by simp; omega, ?_⟩
              show (s.2 ++ [l.to_]).getD p 0 = v
              rw [getD_snoc_lt hp]; exact hp2
          · intro p hp hp0
            simp only [List.length_append, List.length_singleton] at hp
            show ∃ k', k' < ls.length ∧ (s.1.set l.to_.toNat (k : Int)).getD ((s.2 ++ [l.to_]).getD p 0).toNat 0 = k' ∧ (ls.getD k' default).to_ = (s.2 ++ [l.to_]).getD p 0 ∧ ∃ p', p' < p ∧ (s.2 ++ [l.to_]).getD p' 0 = (ls.getD k' default).fr
            by_cases e : p < s.2.length
            · obtain ⟨k', e1, e2, e3, p', e4, e5⟩ := h.by_ p e hp0
              have hpi := h.qin p e
              rw [getD_snoc_lt e]
              refine ⟨k', e1, ?_, e3, p', e4, by rw [getD_snoc_lt (by omega)]; exact e5⟩
              rw [hset]
              by_cases e6 : l.to_.toNat = (s.2.getD p 0).toNat
              · rw [← e6, h2] at e2; omega
              · rw [if_neg e6]; exact e2
            · rw [getD_snoc_eq (by omega)]
              refine ⟨k, by omega, by rw [hset, if_pos rfl], by rw [hl], i, by omega, ?_⟩
              rw [getD_snoc_lt hi, hu, hl, h1]
        · simp; omega
        · show (s.2 ++ [l.to_]).getD i 0 = u
          rw [getD_snoc_lt hi]; exact hu
      · rw [scan_no2 h2]; exact ⟨h, hi, hu⟩
    · rw [scan_no1 h1]; exact ⟨h, hi, hu⟩

theorem bfs_ok {ls : List LinkR} {N f : Nat} (hls : LinksOk ls N) (hf : f < N) : ∀ i, BfsOk ls N f (bfsTo ls N f i)
  | 0 => bfs_start hf
  | i + 1 => by
    have h := bfs_ok hls hf i
    rw [bfsTo]
    split
    · rename_i hi
      exact (bfs_scan hls h hi _ rfl ls.length (Nat.le_refl _)).1
    · exact h
theorem bfs_step {ls : List LinkR} {N f i : Nat} (hi : i < (bfsTo ls N f i).2.length) : bfsTo ls N f (i + 1) = scanTo ls ((bfsTo ls N f i).2.getD i 0) (bfsTo ls N f i) ls.length := by rw [bfsTo, if_pos hi]
theorem bfs_len {ls : List LinkR} {N f : Nat} (hls : LinksOk ls N) (hf : f < N) (i : Nat) : (bfsTo ls N f i).2.length ≤ N := by
  have := (bfs_ok hls hf i).cnt
  omega
theorem bfs_stay {ls : List LinkR} {N f i : Nat} (hi : ¬ i < (bfsTo ls N f i).2.length) : ∀ d, bfsTo ls N f (i + d) = bfsTo ls N f i
  | 0 => rfl
  | d + 1 => by
    have ih := bfs_stay hi d
    rw [← Nat.add_assoc, bfsTo, ih, if_neg (by omega)]
theorem bfs_done {ls : List LinkR} {N f i : Nat} (hi : ¬ i < (bfsTo ls N f i).2.length) (hN : i ≤ N) : bfsTo ls N f N = bfsTo ls N f i := by
  have := bfs_stay hi (N - i)
  rwa [show i + (N - i) = N from by omega] at this
theorem getDL_mem {α} {l : List α} {k : Nat} {d : α} (h : k < l.length) : l.getD k d ∈ l := by
  simp [List.getD, List.getElem?_eq_getElem h]
theorem linksTo_ok {nodes : Int} {xs : List ArcR} (fl : List Int) {N : Nat} (hN : nodes = N) (h : validB nodes xs = true) : ∀ n, n ≤ xs.length → LinksOk (linksTo xs fl n) N
  | 0, _ => fun k hk => by simp [linksTo] at hk
  | n + 1, hn => by
    have ih := linksTo_ok fl hN h n (by omega)
    obtain ⟨_, _, _, hb⟩ := valid_bd h
    obtain ⟨h1, h2, _⟩ := hb n (by omega)
    intro k hk
    rw [linksTo_succ] at hk ⊢
    have hof : ∀ l ∈ linksOf n (xs.getD n default) (fl.getD n 0), (0 ≤ l.fr ∧ l.fr < N) ∧ (0 ≤ l.to_ ∧ l.to_ < N) := by
      generalize xs.getD n default = a at *
      generalize fl.getD n 0 = y at *
      intro l hl
      unfold linksOf at hl
      rw [List.mem_append] at hl
      rcases hl with hl | hl <;> split at hl <;> simp at hl <;> subst hl <;> (show (_ ∧ _) ∧ (_ ∧ _)) <;> (simp only []; omega)
    by_cases e : k < (linksTo xs fl n).length
    · have e2 : (linksTo xs fl n ++ linksOf n (xs.getD n default) (fl.getD n 0)).getD k default = (linksTo xs fl n).getD k default := by simp [List.getD, List.getElem?_append_left e]
      rw [e2]; exact ih k e
    · rw [List.length_append] at hk
      have e2 : (linksTo xs fl n ++ linksOf n (xs.getD n default) (fl.getD n 0)).getD k default = (linksOf n (xs.getD n default) (fl.getD n 0)).getD (k - (linksTo xs fl n).length) default := by simp [List.getD, List.getElem?_append_right (show (linksTo xs fl n).length ≤ k by omega)]
      rw [e2]
      apply hof
      exact getDL_mem (by omega)
end Go.Proofs.YtigaopfhjimpmaaDoor

namespace Go.Proofs.YtigaopfhjimpmaaDoor
open Go.RowKit

end Go.Proofs.YtigaopfhjimpmaaDoor

namespace Go.Proofs.YtigaopfhjimpmaaDoor
open Go.RowKit

def zero6 : List Value := [.int .i64 0, .int .i64 0, .int .i64 0, .int .i64 0, .int .i64 0, .int .i64 0]
/-- the last link of a node -/
def lastC (ls : List LinkR) (b : Int) : List Value := if b < 0 then zero6 else LinkR.cells (ls.getD b.toNat default)
theorem lastC_len (ls : List LinkR) (b : Int) : (lastC ls b).length = 6 := by unfold lastC; split <;> rfl
def reachV (b : Int) : Value := .bool (b != -2)
theorem flatV_set6 {α : Type} (f : α → List Value) : ∀ (xs : List α) (k : Nat) (a : α) (c0 c1 c2 c3 c4 c5 : Value), (∀ a, (f a).length = 6) → f a = [c0, c1, c2, c3, c4, c5] → k < xs.length →
    ((((((flatV f xs).set (k * 6) c0).set (k * 6 + 1) c1).set (k * 6 + 2) c2).set (k * 6 + 3) c3).set (k * 6 + 4) c4).set (k * 6 + 5) c5 = flatV f (xs.set k a)
  | [], k, a, _, _, _, _, _, _, _, _, h => by simp at h
  | x :: xs, 0, a, c0, c1, c2, c3, c4, c5, hf, ha, _ => by
    have hx := hf x
    match hm : f x, hx with
    | [y0, y1, y2, y3, y4, y5], _ => simp [flatV, hm, ha]
  | x :: xs, k + 1, a, c0, c1, c2, c3, c4, c5, hf, ha, h => by
    have ih := flatV_set6 f xs k a c0 c1 c2 c3 c4 c5 hf ha (by simpa using h)
    have hx := hf x
    match hm : f x, hx with
    | [y0, y1, y2, y3, y4, y5], _ =>
      simp only [flatV, List.flatMap_cons, hm, List.cons_append, List.nil_append, List.set_cons_succ] at ih ⊢
      rw [← ih]
      rw [show (k + 1) * 6 = k * 6 + 1 + 1 + 1 + 1 + 1 + 1 from by omega]
      simp only [List.set_cons_succ]
theorem ints_getD {T base : Nat} {w : World} {ad : Addr} {n c : Nat} {zs : List Int} {x : Int} (h : OwnI T base w (some ad) n c zs) (i : Nat) (hi : i < n) (hx : w.cell? (ad.add i) = some (.int .i64 x)) : zs.getD i 0 = x := by
  have := (ints_cell h.ints hi).symm.trans hx
  injection this with this
  injection this
/-- the cells of the j-th link of a slice of links -/
theorem link_cells {T base g m q : Nat} {w : World} {ls : List LinkR} (h : OwnC T base 6 w (some ⟨g, 0, none⟩) m q (flatV LinkR.cells ls)) {j : Nat} (hj : j < m) :
    w.cell? ⟨g, j * 6, none⟩ = some (.int .i64 (ls.getD j default).arc) ∧ w.cell? ⟨g, j * 6 + 1, none⟩ = some (.int .i64 (ls.getD j default).by_) ∧ w.cell? ⟨g, j * 6 + 2, none⟩ = some (.int .i64 (ls.getD j default).fr) ∧
    w.cell? ⟨g, j * 6 + 3, none⟩ = some (.int .i64 (ls.getD j default).to_) ∧ w.cell? ⟨g, j * 6 + 4, none⟩ = some (.int .i64 (ls.getD j default).room) ∧ w.cell? ⟨g, j * 6 + 5, none⟩ = some (.int .i64 (ls.getD j default).cost) := by
  have hl : ls.length = m := by
    have := OwnC.len h
    rw [flatV_len LinkR.cells 6 (fun _ => rfl)] at this
    omega
  have key : ∀ i, i < 6 → w.cell? ⟨g, j * 6 + i, none⟩ = (ls.getD j default).cells[i]? := fun i hi => by
    rw [OwnC.cell h (by omega), flatV_get LinkR.cells 6 (fun _ => rfl) default ls j i (by omega) hi]
  exact ⟨key 0 (by omega), key 1 (by omega), key 2 (by omega), key 3 (by omega), key 4 (by omega), key 5 (by omega)⟩

theorem bools_rep (N : Nat) : (madeCells (Value.bool false).cells (N * 1)).toList = List.replicate N (.bool false) := by
  show (madeCells #[Value.bool false] (N * 1)).toList = _
  rw [toList_madeCells_one]; simp
theorem reachV_get {by_ : List Int} {v N : Nat} (hl : by_.length = N) (h : v < N) : (by_.map reachV)[v]? = some (.bool (by_.getD v 0 != -2)) := by
  rw [List.getElem?_map, List.getElem?_eq_getElem (by omega)]
  simp [reachV, List.getD, List.getElem?_eq_getElem (show v < by_.length by omega)]
theorem reachV_set {by_ : List Int} {v k : Nat} : (by_.map reachV).set v (.bool true) = (by_.set v (k : Int)).map reachV := by
  rw [List.map_set]
  congr 1
theorem zero6_rep (N : Nat) : (madeCells (Value.agg #[.int .i64 0, .int .i64 0, .int .i64 0, .int .i64 0, .int .i64 0, .int .i64 0]).cells (N * 6)).toList = flatV (fun _ => zero6) (List.replicate N (0 : Int)) := by
  apply List.ext_getElem?
  intro j
  by_cases hj : j < N * 6
  · have hk : j / 6 < N := by omega
    have := flatV_get (fun _ => zero6) 6 (fun _ => rfl) (0 : Int) (List.replicate N 0) (j / 6) (j % 6) (by simpa using hk) (by omega)
    rw [show j / 6 * 6 + j % 6 = j from by omega] at this
    rw [this]
    rw [Array.getElem?_toList]
    simp only [madeCells, Value.cells, Array.getElem?_map, Array.getElem?_range]
    rw [if_pos hj]
    have : j % 6 = 0 ∨ j % 6 = 1 ∨ j % 6 = 2 ∨ j % 6 = 3 ∨ j % 6 = 4 ∨ j % 6 = 5 := by omega
    rcases this with h | h | h | h | h | h <;> simp [h, zero6]
  · rw [List.getElem?_eq_none (by simp [size_madeCells]; omega), List.getElem?_eq_none (by rw [flatV_len _ 6 (fun _ => rfl)]; simp; omega)]
theorem flatV_congr {α β : Type} {f : α → List Value} {g : β → List Value} {xs : List α} {ys : List β} (h : xs.map f = ys.map g) : flatV f xs = flatV g ys := by
  unfold flatV; rw [List.flatMap_def, List.flatMap_def, h]
theorem last_start (ls : List LinkR) (N f : Nat) (hf : f < N) : flatV (fun _ => zero6) (List.replicate N (0 : Int)) = flatV (lastC ls) (bfsTo ls N f 0).1 := by
  apply flatV_congr
  apply List.ext_getElem (by simp [bfsTo])
  intro j h1 h2
  simp only [bfsTo, List.getElem_map, List.getElem_replicate, List.getElem_set]
  split <;> simp [lastC]
theorem reach_start (ls : List LinkR) (N f : Nat) (hf : f < N) : (List.replicate N (Value.bool false)).set f (.bool true) = (bfsTo ls N f 0).1.map reachV := by
  apply List.ext_getElem (by simp [bfsTo])
  intro j h1 h2
  simp only [bfsTo, List.getElem_map, List.getElem_replicate, List.getElem_set]
  split <;> simp [reachV]

theorem last_cell {T base g N v : Nat} {w : World} {ls : List LinkR} {by_ : List Int} (h : OwnC T base 6 w (some ⟨g, 0, none⟩) N N (flatV (lastC ls) by_)) (hl : by_.length = N) (hv : v < N) (i : Nat) (hi : i < 6) :
    w.cell? ⟨g, v * 6 + i, none⟩ = some ((lastC ls (by_.getD v 0))[i]'(by rw [lastC_len]; exact hi)) := by
  rw [OwnC.cell h (by omega), flatV_get (lastC ls) 6 (lastC_len ls) 0 by_ v i (by omega) hi, List.getElem?_eq_getElem (by rw [lastC_len]; exact hi)]
end Go.Proofs.YtigaopfhjimpmaaDoor

namespace Go.Proofs.YtigaopfhjimpmaaDoor
open Go.RowKit

/-- the cells of the j-th left over arc of a slice -/
theorem left_cells {T base g m q : Nat} {w : World} {ls : List LinkR} (h : OwnC T base 6 w (some ⟨g, 0, none⟩) m q (flatV LinkR.cellsS ls)) {j : Nat} (hj : j < m) :
    w.cell? ⟨g, j * 6, none⟩ = some (.int .i64 (ls.getD j default).fr) ∧ w.cell? ⟨g, j * 6 + 1, none⟩ = some (.int .i64 (ls.getD j default).to_) ∧ w.cell? ⟨g, j * 6 + 2, none⟩ = some (.int .i64 (ls.getD j default).room) ∧
    w.cell? ⟨g, j * 6 + 3, none⟩ = some (.int .i64 (ls.getD j default).cost) ∧ w.cell? ⟨g, j * 6 + 4, none⟩ = some (.int .i64 (ls.getD j default).arc) ∧ w.cell? ⟨g, j * 6 + 5, none⟩ = some (.bool (ls.getD j default).back) := by
  have hl : ls.length = m := by
    have := OwnC.len h
    rw [flatV_len LinkR.cellsS 6 (fun _ => rfl)] at this
    omega
  have key : ∀ i, i < 6 → w.cell? ⟨g, j * 6 + i, none⟩ = (ls.getD j default).cellsS[i]? := fun i hi => by
    rw [OwnC.cell h (by omega), flatV_get LinkR.cellsS 6 (fun _ => rfl) default ls j i (by omega) hi]
  exact ⟨key 0 (by omega), key 1 (by omega), key 2 (by omega), key 3 (by omega), key 4 (by omega), key 5 (by omega)⟩
theorem rep_snoc (k : Nat) (x : Int) : List.replicate k x ++ [x] = List.replicate (k + 1) x := by
  rw [List.replicate_succ']

end Go.Proofs.YtigaopfhjimpmaaDoor

namespace Go.Proofs.YtigaopfhjimpmaaDoor
open Go.RowKit

/-- links, the last one first, that lead back from a node to f, as 'by' tells -/
def Path (ls : List LinkR) (by_ : List Int) (N : Nat) (f : Int) : List LinkR → Int → Prop
  | [], at_ => at_ = f
  | l :: ws, at_ => ¬ at_ = f ∧ (0 ≤ at_ ∧ at_ < N) ∧ (∃ k : Nat, by_.getD at_.toNat 0 = k ∧ k < ls.length ∧ ls.getD k default = l) ∧ Path ls by_ N f ws l.fr
/-- what is let along a way -/
def amtOf : List LinkR → Int → Int
  | [], m => m
  | l :: ws, m => amtOf ws (min m l.room)
def pushOne (fl : List Int) (l : LinkR) (x : Int) : List Int := fl.set l.arc (fl.getD l.arc 0 + l.by_ * x)
def pushAll : List LinkR → Int → List Int → List Int
  | [], _, fl => fl
  | l :: ws, x, fl => pushAll ws x (pushOne fl l x)
/-- numbers stay small along a way -/
def PushOk (n : Nat) (x : Int) : List LinkR → List Int → Prop
  | [], _ => True
  | l :: ws, fl => l.arc < n ∧ (0 ≤ fl.getD l.arc 0 ∧ fl.getD l.arc 0 ≤ 1000000) ∧ PushOk n x ws (pushOne fl l x)
theorem pushOne_len (fl : List Int) (l : LinkR) (x : Int) : (pushOne fl l x).length = fl.length := by simp [pushOne]
theorem pushAll_len (x : Int) : ∀ (ws : List LinkR) (fl : List Int), (pushAll ws x fl).length = fl.length
  | [], fl => rfl
  | l :: ws, fl => by rw [pushAll, pushAll_len x ws, pushOne_len]
theorem amtOf_le : ∀ (ws : List LinkR) (m : Int), amtOf ws m ≤ m ∧ ∀ l ∈ ws, amtOf ws m ≤ l.room
  | [], m => ⟨Int.le_refl _, fun l h => nomatch h⟩
  | l :: ws, m => by
    obtain ⟨h1, h2⟩ := amtOf_le ws (min m l.room)
    rw [amtOf]
    refine ⟨by omega, fun l' h => ?_⟩
    rcases List.mem_cons.1 h with h | h
    · subst h; omega
    · exact h2 l' h
theorem amtOf_ge {b : Int} : ∀ (ws : List LinkR) (m : Int), b ≤ m → (∀ l ∈ ws, b ≤ l.room) → b ≤ amtOf ws m
  | [], m, h, _ => h
  | l :: ws, m, h, h2 => by
    rw [amtOf]
    have := h2 l (by simp)
    exact amtOf_ge ws _ (by omega) fun l' h' => h2 l' (by simp [h'])
theorem amtOf_big {l : LinkR} {ws : List LinkR} {m m' : Int} (h : l.room ≤ m) (h' : l.room ≤ m') : amtOf (l :: ws) m = amtOf (l :: ws) m' := by
  rw [amtOf, amtOf, show min m l.room = l.room by omega, show min m' l.room = l.room by omega]

/-- what a link is, of its arc -/
def LinkIs (xs : List ArcR) (fl : List Int) (n : Nat) (l : LinkR) : Prop :=
  l.arc < n ∧ 0 < l.room ∧ ((l.back = false ∧ l.fr = (xs.getD l.arc default).fr ∧ l.to_ = (xs.getD l.arc default).to_ ∧ l.room = (xs.getD l.arc default).room - fl.getD l.arc 0) ∨
    (l.back = true ∧ l.fr = (xs.getD l.arc default).to_ ∧ l.to_ = (xs.getD l.arc default).fr ∧ l.room = fl.getD l.arc 0))
theorem linksTo_is (xs : List ArcR) (fl : List Int) : ∀ n, ∀ l ∈ linksTo xs fl n, LinkIs xs fl n l
  | 0, l, h => by simp [linksTo] at h
  | n + 1, l, h => by
    rw [linksTo_succ, List.mem_append] at h
    rcases h with h | h
    · obtain ⟨h1, h2, h3⟩ := linksTo_is xs fl n l h
      exact ⟨by omega, h2, h3⟩
    · unfold linksOf at h
      rw [List.mem_append] at h
      rcases h with h | h
      · split at h
        · rename_i hlt
          simp only [List.mem_singleton] at h
          subst h
          exact ⟨by show n < n + 1; omega, by show 0 < (xs.getD n default).room - fl.getD n 0; omega, .inl ⟨rfl, rfl, rfl, rfl⟩⟩
        · simp at h
      · split at h
        · rename_i hlt
          simp only [List.mem_singleton] at h
          subst h
          exact ⟨by show n < n + 1; omega, by show 0 < fl.getD n 0; omega, .inr ⟨rfl, rfl, rfl, rfl⟩⟩
        · simp at h

/-- queues hold each node once -/
theorem bfs_nodup {ls : List LinkR} {N f : Nat} (hls : LinksOk ls N) (hf : f < N) : ∀ i, (bfsTo ls N f i).2.Nodup
  | 0 => by simp [bfsTo]
  | i + 1 => by
    have ih := bfs_nodup hls hf i
    have hok := bfs_ok hls hf i
    rw [bfsTo]
    split
    · rename_i hi
      have key : ∀ k, k ≤ ls.length → (scanTo ls ((bfsTo ls N f i).2.getD i 0) (bfsTo ls N f i) k).2.Nodup := by
        intro k
        induction k with
        | zero => intro _; exact ih
        | succ k ihk =>
          intro hk
          have ihk := ihk (by omega)
          obtain ⟨hs, _, _⟩ := bfs_scan hls hok hi _ rfl k (by omega)
          rw [scanTo]
          split
          · rename_i hc
            generalize scanTo ls ((bfsTo ls N f i).2.getD i 0) (bfsTo ls N f i) k = s at *
            rw [List.nodup_append]
            refine ⟨ihk, by simp, ?_⟩
            intro a ha b hb
            simp only [List.mem_singleton] at hb
            subst hb
            intro e
            obtain ⟨p, hp, hpe⟩ := List.mem_iff_getElem.1 ha
            have hpd : s.2.getD p 0 = a := by simp [List.getD, List.getElem?_eq_getElem hp, hpe]
            have h2 := hc.2
            rw [← e, ← hpd] at h2
            rcases Nat.eq_zero_or_pos p with h0 | h0
            · subst h0
              rw [hs.q0, Int.toNat_natCast, hs.fby] at h2
              exact absurd h2 (by decide)
            · obtain ⟨k', _, e2, _⟩ := hs.by_ p hp h0
              rw [e2] at h2
              omega
          · exact ihk
      exact key ls.length (Nat.le_refl _)
    · exact ih
theorem nodup_at {zs : List Int} (h : zs.Nodup) {i j : Nat} (hi : i < zs.length) (hj : j < zs.length) (e : zs.getD i 0 = zs.getD j 0) : i = j := by
  simp only [List.getD, List.getElem?_eq_getElem hi, List.getElem?_eq_getElem hj, Option.getD_some] at e
  exact (List.getElem_inj h).1 e

/-- the way to the p-th node of the queue -/
theorem way_of {ls : List LinkR} {N f : Nat} {st : List Int × List Int} (hok : BfsOk ls N f st) (hnd : st.2.Nodup) : ∀ (p b : Nat), p ≤ b → p < st.2.length →
    ∃ ws : List LinkR, Path ls st.1 N f ws (st.2.getD p 0) ∧ ws.length ≤ p ∧ (p = 0 → ws = []) ∧ (0 < p → ∃ l ws', ws = l :: ws') ∧
      (∀ l ∈ ws, l ∈ ls ∧ ∃ i j, i < j ∧ j ≤ p ∧ st.2.getD i 0 = l.fr ∧ st.2.getD j 0 = l.to_) ∧ ws.Pairwise (fun l1 l2 => ∃ i j j', j' ≤ i ∧ i < j ∧ j ≤ p ∧ st.2.getD j 0 = l1.to_ ∧ st.2.getD i 0 = l1.fr ∧ st.2.getD j' 0 = l2.to_ ∧ ∃ i', i' < j' ∧ st.2.getD i' 0 = l2.fr)
  | p, 0, hb, hp => by
    have e : p = 0 := by omega
    subst e
    exact ⟨[], by rw [Path, hok.q0], Nat.zero_le _, fun _ => rfl, fun h => absurd h (by omega), (fun l h => nomatch h), List.Pairwise.nil⟩
  | p, b + 1, hb, hp => by
    rcases Nat.eq_zero_or_pos p with h0 | h0
    · subst h0
      exact ⟨[], by rw [Path, hok.q0], Nat.zero_le _, fun _ => rfl, fun h => absurd h (by omega), (fun l h => nomatch h), List.Pairwise.nil⟩
    · obtain ⟨k, hk, hby, hto, p', hp', hfr⟩ := hok.by_ p hp h0
      obtain ⟨ws, hw1, hw2, hw3, hw4, hw5, hw6⟩ := way_of hok hnd p' b (by omega) (by omega)
      have hne : ¬ st.2.getD p 0 = (f : Int) := by
        intro e
        have := nodup_at hnd hp (show 0 < st.2.length by omega) (by rw [hok.q0]; exact e)
        omega
      refine ⟨ls.getD k default :: ws, ?_, by simp; omega, fun h => by omega, fun _ => ⟨_, _, rfl⟩, ?_, ?_⟩
      · rw [Path]
        exact ⟨hne, hok.qin p hp, ⟨k, hby, hk, rfl⟩, by rw [← hfr]; exact hw1⟩
      · intro l hl
        rcases List.mem_cons.1 hl with h | h
        · subst h
          exact ⟨getDL_mem hk, p', p, hp', Nat.le_refl _, hfr, hto.symm⟩
        · obtain ⟨h1, i, j, h2, h3, h4⟩ := hw5 l h
          exact ⟨h1, i, j, h2, by omega, h4⟩
      · refine List.Pairwise.cons ?_ (hw6.imp ?_)
        · intro l2 hl2
          obtain ⟨_, i, j, h2, h3, h4, h5⟩ := hw5 l2 hl2
          exact ⟨p', p, j, h3, hp', Nat.le_refl _, hto.symm, hfr, h5, i, h2, h4⟩
        · rintro l1 l2 ⟨i, j, j', h1, h2, h3, h4⟩
          exact ⟨i, j, j', h1, h2, by omega, h4⟩
end Go.Proofs.YtigaopfhjimpmaaDoor

namespace Go.Proofs.YtigaopfhjimpmaaDoor
open Go.RowKit

/-- the links of the way that leads to a node, the last one first -/
def wayB (ls : List LinkR) (by_ : List Int) (f : Int) : Nat → Int → List LinkR
  | 0, _ => []
  | k + 1, at_ => if at_ = f then [] else (ls.getD (by_.getD at_.toNat 0).toNat default) :: wayB ls by_ f k (ls.getD (by_.getD at_.toNat 0).toNat default).fr
theorem wayB_path {ls : List LinkR} {by_ : List Int} {N : Nat} {f : Int} : ∀ (k : Nat) (ws : List LinkR) (at_ : Int), Path ls by_ N f ws at_ → ws.length ≤ k → wayB ls by_ f k at_ = ws
  | 0, ws, at_, _, h2 => by
    have : ws = [] := List.eq_nil_of_length_eq_zero (by omega)
    subst this; rfl
  | k + 1, [], at_, h, _ => by
    rw [Path] at h
    rw [wayB, if_pos h]
  | k + 1, l :: ws, at_, h, h2 => by
    rw [Path] at h
    obtain ⟨h1, _, ⟨j, h3, _, h4⟩, h5⟩ := h
    rw [wayB, if_neg h1, h3, Int.toNat_natCast, h4, wayB_path k ws l.fr h5 (by simp at h2; omega)]

def FlowIn (xs : List ArcR) (fl : List Int) (n : Nat) : Prop := fl.length = n ∧ ∀ k, k < n → 0 ≤ fl.getD k 0 ∧ fl.getD k 0 ≤ (xs.getD k default).room
def netX (x : Int) (node : Int) : List LinkR → Int
  | [] => 0
  | l :: ws => netX x node ws + (if l.fr = node then x else 0) - (if l.to_ = node then x else 0)
theorem outTo_set (xs : List ArcR) (fl : List Int) (node : Int) (a : Nat) (v : Int) (ha : a < fl.length) : ∀ k, outTo xs (fl.set a v) node k = outTo xs fl node k + (if a < k then (if (xs.getD a default).fr = node then v - fl.getD a 0 else 0) - (if (xs.getD a default).to_ = node then v - fl.getD a 0 else 0) else 0)
  | 0 => by simp [outTo]
  | k + 1 => by
    rw [outTo_succ, outTo_succ, outTo_set xs fl node a v ha k, getD_set' fl a k v ha]
    by_cases h : a = k
    · subst h
      rw [if_pos rfl, if_neg (Nat.lt_irrefl a), if_pos (Nat.lt_succ_self a)]
      split <;> split <;> omega
    · have key : ∀ o A B C D : Int, o + (A - B) + C - D = o + C - D + (A - B) := by omega
      have key2 : ∀ o C D : Int, o + 0 + C - D = o + C - D + 0 := by omega
      by_cases h2 : a < k
      · simp only [if_neg h, if_pos h2, if_pos (show a < k + 1 by omega)]; exact key _ _ _ _ _
      · simp only [if_neg h, if_neg h2, if_neg (show ¬ a < k + 1 by omega)]; exact key2 _ _ _
theorem outTo_one {xs : List ArcR} {fl fl0 : List Int} {n : Nat} {l : LinkR} (h : LinkIs xs fl0 n l) (hl : fl.length = n) (x node : Int) : outTo xs (pushOne fl l x) node n = outTo xs fl node n + (if l.fr = node then x else 0) - (if l.to_ = node then x else 0) := by
  obtain ⟨h1, _, h3⟩ := h
  unfold pushOne
  rw [outTo_set xs fl node l.arc _ (by omega) n, if_pos h1]
  generalize fl.getD l.arc 0 = y
  rcases h3 with ⟨hb, e1, e2, _⟩ | ⟨hb, e1, e2, _⟩
  · have hby : l.by_ = 1 := by unfold LinkR.by_; rw [hb]; rfl
    rw [hby, e1, e2]
    split <;> split <;> omega
  · have hby : l.by_ = -1 := by unfold LinkR.by_; rw [hb]; rfl
    rw [hby, e1, e2]
    split <;> split <;> omega
theorem push_inv {xs : List ArcR} {fl0 : List Int} {n : Nat} (hr : ∀ k, k < n → 0 ≤ (xs.getD k default).room ∧ (xs.getD k default).room ≤ 1000000) (x : Int) (hx : 0 ≤ x) :
    ∀ (ws : List LinkR) (fl : List Int), FlowIn xs fl n → (∀ l ∈ ws, LinkIs xs fl0 n l ∧ fl.getD l.arc 0 = fl0.getD l.arc 0 ∧ x ≤ l.room) → ws.Pairwise (fun l1 l2 => l1.arc ≠ l2.arc) →
      PushOk n x ws fl ∧ FlowIn xs (pushAll ws x fl) n ∧ ∀ node, outTo xs (pushAll ws x fl) node n = outTo xs fl node n + netX x node ws
  | [], fl, h, _, _ => ⟨trivial, h, fun node => by simp [pushAll, netX]⟩
  | l :: ws, fl, h, h2, h3 => by
    obtain ⟨k1, k2, k3⟩ := h2 l (by simp)
    obtain ⟨hlen, hin⟩ := h
    have ⟨a1, a2, a3⟩ := k1
    have hnew : FlowIn xs (pushOne fl l x) n := by
      refine ⟨by rw [pushOne_len]; exact hlen, fun k hk => ?_⟩
      unfold pushOne
      rw [getD_set' fl l.arc k _ (by omega)]
      by_cases e : l.arc = k
      · subst e
        rw [if_pos rfl, k2]
        have := hin l.arc hk
        rw [k2] at this
        have := hr l.arc hk
        rcases a3 with ⟨hb, _, _, e4⟩ | ⟨hb, _, _, e4⟩
        · have hby : l.by_ = 1 := by unfold LinkR.by_; rw [hb]; rfl
          rw [hby]; omega
        · have hby : l.by_ = -1 := by unfold LinkR.by_; rw [hb]; rfl
          rw [hby]; omega
      · rw [if_neg e]; exact hin k hk
    have h3' := List.pairwise_cons.1 h3
    obtain ⟨b1, b2, b3⟩ := push_inv hr x hx ws (pushOne fl l x) hnew (fun l2 hl2 => by
      obtain ⟨c1, c2, c3⟩ := h2 l2 (by simp [hl2])
      refine ⟨c1, ?_, c3⟩
      unfold pushOne
      rw [getD_set' fl l.arc l2.arc _ (by omega), if_neg (h3'.1 l2 hl2)]
      exact c2) h3'.2
    refine ⟨⟨a1, ?_, b1⟩, b2, fun node => ?_⟩
    · have := hin l.arc a1
      have := hr l.arc a1
      omega
    · rw [pushAll, b3 node, outTo_one k1 hlen x node, netX]
      omega
theorem netX_way {ls : List LinkR} {by_ : List Int} {N : Nat} {f : Int} (x : Int) : ∀ (ws : List LinkR) (at_ : Int), Path ls by_ N f ws at_ → (∀ l ∈ ws, l.to_ ≠ f) → netX x f ws = if ws = [] then 0 else x
  | [], _, _, _ => rfl
  | l :: ws, at_, h, h2 => by
    rw [Path] at h
    obtain ⟨_, _, _, h5⟩ := h
    have ih := netX_way x ws l.fr h5 (fun l' hl' => h2 l' (by simp [hl']))
    rw [netX, ih, if_neg (h2 l (by simp)), if_neg (List.cons_ne_nil _ _)]
    cases ws with
    | nil =>
      rw [Path] at h5
      rw [if_pos rfl, if_pos h5]; omega
    | cons l2 ws =>
      rw [Path] at h5
      rw [if_neg (List.cons_ne_nil _ _), if_neg h5.1]; omega

/-- what stands when a node is reached -/
theorem aug_ok {xs : List ArcR} {nodes : Int} {N F t n : Nat} {fl : List Int} (hN : nodes = N) (hv : validB nodes xs = true) (hn : xs.length = n) (hfl : FlowIn xs fl n) (hF : F < N) (ht : t < N) (hne : t ≠ F)
    (hby : (reachL (linksTo xs fl n) N F).getD t 0 ≠ -2) :
    ∃ ws, wayB (linksTo xs fl n) (reachL (linksTo xs fl n) N F) F N t = ws ∧ Path (linksTo xs fl n) (reachL (linksTo xs fl n) N F) N F ws t ∧ (∃ l ws', ws = l :: ws') ∧ (∀ l ∈ ws, 1 ≤ l.room ∧ l.room ≤ 1000000) ∧
      ∀ x, 0 ≤ x → (∀ l ∈ ws, x ≤ l.room) → PushOk n x ws fl ∧ FlowIn xs (pushAll ws x fl) n ∧ outTo xs (pushAll ws x fl) F n = outTo xs fl F n + x ∧ ∀ node, node ≠ (F : Int) → node ≠ (t : Int) → True := by
  subst hn
  have hls := linksTo_ok fl hN hv xs.length (Nat.le_refl _)
  have hok := bfs_ok hls hF N
  have hnd := bfs_nodup hls hF N
  obtain ⟨_, _, _, hb⟩ := valid_bd hv
  obtain ⟨p, hp, hpt⟩ := hok.inq t ht hby
  have hqN := bfs_len hls hF N
  have hp0 : 0 < p := by
    rcases Nat.eq_zero_or_pos p with h | h
    · subst h; rw [hok.q0] at hpt; omega
    · exact h
  obtain ⟨ws, w1, w2, _, w4, w5, w6⟩ := way_of hok hnd p p (Nat.le_refl _) hp
  rw [hpt] at w1
  have his : ∀ l ∈ ws, LinkIs xs fl xs.length l := fun l hl => linksTo_is xs fl xs.length l (w5 l hl).1
  have hrm : ∀ k, k < xs.length → 0 ≤ (xs.getD k default).room ∧ (xs.getD k default).room ≤ 1000000 := fun k hk => (hb k hk).2.2.2.1
  have hto : ∀ l ∈ ws, l.to_ ≠ (F : Int) := fun l hl e => by
    obtain ⟨_, i, j, h1, h2, _, h4⟩ := w5 l hl
    have := nodup_at hnd (show j < _ by omega) (show 0 < _ by omega) (by rw [h4, hok.q0, e])
    omega
  have hpw : ws.Pairwise (fun l1 l2 => l1.arc ≠ l2.arc) := by
    refine List.Pairwise.imp_of_mem ?_ w6
    rintro l1 l2 m1 m2 ⟨i, j, j', h1, h2, h3, h4, h5, h6, i', h7, h8⟩ e
    obtain ⟨_, _, a⟩ := his l1 m1
    obtain ⟨_, _, b⟩ := his l2 m2
    rw [e] at a
    rcases a with ⟨_, a1, a2, _⟩ | ⟨_, a1, a2, _⟩ <;> rcases b with ⟨_, b1, b2, _⟩ | ⟨_, b1, b2, _⟩
    · have := nodup_at hnd (show j < _ by omega) (show j' < _ by omega) (by rw [h4, h6, a2, b2]); omega
    · have := nodup_at hnd (show j < _ by omega) (show i' < _ by omega) (by rw [h4, h8, a2, b1]); omega
    · have := nodup_at hnd (show j < _ by omega) (show i' < _ by omega) (by rw [h4, h8, a2, b1]); omega
    · have := nodup_at hnd (show j < _ by omega) (show j' < _ by omega) (by rw [h4, h6, a2, b2]); omega
  obtain ⟨l, ws', hws⟩ := w4 hp0
  refine ⟨ws, wayB_path N ws t w1 (by omega), w1, ⟨l, ws', hws⟩, fun l hl => ?_, fun x hx hx2 => ?_⟩
  · obtain ⟨a1, a2, a3⟩ := his l hl
    have := hrm l.arc a1
    have := hfl.2 l.arc a1
    rcases a3 with ⟨_, _, _, e⟩ | ⟨_, _, _, e⟩ <;> omega
  · obtain ⟨p1, p2, p3⟩ := push_inv hrm x hx ws fl hfl (fun l hl => ⟨his l hl, rfl, hx2 l hl⟩) hpw
    refine ⟨p1, p2, ?_, fun _ _ _ => trivial⟩
    rw [p3, netX_way x ws t w1 hto, if_neg (by rw [hws]; exact List.cons_ne_nil _ _)]

/-- a greatest flow: rounds -/
def greatRun (xs : List ArcR) (n N F t : Nat) : Nat → List Int → Int → List Int × Int
  | 0, fl, a => (fl, a)
  | k + 1, fl, a => if (reachL (linksTo xs fl n) N F).getD t 0 = -2 then (fl, a) else greatRun xs n N F t k (pushAll (wayB (linksTo xs fl n) (reachL (linksTo xs fl n) N F) F N t) (amtOf (wayB (linksTo xs fl n) (reachL (linksTo xs fl n) N F) F N t) 100000000) fl) (a + amtOf (wayB (linksTo xs fl n) (reachL (linksTo xs fl n) N F) F N t) 100000000)
theorem great_end {xs : List ArcR} {n N F t k : Nat} {fl : List Int} {a : Int} (h : (reachL (linksTo xs fl n) N F).getD t 0 = -2) : greatRun xs n N F t k fl a = (fl, a) := by
  cases k with
  | zero => rfl
  | succ k => rw [greatRun, if_pos h]
theorem great_step {xs : List ArcR} {n N F t k : Nat} {fl : List Int} {a : Int} {ws : List LinkR} (h : (reachL (linksTo xs fl n) N F).getD t 0 ≠ -2) (hw : wayB (linksTo xs fl n) (reachL (linksTo xs fl n) N F) F N t = ws) : greatRun xs n N F t (k + 1) fl a = greatRun xs n N F t k (pushAll ws (amtOf ws 100000000) fl) (a + amtOf ws 100000000) := by
  rw [greatRun, if_neg h, hw]
/-- rounds enough -/
def greatG : Nat := 48000001
def greatL (xs : List ArcR) (N F t : Nat) : List Int × Int := greatRun xs xs.length N F t greatG (List.replicate xs.length 0) 0
theorem flow_zero {xs : List ArcR} {n : Nat} (hr : ∀ k, k < n → 0 ≤ (xs.getD k default).room) : FlowIn xs (List.replicate n 0) n := by
  refine ⟨by simp, fun k hk => ?_⟩
  have : (List.replicate n (0 : Int)).getD k 0 = 0 := by simp [List.getD, hk]
  rw [this]
  exact ⟨Int.le_refl _, hr k hk⟩
theorem out_zero (xs : List ArcR) (n : Nat) (node : Int) : ∀ k, k ≤ n → outTo xs (List.replicate n 0) node k = 0
  | 0, _ => rfl
  | k + 1, h => by
    have : (List.replicate n (0 : Int)).getD k 0 = 0 := by simp [List.getD, show k < n by omega]
    rw [outTo_succ, out_zero xs n node k (by omega), this]
    simp
end Go.Proofs.YtigaopfhjimpmaaDoor

namespace Go.Proofs.YtigaopfhjimpmaaDoor
open Go.RowKit

theorem by_bd (l : LinkR) {x : Int} (h0 : 0 ≤ x) (h1 : x ≤ 1000000) : -1000000 ≤ l.by_ * x ∧ l.by_ * x ≤ 1000000 := by
  unfold LinkR.by_
  split <;> omega
theorem last_link {T base g N : Nat} {w : World} {ls : List LinkR} {by_ : List Int} {l : LinkR} {at_ : Nat} {k : Nat} (h : OwnC T base 6 w (some ⟨g, 0, none⟩) N N (flatV (lastC ls) by_)) (hl : by_.length = N) (hv : at_ < N) (hk : by_.getD at_ 0 = k) (hkl : ls.getD k default = l) :
    w.cell? ⟨g, at_ * 6, none⟩ = some (.int .i64 l.arc) ∧ w.cell? ⟨g, at_ * 6 + 1, none⟩ = some (.int .i64 l.by_) ∧ w.cell? ⟨g, at_ * 6 + 2, none⟩ = some (.int .i64 l.fr) ∧ w.cell? ⟨g, at_ * 6 + 3, none⟩ = some (.int .i64 l.to_) ∧ w.cell? ⟨g, at_ * 6 + 4, none⟩ = some (.int .i64 l.room) := by
  have e : lastC ls (by_.getD at_ 0) = LinkR.cells l := by unfold lastC; rw [hk, if_neg (by omega), Int.toNat_natCast, hkl]
  have key : ∀ i, i < 6 → w.cell? ⟨g, at_ * 6 + i, none⟩ = (LinkR.cells l)[i]? := fun i hi => by
    rw [OwnC.cell h (by omega), flatV_get (lastC ls) 6 (lastC_len ls) 0 by_ at_ i (by omega) hi, e]
  exact ⟨key 0 (by omega), key 1 (by omega), key 2 (by omega), key 3 (by omega), key 4 (by omega)⟩

end Go.Proofs.YtigaopfhjimpmaaDoor

namespace Go.Proofs.YtigaopfhjimpmaaDoor
open Go.RowKit


end Go.Proofs.YtigaopfhjimpmaaDoor

namespace Go.Proofs.YtigaopfhjimpmaaDoor
open Go.RowKit

theorem ret_LBc {A : Option Addr} {n c : Nat} {a b : Bool} (h : a = b) : Ending.returned (.tuple #[.slice A n c, .bool a]) = .returned (.tuple #[.slice A n c, .bool b]) := by rw [h]
/-- the first k nodes that are reached -/
def cutLTo (by_ : List Int) (k : Nat) : List Int := ((List.range k).filter fun v => by_.getD v 0 != -2).map fun (v : Nat) => (v : Int)
theorem cutLTo_succ (by_ : List Int) (k : Nat) : cutLTo by_ (k + 1) = if (by_.getD k 0 != -2) = true then cutLTo by_ k ++ [(k : Int)] else cutLTo by_ k := by
  unfold cutLTo
  rw [List.range_succ, List.filter_append, List.map_append]
  simp only [List.filter_cons, List.filter_nil]
  cases h : (by_.getD k 0 != -2)
  · rw [if_neg (by decide), if_neg (by decide)]; simp
  · rw [if_pos rfl, if_pos rfl]; rfl
theorem cutLTo_len (by_ : List Int) (k : Nat) : (cutLTo by_ k).length ≤ k := by
  unfold cutLTo
  rw [List.length_map]
  exact Nat.le_trans (List.length_filter_le _ _) (by simp)

def cutLV (nodes : Int) (xs : List ArcR) (fl : List Int) (f : Int) : List Int := if flowAB nodes xs fl f = true then cutLTo (reachL (linksTo xs fl xs.length) nodes.toNat f.toNat) nodes.toNat else []
theorem cutLV_no {nodes : Int} {xs : List ArcR} {fl : List Int} {f : Int} (h : flowAB nodes xs fl f = false) : cutLV nodes xs fl f = [] := by unfold cutLV; rw [if_neg (by rw [h]; decide)]
theorem cutLV_yes {nodes : Int} {xs : List ArcR} {fl : List Int} {f : Int} (h : flowAB nodes xs fl f = true) : cutLV nodes xs fl f = cutLTo (reachL (linksTo xs fl xs.length) nodes.toNat f.toNat) nodes.toNat := by unfold cutLV; rw [if_pos h]
theorem cutLV_len (nodes : Int) (xs : List ArcR) (fl : List Int) (f : Int) : (cutLV nodes xs fl f).length ≤ 1048576 := by
  cases h : flowAB nodes xs fl f
  · rw [cutLV_no h]; simp
  · rw [cutLV_yes h]
    have := cutLTo_len (reachL (linksTo xs fl xs.length) nodes.toNat f.toNat) nodes.toNat
    unfold flowAB at h
    rw [Bool.and_eq_true] at h
    obtain ⟨h1, _⟩ := h
    obtain ⟨_, b, _⟩ := valid_bd (flow_bd h1).1
    omega
theorem flow_all_bd {nodes : Int} {xs : List ArcR} {fl : List Int} {n : Nat} (hl : xs.length = n) (h : flowB nodes xs fl = true) : n ≤ 48 ∧ fl.length = n ∧ ∀ k, k < n → (0 ≤ fl.getD k 0 ∧ fl.getD k 0 ≤ 1000000) ∧ (0 ≤ (xs.getD k default).room ∧ (xs.getD k default).room ≤ 1000000) ∧ (-1000 ≤ (xs.getD k default).cost ∧ (xs.getD k default).cost ≤ 1000) := by
  subst hl
  obtain ⟨h1, h2, h3⟩ := flow_bd h
  obtain ⟨_, _, h4, h5⟩ := valid_bd h1
  exact ⟨h4, h2, fun k hk => ⟨⟨(h3 k hk).1, (h3 k hk).2.2⟩, (h5 k hk).2.2.2.1, (h5 k hk).2.2.2.2⟩⟩



end Go.Proofs.YtigaopfhjimpmaaDoor

namespace Go.Proofs.YtigaopfhjimpmaaDoor
open Go.RowKit

theorem flowIn_bd {nodes : Int} {xs : List ArcR} {fl : List Int} {n : Nat} (hl : xs.length = n) (hv : validB nodes xs = true) (h : FlowIn xs fl n) : ∀ k, k < n → (0 ≤ fl.getD k 0 ∧ fl.getD k 0 ≤ 1000000) ∧ (0 ≤ (xs.getD k default).room ∧ (xs.getD k default).room ≤ 1000000) ∧ (-1000 ≤ (xs.getD k default).cost ∧ (xs.getD k default).cost ≤ 1000) := by
  subst hl
  obtain ⟨_, _, _, h5⟩ := valid_bd hv
  intro k hk
  have h1 := h.2 k hk
  have h2 := (h5 k hk).2.2.2.1
  exact ⟨⟨h1.1, by omega⟩, h2, (h5 k hk).2.2.2.2⟩
theorem valid_roomG {nodes : Int} {xs : List ArcR} {n : Nat} (hl : xs.length = n) (h : validB nodes xs = true) : 2 ≤ nodes ∧ nodes ≤ 16 ∧ n ≤ 48 ∧ ∀ k, k < n → 0 ≤ (xs.getD k default).room ∧ (xs.getD k default).room ≤ 1000000 := by
  subst hl
  obtain ⟨a, b, c, d⟩ := valid_bd h
  exact ⟨a, b, c, fun k hk => (d k hk).2.2.2.1⟩
theorem out_le {nodes : Int} {xs : List ArcR} {fl : List Int} {n : Nat} (hl : xs.length = n) (hv : validB nodes xs = true) (h : FlowIn xs fl n) (node : Int) : outTo xs fl node n ≤ 48000000 := by
  have hb := flowIn_bd hl hv h
  obtain ⟨_, _, h4, _⟩ := valid_bd hv
  have := (outTo_bd (xs := xs) node (fun k hk => (hb k hk).1) n (Nat.le_refl _)).2
  omega
theorem ret_LI {A : Option Addr} {n c : Nat} {i j : Int} (h : i = j) : Ending.returned (.tuple #[.slice A n c, .int .i64 i]) = .returned (.tuple #[.slice A n c, .int .i64 j]) := by rw [h]
theorem greatG_ge : (48000001 : Int) ≤ greatG := by unfold greatG; omega
theorem reachV_two {by_ : List Int} {t : Nat} (h : by_.getD t 0 = -2) : (by_.getD t 0 != -2) = false := by rw [h]; rfl


end Go.Proofs.YtigaopfhjimpmaaDoor

namespace Go.Proofs.YtigaopfhjimpmaaDoor
open Go.RowKit

def BytesIn (A : Option Addr) (n B : Nat) : Prop := 0 < n → ∀ ad, A = some ad → ad.block < B
theorem BytesAt.in_ {w : World} {A : Option Addr} {n : Nat} (h : BytesAt w A n) : BytesIn A n w.heap.size := fun h0 ad h1 => by
  obtain ⟨ad', e1, e2, _⟩ := h h0
  rw [e1] at h1; injection h1 with h1; subst h1; exact e2
theorem BytesAt.belowB {w w' : World} {A : Option Addr} {n B : Nat} (h : BytesAt w A n) (hb : Below B w w') (hB : BytesIn A n B) : BytesAt w' A n := h.keep hb.size fun h0 ad h1 _ => hb.block _ (hB h0 ad h1)
theorem BytesIn.le {A : Option Addr} {n B B' : Nat} (h : BytesIn A n B) (hb : B ≤ B') : BytesIn A n B' := fun h0 ad h1 => Nat.lt_of_lt_of_le (h h0 ad h1) hb
theorem BytesIn.far {A : Option Addr} {n B : Nat} (h : BytesIn A n B) : BytesFar A n B := fun h0 ad h1 => Nat.ne_of_lt (h h0 ad h1)
theorem Upd.belowG {g : Nat} {w w' : World} (h : Upd (blk (some ⟨g, 0, none⟩)) w w') (hg : g ≤ w.heap.size) : Below g w w' := h.toBelow hg fun k hk ⟨z, h2, h3⟩ => by
  injection h2 with h2; subst h2; exact absurd h3 (by show ¬ g = k; omega)
theorem blk_not {g b : Nat} (h : b ≠ g) : ¬ blk (some ⟨g, 0, none⟩) b := fun ⟨z, h2, h3⟩ => by
  injection h2 with h2; subst h2; exact h h3.symm

/-- numbers that are drawn: so many, each from 0 to below a bound -/
def Drawn (T m : Nat) (M : Int) (w : World) (e : Ending) (w' : World) : Prop :=
  ∃ (S : Option Addr) (c : Nat) (zs : List Int), e = .returned (.slice S m c) ∧ OwnI T w.heap.size w' S m c zs ∧ (∀ x ∈ zs, 0 ≤ x ∧ x < max 1 M) ∧ Below w.heap.size w w'

end Go.Proofs.YtigaopfhjimpmaaDoor
