/- Best tours, in plain lists: the search through all orders, and least ways from cities through sets of others. -/
import Derived.Test.YtnliekbckdbaaaaTour
namespace Go.Proofs.Ytnliekbckdbaaaa
open Go.RowKit

def clr (m k : Nat) : Nat := andN m (2 ^ k)
theorem clr_bit {m k i : Nat} (hm : m < 2 ^ 64) (hk : k < 64) : (clr m k).testBit i = (m.testBit i && decide (i ≠ k)) := by
  unfold clr
  rw [andN_bit m (2 ^ k) i hm (Nat.pow_lt_pow_right (by omega) hk), Nat.testBit_two_pow]
  by_cases e : k = i
  · subst e; simp
  · simp [e, show i ≠ k from fun h => e h.symm]
theorem clr_le (m k : Nat) : clr m k ≤ m := andN_le _ _
theorem clr_lt {m k : Nat} (hm : m < 2 ^ 64) (hk : k < 64) (hb : m.testBit k = true) : clr m k < m := by
  rcases Nat.lt_or_eq_of_le (clr_le m k) with h | h
  · exact h
  · have := clr_bit (i := k) hm hk
    rw [h, hb] at this
    simp at this
theorem clr_no {m k : Nat} (hm : m < 2 ^ 64) (hk : k < 64) (hb : m.testBit k = false) : clr m k = m := by
  apply Nat.eq_of_testBit_eq
  intro i
  rw [clr_bit hm hk]
  by_cases e : i = k
  · subst e; rw [hb]; simp
  · simp [e]
def wayW (ws : List Int) (N i k : Nat) : Int := ws.getD (i * N + k) 0
/-- the least over the first j numbers of a set -/
def cellTo (ws : List Int) (N : Nat) (rows : List (List Int)) (m at_ : Nat) : Nat → Int
  | 0 => 1000000
  | j + 1 => if m.testBit j = true then min (cellTo ws N rows m at_ j) (wayW ws N at_ j + (rows.getD (clr m j) []).getD j 0) else cellTo ws N rows m at_ j
def rowOf (ws : List Int) (N : Nat) (rows : List (List Int)) (m : Nat) : List Int := (List.range N).map fun at_ => if m = 0 then ws.getD (at_ * N) 0 else cellTo ws N rows m at_ N
def rowsTo (ws : List Int) (N : Nat) : Nat → List (List Int)
  | 0 => []
  | m + 1 => rowsTo ws N m ++ [rowOf ws N (rowsTo ws N m) m]
theorem rowsTo_len (ws : List Int) (N : Nat) : ∀ m, (rowsTo ws N m).length = m
  | 0 => rfl
  | m + 1 => by rw [rowsTo, List.length_append, rowsTo_len ws N m]; rfl
theorem rowsTo_get (ws : List Int) (N : Nat) {i : Nat} : ∀ M, i < M → (rowsTo ws N M).getD i [] = rowOf ws N (rowsTo ws N i) i
  | 0, h => by omega
  | M + 1, h => by
    rw [rowsTo]
    by_cases e : i = M
    · subst e
      simp only [List.getD]
      rw [List.getElem?_append_right (by rw [rowsTo_len]; exact Nat.le_refl _), rowsTo_len, Nat.sub_self]
      rfl
    · have : (rowsTo ws N M ++ [rowOf ws N (rowsTo ws N M) M]).getD i [] = (rowsTo ws N M).getD i [] := by
        simp only [List.getD]
        rw [List.getElem?_append_left (by rw [rowsTo_len]; omega)]
      rw [this]
      exact rowsTo_get ws N M (by omega)
/-- the least way from a city through a set back to 0 -/
def restAt (ws : List Int) (N m at_ : Nat) : Int := (rowOf ws N (rowsTo ws N m) m).getD at_ 0
def minTo (ws : List Int) (N m at_ : Nat) : Nat → Int
  | 0 => 1000000
  | j + 1 => if m.testBit j = true then min (minTo ws N m at_ j) (wayW ws N at_ j + restAt ws N (clr m j) j) else minTo ws N m at_ j
theorem cellTo_min {ws : List Int} {N m at_ : Nat} (hm : m < 2 ^ 64) (hN : N ≤ 64) : ∀ j, j ≤ N → cellTo ws N (rowsTo ws N m) m at_ j = minTo ws N m at_ j
  | 0, _ => rfl
  | j + 1, hj => by
    rw [cellTo, minTo, cellTo_min hm hN j (by omega)]
    by_cases hb : m.testBit j = true
    · rw [if_pos hb, if_pos hb, rowsTo_get ws N m (clr_lt hm (by omega) hb)]
      rfl
    · rw [if_neg hb, if_neg hb]
theorem restAt_eq {ws : List Int} {N m at_ : Nat} (hm : m < 2 ^ 64) (hN : N ≤ 64) (ha : at_ < N) : restAt ws N m at_ = if m = 0 then ws.getD (at_ * N) 0 else minTo ws N m at_ N := by
  unfold restAt rowOf
  simp only [List.getD]
  rw [List.getElem?_map, List.getElem?_range ha]
  simp only [Option.map_some, Option.getD_some]
  split
  · rfl
  · exact cellTo_min hm hN N (Nat.le_refl _)
def WaysOk (ws : List Int) (N : Nat) : Prop := ∀ i k, i < N → k < N → 0 ≤ wayW ws N i k ∧ wayW ws N i k ≤ 1000
theorem minTo_bd {ws : List Int} {N m at_ : Nat} (hw : WaysOk ws N) (ha : at_ < N) (h : ∀ j, j < N → m.testBit j = true → 0 ≤ restAt ws N (clr m j) j) : ∀ j, j ≤ N → 0 ≤ minTo ws N m at_ j ∧ minTo ws N m at_ j ≤ 1000000
  | 0, _ => by unfold minTo; omega
  | j + 1, hj => by
    have ih := minTo_bd hw ha h j (by omega)
    rw [minTo]
    split
    · rename_i hb
      have h1 := h j (by omega) hb
      have h2 := hw at_ j ha (by omega)
      omega
    · exact ih
theorem restAt_bd {ws : List Int} {N : Nat} (hw : WaysOk ws N) (hN : N ≤ 64) : ∀ (b m at_ : Nat), m ≤ b → m < 2 ^ 64 → at_ < N → 0 ≤ restAt ws N m at_ ∧ restAt ws N m at_ ≤ 1000000
  | b, m, at_, hb, hm, ha => by
    rw [restAt_eq hm hN ha]
    split
    · have := hw at_ 0 ha (by omega)
      unfold wayW at this
      rw [Nat.add_zero] at this
      omega
    · rename_i h0
      cases b with
      | zero => omega
      | succ b =>
        exact minTo_bd hw ha (fun j hj hbj => (restAt_bd hw hN b (clr m j) j (by have := clr_lt hm (show j < 64 by omega) hbj; omega) (Nat.lt_of_le_of_lt (clr_le _ _) hm) hj).1) N (Nat.le_refl _)
/-- the least over all of a set, and where it is met -/
theorem minTo_le {ws : List Int} {N m at_ : Nat} : ∀ j k, k < j → m.testBit k = true → minTo ws N m at_ j ≤ wayW ws N at_ k + restAt ws N (clr m k) k
  | 0, k, hk, _ => by omega
  | j + 1, k, hk, hb => by
    rw [minTo]
    by_cases e : k = j
    · subst e; rw [if_pos hb]; omega
    · have ih := minTo_le (ws := ws) (N := N) (at_ := at_) j k (by omega) hb
      split <;> omega
theorem minTo_met {ws : List Int} {N m at_ : Nat} : ∀ j, minTo ws N m at_ j = 1000000 ∨ ∃ k, k < j ∧ m.testBit k = true ∧ minTo ws N m at_ j = wayW ws N at_ k + restAt ws N (clr m k) k
  | 0 => .inl rfl
  | j + 1 => by
    rw [minTo]
    have ih := minTo_met (ws := ws) (N := N) (m := m) (at_ := at_) j
    by_cases hb : m.testBit j = true
    · rw [if_pos hb]
      by_cases hlt : wayW ws N at_ j + restAt ws N (clr m j) j < minTo ws N m at_ j
      · exact .inr ⟨j, by omega, hb, by omega⟩
      · rcases ih with h | ⟨k, k1, k2, k3⟩
        · exact .inl (by omega)
        · exact .inr ⟨k, by omega, k2, by omega⟩
    · rw [if_neg hb]
      rcases ih with h | ⟨k, k1, k2, k3⟩
      · exact .inl h
      · exact .inr ⟨k, by omega, k2, k3⟩
/-! the search of the program -/
def upd (acc x : List Int × Int) : List Int × Int := if acc.1 = [] ∨ x.2 < acc.2 then x else acc
theorem upd_upd {acc x y : List Int × Int} (hx : x.1 ≠ []) : upd (upd acc x) y = upd acc (upd x y) := by
  unfold upd
  by_cases h1 : acc.1 = []
  · simp [h1]
  · by_cases h2 : x.2 < acc.2
    · by_cases h3 : y.2 < x.2
      · simp [h1, hx, h2, h3, show y.2 < acc.2 by omega]
      · simp [h1, hx, h2, h3]
    · by_cases h3 : y.2 < x.2
      · simp [h1, hx, h2, h3]
      · simp [h1, hx, h2, h3, show ¬ y.2 < acc.2 by omega]
def btLoop (rec_ : List Int → List Int × Int → List Int × Int) (b : List Int) : Nat → Nat → List Int × Int → List Int × Int
  | 0, _, acc => acc
  | n + 1, c, acc => btLoop rec_ b n (c + 1) (if hasB b (c : Int) = true then acc else rec_ (b ++ [(c : Int)]) acc)
def btF (ws : List Int) (N : Nat) : Nat → List Int → List Int × Int → List Int × Int
  | 0, b, acc => upd acc (b, longTo ws b N N)
  | f + 1, b, acc => btLoop (btF ws N f) b (N - 1) 1 acc
/-- the first that goes on best -/
def goK (ws : List Int) (N m at_ k : Nat) : Bool := m.testBit k && decide (wayW ws N at_ k + restAt ws N (clr m k) k = restAt ws N m at_)
def findK (ws : List Int) (N m at_ : Nat) : Nat → Nat → Nat
  | 0, k => k
  | n + 1, k => if goK ws N m at_ k = true then k else findK ws N m at_ n (k + 1)
def greedyF (ws : List Int) (N : Nat) : Nat → List Int → Nat → Nat → List Int
  | 0, b, _, _ => b
  | f + 1, b, m, at_ => greedyF ws N f (b ++ [((findK ws N m at_ (N - 1) 1 : Nat) : Int)]) (clr m (findK ws N m at_ (N - 1) 1)) (findK ws N m at_ (N - 1) 1)
theorem greedyF_ne {ws : List Int} {N : Nat} : ∀ (f : Nat) (b : List Int) (m at_ : Nat), b ≠ [] → greedyF ws N f b m at_ ≠ []
  | 0, b, _, _, h => h
  | f + 1, b, m, at_, _ => greedyF_ne f _ _ _ (by simp)
theorem findK_ok {ws : List Int} {N m at_ : Nat} : ∀ (n k p : Nat), k ≤ p → p < k + n → goK ws N m at_ p = true → (∀ j, k ≤ j → j < p → goK ws N m at_ j = false) → findK ws N m at_ n k = p
  | 0, k, p, h1, h2, _, _ => by omega
  | n + 1, k, p, h1, h2, h3, h4 => by
    rw [findK]
    by_cases e : k = p
    · subst e; rw [if_pos h3]
    · rw [if_neg (by rw [h4 k (Nat.le_refl _) (by omega)]; decide)]
      exact findK_ok n (k + 1) p (by omega) (by omega) h3 (fun j j1 j2 => h4 j (by omega) j2)
/-- the way that a begin has made -/
def pathC (ws : List Int) (N : Nat) (b : List Int) (k : Nat) : Int := (List.range k).foldl (fun s i => s + wayW ws N (b.getD i 0).toNat (b.getD (i + 1) 0).toNat) 0
theorem pathC_succ (ws : List Int) (N : Nat) (b : List Int) (k : Nat) : pathC ws N b (k + 1) = pathC ws N b k + wayW ws N (b.getD k 0).toNat (b.getD (k + 1) 0).toNat := by
  unfold pathC
  rw [List.range_succ, List.foldl_append]; rfl
theorem pathC_congr {ws : List Int} {N : Nat} {b b' : List Int} : ∀ k, (∀ i, i ≤ k → b.getD i 0 = b'.getD i 0) → pathC ws N b k = pathC ws N b' k
  | 0, _ => rfl
  | k + 1, h => by
    rw [pathC_succ, pathC_succ, pathC_congr k (fun i hi => h i (by omega)), h k (by omega), h (k + 1) (by omega)]
theorem snocI_lt {b : List Int} {x : Int} {i : Nat} (h : i < b.length) : (b ++ [x]).getD i 0 = b.getD i 0 := by simp [List.getD, List.getElem?_append_left h]
theorem snocI_eq {b : List Int} {x : Int} {i : Nat} (h : i = b.length) : (b ++ [x]).getD i 0 = x := by subst h; simp [List.getD]
theorem long_path {ws : List Int} {N : Nat} {b : List Int} (_hl : b.length = N) : ∀ k, k + 1 ≤ N → longTo ws b N k = pathC ws N b k
  | 0, _ => rfl
  | k + 1, h => by
    rw [longTo_snoc, pathC_succ, long_path _hl k (by omega), Nat.mod_eq_of_lt (by omega)]
    rfl
/-- a begin: different cities, 0 first, the set of all others, and the last one -/
structure BegOk (N : Nat) (b : List Int) (m at_ f : Nat) : Prop where
  len : b.length + f = N
  pos : 1 ≤ b.length
  h0 : b.getD 0 0 = 0
  last : b.getD (b.length - 1) 0 = (at_ : Int)
  atN : at_ < N
  mlt : m < 2 ^ 64
  bit : ∀ k, m.testBit k = (decide (1 ≤ k) && decide (k < N) && !hasB b (k : Int))
  nd : b.Nodup
  rng : ∀ x ∈ b, ∃ k : Nat, x = k ∧ k < N
theorem beg_snoc {N : Nat} {b : List Int} {m at_ f c : Nat} (h : BegOk N b m at_ (f + 1)) (hN : N ≤ 64) (hc : m.testBit c = true) : BegOk N (b ++ [(c : Int)]) (clr m c) c f := by
  have hb := h.bit c
  rw [hc] at hb
  simp only [Bool.true_eq, Bool.and_eq_true, decide_eq_true_eq, Bool.not_eq_true'] at hb
  obtain ⟨⟨c1, c2⟩, c3⟩ := hb
  have hp := h.pos
  refine ⟨by rw [List.length_append, ← h.len]; simp; omega, by simp, by rw [snocI_lt (by omega)]; exact h.h0, by rw [snocI_eq (by simp)], c2, Nat.lt_of_le_of_lt (clr_le _ _) h.mlt, fun k => ?_, ?_, fun x hx => ?_⟩
  · rw [clr_bit h.mlt (by omega), h.bit k]
    have e : hasB (b ++ [(c : Int)]) (k : Int) = (hasB b (k : Int) || decide (k = c)) := by
      rw [Bool.eq_iff_iff, hasB_iff, Bool.or_eq_true, hasB_iff, decide_eq_true_eq, List.mem_append, List.mem_singleton]
      constructor <;> rintro (h1 | h1)
      · exact .inl h1
      · exact .inr (by omega)
      · exact .inl h1
      · exact .inr (by omega)
    rw [e]
    cases hasB b (k : Int) <;> by_cases e2 : k = c <;> simp [e2]
  · rw [List.nodup_append]
    refine ⟨h.nd, by simp, fun x hx y hy e => ?_⟩
    rw [List.mem_singleton] at hy
    rw [hasB_not] at c3
    exact c3 (by rw [← hy, ← e]; exact hx)
  · rw [List.mem_append, List.mem_singleton] at hx
    rcases hx with hx | hx
    · exact h.rng x hx
    · exact ⟨c, hx, c2⟩
theorem nodupI_le : ∀ (N : Nat) (l : List Int), l.Nodup → (∀ x ∈ l, ∃ k : Nat, x = k ∧ k < N) → l.length ≤ N
  | 0, l, _, h => by
    cases l with
    | nil => exact Nat.le_refl _
    | cons x l => obtain ⟨k, _, hk⟩ := h x (by simp); omega
  | N + 1, l, hd, h => by
    by_cases hm : (N : Int) ∈ l
    · have h1 := nodupI_le N (l.erase (N : Int)) (hd.erase _) (fun x hx => by
        have h2 := (hd.mem_erase_iff).1 hx
        obtain ⟨k, k1, k2⟩ := h x h2.2
        exact ⟨k, k1, by have := h2.1; omega⟩)
      rw [List.length_erase_of_mem hm] at h1
      omega
    · have := nodupI_le N l hd (fun x hx => by
        obtain ⟨k, k1, k2⟩ := h x hx
        refine ⟨k, k1, ?_⟩
        have : k ≠ N := fun e => hm (by rw [← e, ← k1]; exact hx)
        omega)
      omega
/-- none is left just when all are there -/
theorem beg_zero {N : Nat} {b : List Int} {m at_ : Nat} (h : BegOk N b m at_ 0) : m = 0 := by
  apply Nat.eq_of_testBit_eq
  intro k
  rw [Nat.zero_testBit, h.bit k]
  by_cases e : 1 ≤ k ∧ k < N
  · have hh : hasB b (k : Int) = true := by
      cases hb : hasB b (k : Int)
      · exfalso
        rw [hasB_not] at hb
        have := nodupI_le N ((k : Int) :: b) (List.nodup_cons.2 ⟨hb, h.nd⟩) (fun x hx => by
          rcases List.mem_cons.1 hx with hx | hx
          · exact ⟨k, hx, e.2⟩
          · exact h.rng x hx)
        have := h.len
        simp at *
        omega
      · rfl
    rw [hh]; simp
  · by_cases e1 : 1 ≤ k
    · have : ¬ k < N := fun e2 => e ⟨e1, e2⟩
      simp [this]
    · simp [e1]
theorem nodup_ge : ∀ (N : Nat) (l : List Int), (∀ k : Nat, k < N → (k : Int) ∈ l) → N ≤ l.length
  | 0, _, _ => Nat.zero_le _
  | N + 1, l, h => by
    have := nodup_ge N (l.erase (N : Int)) (fun k hk => (List.mem_erase_of_ne (by omega)).2 (h k (by omega)))
    rw [List.length_erase_of_mem (h N (by omega))] at this
    have := List.length_pos_of_mem (h N (by omega))
    omega
theorem beg_more {N : Nat} {b : List Int} {m at_ f : Nat} (h : BegOk N b m at_ (f + 1)) : ∃ c, m.testBit c = true := by
  by_cases hex : ∃ c, m.testBit c = true
  · exact hex
  · exfalso
    have hp := h.pos
    have := nodup_ge N b (fun k hk => by
      by_cases e : k = 0
      · subst e
        have h1 : b.getD 0 0 ∈ b := by simp [List.getD, List.getElem?_eq_getElem (show 0 < b.length by omega)]
        rw [h.h0] at h1
        exact h1
      · cases hb : hasB b (k : Int)
        · exact absurd ⟨k, by rw [h.bit k, hb]; simp; omega⟩ hex
        · exact hasB_iff.1 hb)
    have := h.len
    omega

theorem findK_spec {ws : List Int} {N m at_ : Nat} : ∀ (n k p : Nat), k ≤ p → p < k + n → goK ws N m at_ p = true → k ≤ findK ws N m at_ n k ∧ findK ws N m at_ n k < k + n ∧ goK ws N m at_ (findK ws N m at_ n k) = true ∧ ∀ j, k ≤ j → j < findK ws N m at_ n k → goK ws N m at_ j = false
  | 0, k, p, h1, h2, _ => by omega
  | n + 1, k, p, h1, h2, h3 => by
    rw [findK]
    cases hk : goK ws N m at_ k
    · rw [if_neg (by decide)]
      have hne : k ≠ p := fun e => by rw [e, h3] at hk; cases hk
      obtain ⟨a, b, c, d⟩ := findK_spec (ws := ws) (N := N) (m := m) (at_ := at_) n (k + 1) p (by omega) (by omega) h3
      refine ⟨by omega, by omega, c, fun j j1 j2 => ?_⟩
      by_cases e : j = k
      · rw [e]; exact hk
      · exact d j (by omega) j2
    · rw [if_pos rfl]
      exact ⟨Nat.le_refl _, by omega, hk, fun j _ _ => by omega⟩
theorem loop_stay {rec_ : List Int → List Int × Int → List Int × Int} {b : List Int} {g : Nat → List Int} {v : Nat → Int}
    {M : Nat} (hrec : ∀ c acc, hasB b ((c : Nat) : Int) = false → 1 ≤ c → c < M → rec_ (b ++ [(c : Int)]) acc = upd acc (g c, v c)) : ∀ (n c : Nat) (acc : List Int × Int), c + n ≤ M → 1 ≤ c → acc.1 ≠ [] → (∀ j, c ≤ j → j < c + n → hasB b (j : Int) = false → acc.2 ≤ v j) → btLoop rec_ b n c acc = acc
  | 0, _, _, _, _, _, _ => rfl
  | n + 1, c, acc, hM, h1, h2, h3 => by
    rw [btLoop]
    cases hc : hasB b (c : Int)
    · rw [if_neg (by decide), hrec c acc hc h1 (by omega)]
      have hle := h3 c (Nat.le_refl _) (by omega) hc
      have e : upd acc (g c, v c) = acc := by
        unfold upd; rw [if_neg]; rintro (h | h)
        · exact h2 h
        · have : v c < acc.2 := h; omega
      rw [e]
      exact loop_stay hrec n (c + 1) acc (by omega) (by omega) h2 (fun j j1 j2 => h3 j (by omega) (by omega))
    · rw [if_pos rfl]
      exact loop_stay hrec n (c + 1) acc (by omega) (by omega) h2 (fun j j1 j2 => h3 j (by omega) (by omega))
theorem loop_upd {rec_ : List Int → List Int × Int → List Int × Int} {b : List Int} {g : Nat → List Int} {v : Nat → Int}
    {M : Nat} (hrec : ∀ c acc, hasB b ((c : Nat) : Int) = false → 1 ≤ c → c < M → rec_ (b ++ [(c : Int)]) acc = upd acc (g c, v c)) (hg : ∀ c, g c ≠ []) : ∀ (n c : Nat) (acc : List Int × Int) (p : Nat), c + n ≤ M → 1 ≤ c → c ≤ p → p < c + n → hasB b (p : Int) = false →
      (∀ j, c ≤ j → j < c + n → hasB b (j : Int) = false → v p ≤ v j) → (∀ j, c ≤ j → j < p → hasB b (j : Int) = false → v p < v j) → btLoop rec_ b n c acc = upd acc (g p, v p)
  | 0, c, acc, p, _, _, h1, h2, _, _, _ => by omega
  | n + 1, c, acc, p, hM, h0, h1, h2, h3, h4, h5 => by
    rw [btLoop]
    cases hc : hasB b (c : Int)
    · rw [if_neg (by decide), hrec c acc hc h0 (by omega)]
      by_cases e : c = p
      · subst e
        refine loop_stay hrec n (c + 1) _ (by omega) (by omega) ?_ (fun j j1 j2 j3 => ?_)
        · unfold upd
          split
          · exact hg c
          · rename_i h; exact fun h' => h (.inl h')
        · have := h4 j (by omega) (by omega) j3
          unfold upd
          split
          · exact this
          · rename_i h
            have h' : ¬ v c < acc.2 := fun h' => h (.inr h')
            omega
      · rw [loop_upd hrec hg n (c + 1) _ p (by omega) (by omega) (by omega) (by omega) h3 (fun j j1 j2 => h4 j (by omega) (by omega)) (fun j j1 j2 => h5 j (by omega) j2), upd_upd (hg c)]
        have : v p < v c := h5 c (Nat.le_refl _) (by omega) hc
        congr 1
        unfold upd
        rw [if_pos (.inr this)]
    · rw [if_pos rfl]
      have e : c ≠ p := fun e => by rw [e, h3] at hc; cases hc
      exact loop_upd hrec hg n (c + 1) acc p (by omega) (by omega) (by omega) (by omega) h3 (fun j j1 j2 => h4 j (by omega) (by omega)) (fun j j1 j2 => h5 j (by omega) j2)
theorem beg_cand {N : Nat} {b : List Int} {m at_ f k : Nat} (h : BegOk N b m at_ f) (h1 : 1 ≤ k) (h2 : k < N) : m.testBit k = !hasB b (k : Int) := by
  rw [h.bit k, decide_eq_true h1, decide_eq_true h2]; simp
theorem beg_bits {N : Nat} {b : List Int} {m at_ f k : Nat} (h : BegOk N b m at_ f) (hk : m.testBit k = true) : 1 ≤ k ∧ k < N := by
  have := h.bit k
  rw [hk] at this
  simp at this
  exact ⟨this.1.1, this.1.2⟩
/-- what the first best city is -/
theorem find_best {ws : List Int} {N : Nat} (hw : WaysOk ws N) (hN : N ≤ 64) {b : List Int} {m at_ f : Nat} (h : BegOk N b m at_ (f + 1)) (hr : ∀ c, m.testBit c = true → restAt ws N (clr m c) c ≤ 1000 * (f + 1)) :
    restAt ws N m at_ ≤ 1000 * (f + 2) ∧ ∃ p, findK ws N m at_ (N - 1) 1 = p ∧ m.testBit p = true ∧ wayW ws N at_ p + restAt ws N (clr m p) p = restAt ws N m at_ ∧ ∀ j, 1 ≤ j → j < p → m.testBit j = true → restAt ws N m at_ < wayW ws N at_ j + restAt ws N (clr m j) j := by
  obtain ⟨c, hc⟩ := beg_more h
  obtain ⟨c1, c2⟩ := beg_bits h hc
  have hm0 : m ≠ 0 := fun e => by rw [e, Nat.zero_testBit] at hc; cases hc
  have hre := restAt_eq (ws := ws) h.mlt hN h.atN
  rw [if_neg hm0] at hre
  have hle := minTo_le (ws := ws) (N := N) (m := m) (at_ := at_) N c c2 hc
  have hwc := hw at_ c h.atN c2
  have hrc := hr c hc
  have hbd : restAt ws N m at_ ≤ 1000 * (f + 2) := by rw [hre]; omega
  refine ⟨hbd, ?_⟩
  have hlen := h.len
  rcases minTo_met (ws := ws) (N := N) (m := m) (at_ := at_) N with h1 | ⟨k, k1, k2, k3⟩
  · rw [← hre] at h1; omega
  · have hgk : goK ws N m at_ k = true := by
      unfold goK; rw [k2, decide_eq_true (by rw [hre, k3])]; rfl
    have hk1 := (beg_bits h k2).1
    obtain ⟨a1, a2, a3, a4⟩ := findK_spec (ws := ws) (N := N) (m := m) (at_ := at_) (N - 1) 1 k hk1 (by omega) hgk
    unfold goK at a3
    rw [Bool.and_eq_true, decide_eq_true_eq] at a3
    refine ⟨_, rfl, a3.1, a3.2, fun j j1 j2 j3 => ?_⟩
    have h5 := a4 j j1 j2
    unfold goK at h5
    rw [j3, Bool.true_and, decide_eq_false_iff_not] at h5
    have h6 := minTo_le (ws := ws) (N := N) (m := m) (at_ := at_) N j (by omega) j3
    rw [← hre] at h6
    omega
theorem path_snoc {ws : List Int} {N : Nat} {b : List Int} {m at_ f c : Nat} (h : BegOk N b m at_ f) : pathC ws N (b ++ [(c : Int)]) ((b ++ [(c : Int)]).length - 1) = pathC ws N b (b.length - 1) + wayW ws N at_ c := by
  have hp := h.pos
  obtain ⟨l, hl⟩ : ∃ l, b.length = l + 1 := ⟨b.length - 1, by omega⟩
  have hlast := h.last
  rw [hl, Nat.add_sub_cancel] at hlast
  rw [List.length_append, hl]
  show pathC ws N (b ++ [(c : Int)]) (l + 1) = pathC ws N b l + wayW ws N at_ c
  rw [pathC_succ, pathC_congr (b' := b) l (fun i hi => snocI_lt (by omega)), snocI_lt (by omega), snocI_eq (by omega), hlast, Int.toNat_natCast, Int.toNat_natCast]
theorem bt_main {ws : List Int} {N : Nat} (hw : WaysOk ws N) (hN : N ≤ 64) : ∀ (f : Nat) (b : List Int) (m at_ : Nat), BegOk N b m at_ f →
    restAt ws N m at_ ≤ 1000 * (f + 1) ∧ (∀ acc, btF ws N f b acc = upd acc (greedyF ws N f b m at_, pathC ws N b (b.length - 1) + restAt ws N m at_)) ∧ longTo ws (greedyF ws N f b m at_) N N = pathC ws N b (b.length - 1) + restAt ws N m at_
  | 0, b, m, at_, h => by
    have hm := beg_zero h
    have hre := restAt_eq (ws := ws) h.mlt hN h.atN
    rw [if_pos hm] at hre
    have hw0 := hw at_ 0 h.atN (by have := h.atN; omega)
    unfold wayW at hw0
    rw [Nat.add_zero] at hw0
    have hlen := h.len
    have hp := h.pos
    have key : longTo ws b N N = pathC ws N b (b.length - 1) + restAt ws N m at_ := by
      obtain ⟨l, hl⟩ : ∃ l, N = l + 1 := ⟨N - 1, by omega⟩
      have e1 : longTo ws b N N = longTo ws b N l + ws.getD ((b.getD l 0).toNat * N + (b.getD ((l + 1) % N) 0).toNat) 0 := by
        conv => lhs; rw [show longTo ws b N N = longTo ws b N (l + 1) by rw [← hl]]
        exact longTo_snoc ws b N l
      have hlast := h.last
      rw [show b.length - 1 = l by omega] at hlast ⊢
      rw [e1, long_path (by omega) l (by omega), show (l + 1) % N = 0 by rw [← hl]; exact Nat.mod_self N, h.h0, hlast, Int.toNat_natCast, hre]
      rfl
    refine ⟨by rw [hre]; omega, fun acc => ?_, key⟩
    show upd acc (b, longTo ws b N N) = _
    rw [key]; rfl
  | f + 1, b, m, at_, h => by
    have ih := fun c (hc : m.testBit c = true) => bt_main hw hN f (b ++ [(c : Int)]) (clr m c) c (beg_snoc h hN hc)
    obtain ⟨hbd, p, p1, p2, p3, p4⟩ := find_best hw hN h (fun c hc => (ih c hc).1)
    obtain ⟨q1, q2⟩ := beg_bits h p2
    have hgr : greedyF ws N (f + 1) b m at_ = greedyF ws N f (b ++ [(p : Int)]) (clr m p) p := by rw [greedyF, p1]
    refine ⟨by omega, fun acc => ?_, ?_⟩
    · have hcand : ∀ j, 1 ≤ j → j < N → hasB b (j : Int) = false → m.testBit j = true := fun j j1 j2 j3 => by rw [beg_cand h j1 j2, j3]; rfl
      have hl := loop_upd (M := N) (rec_ := btF ws N f) (b := b) (g := fun c => if m.testBit c = true then greedyF ws N f (b ++ [(c : Int)]) (clr m c) c else [0])
        (v := fun c => pathC ws N b (b.length - 1) + wayW ws N at_ c + restAt ws N (clr m c) c)
        (fun c acc hc h1 h2 => by
          have hb := hcand c h1 h2 hc
          rw [(ih c hb).2.1 acc, path_snoc h]
          simp only [hb]
          rfl)
        (fun c => by
          split
          · exact greedyF_ne f _ _ _ (by simp)
          · simp)
        (N - 1) 1 acc p (by omega) (Nat.le_refl _) q1 (by omega)
        (by
          have := beg_cand h q1 q2
          rw [p2] at this
          cases hh : hasB b (p : Int)
          · rfl
          · rw [hh] at this; cases this)
        (fun j j1 j2 j3 => by
          have hb := hcand j j1 (by omega) j3
          have hm0 : m ≠ 0 := fun e => by rw [e, Nat.zero_testBit] at hb; cases hb
          have hre := restAt_eq (ws := ws) h.mlt hN h.atN
          rw [if_neg hm0] at hre
          have := minTo_le (ws := ws) (N := N) (m := m) (at_ := at_) N j (by omega) hb
          rw [← hre, ← p3] at this
          omega)
        (fun j j1 j2 j3 => by
          have hb := hcand j j1 (by omega) j3
          have := p4 j j1 j2 hb
          rw [← p3] at this
          omega)
      rw [btF, hl, hgr]
      simp only [p2]
      rw [show pathC ws N b (b.length - 1) + wayW ws N at_ p + restAt ws N (clr m p) p = pathC ws N b (b.length - 1) + restAt ws N m at_ by rw [← p3]; omega]
      rfl
    · rw [hgr, (ih p p2).2.2, path_snoc h, ← p3]; omega
/-- the set of all cities but 0 -/
def fullM (N : Nat) : Nat := 2 ^ N - 2
theorem fullM_bit {N : Nat} (hN : 1 ≤ N) (k : Nat) : (fullM N).testBit k = (decide (1 ≤ k) && decide (k < N)) := by
  obtain ⟨n, rfl⟩ : ∃ n, N = n + 1 := ⟨N - 1, by omega⟩
  have e : fullM (n + 1) = 2 * (2 ^ n - 1) := by unfold fullM; rw [Nat.pow_succ]; omega
  rw [e]
  cases k with
  | zero => simp [Nat.testBit_zero]
  | succ k =>
    rw [Nat.testBit_succ, show 2 * (2 ^ n - 1) / 2 = 2 ^ n - 1 by omega, Nat.testBit_two_pow_sub_one]
    simp
theorem fullM_lt {N : Nat} : fullM N < 2 ^ N := by
  have : 0 < 2 ^ N := Nat.pow_pos (by omega)
  unfold fullM; omega
theorem beg_start {N : Nat} (h1 : 1 ≤ N) (hN : N ≤ 63) : BegOk N [0] (fullM N) 0 (N - 1) := by
  refine ⟨by simp; omega, by simp, rfl, rfl, by omega, Nat.lt_of_lt_of_le fullM_lt (Nat.pow_le_pow_right (by omega) (by omega)), fun k => ?_, by simp, fun x hx => ?_⟩
  · rw [fullM_bit h1]
    by_cases e : 1 ≤ k
    · have : hasB [(0 : Int)] (k : Int) = false := by rw [hasB_not]; simp; omega
      rw [this]; simp
    · simp [e]
  · rw [List.mem_singleton] at hx
    exact ⟨0, hx, by omega⟩
def bestT (ws : List Int) (N : Nat) : List Int := greedyF ws N (N - 1) [0] (fullM N) 0
theorem bestT_ok {ws : List Int} {N : Nat} (hw : WaysOk ws N) (h1 : 1 ≤ N) (hN : N ≤ 63) : btF ws N (N - 1) [0] ([], 0) = (bestT ws N, longTo ws (bestT ws N) N N) := by
  obtain ⟨_, h3, h4⟩ := bt_main hw (by omega) (N - 1) [0] (fullM N) 0 (beg_start h1 hN)
  rw [h3, ← h4]
  unfold upd
  rw [if_pos (.inl rfl)]
  rfl
end Go.Proofs.Ytnliekbckdbaaaa
