/- FnCovers, in plain lists: the join. -/
import Derived.Test.YtbdcnbnaammagaaCovF
import Derived.Test.YtbdcnbnaammagaaExact
import Derived.Test.YtbdcnbnaammagaaGreedy
import Derived.Test.YtbdcnbnaammagaaCover
namespace Go.Proofs.Ytbdcnbnaammagaa
open Go.RowKit

/-- what the law's helper tells of a list of sets: all that they hold -/
def heldV (ss : List Int) (D : List Int) : Int := (orD (natL ss) D : Nat)
/-- the number of all -/
def wholeI (n : Nat) : Int := ((2 ^ n - 1 : Nat) : Int)
theorem whole_pos {n : Nat} (h : 1 ≤ n) : 1 ≤ 2 ^ n - 1 := by
  have := Nat.pow_le_pow_right (n := 2) (by omega) h
  omega
theorem natL_lt {zs : List Int} {K : Nat} (h : ∀ x ∈ zs, 0 ≤ x ∧ x < (K : Int)) : ∀ s ∈ natL zs, s < K := by
  intro s hs
  obtain ⟨x, hx, rfl⟩ := List.mem_map.1 hs
  have := h x hx
  omega
theorem sets_yes {n : Nat} {zs : List Int} (h1 : 1 ≤ n) (h2 : n ≤ 16) (h3 : 1 ≤ zs.length) (h4 : zs.length ≤ 16) (hz : ∀ x ∈ zs, 0 ≤ x ∧ x ≤ wholeI n) : setsB (n : Int) zs = true := by
  simp only [setsB, Bool.and_eq_true, decide_eq_true_eq, List.all_eq_true]
  refine ⟨⟨inB_iff.2 ⟨by omega, by omega⟩, h3, h4⟩, fun x hx => inB_iff.2 ?_⟩
  have e := pow_nat (n : Int)
  have := hz x hx
  rw [wholeI] at this
  rw [Int.toNat_natCast] at e ⊢
  omega
theorem bits_sub {n s : Nat} (h : s < 2 ^ n) (b : Nat) (hb : s.testBit b = true) : (2 ^ n - 1).testBit b = true := by
  rw [Nat.testBit_two_pow_sub_one, decide_eq_true_iff]
  rcases Nat.lt_or_ge b n with h1 | h1
  · exact h1
  · rw [Nat.testBit_lt_two_pow (Nat.lt_of_lt_of_le h (Nat.pow_le_pow_right (by omega) h1))] at hb
    cases hb
section
variable {n : Nat} {zs : List Int}
theorem nat_sets (hz : ∀ x ∈ zs, 0 ≤ x ∧ x ≤ wholeI n) : ∀ s ∈ natL zs, s < 2 ^ n := natL_lt fun x hx => by
  have := hz x hx
  have h2 := Nat.two_pow_pos n
  rw [wholeI] at this
  omega
theorem cover_iff (h1 : 1 ≤ n) (h2 : n ≤ 16) (h3 : 1 ≤ zs.length) (h4 : zs.length ≤ 16) (hz : ∀ x ∈ zs, 0 ≤ x ∧ x ≤ wholeI n) : coverB (n : Int) zs = decide (orA (natL zs) zs.length = 2 ^ n - 1) := by
  rw [coverB, sets_yes h1 h2 h3 h4 hz, Bool.true_and, coverOf, Int.toNat_natCast]
  have h := nat_sets hz
  have := best_iff (ss := natL zs) (full := 2 ^ n - 1) fun s hs b hb => bits_sub (h s hs) b hb
  rw [natL_len] at this
  exact this
theorem greedy_facts (h1 : 1 ≤ n) (h2 : n ≤ 16) (h3 : 1 ≤ zs.length) (h4 : zs.length ≤ 16) (hz : ∀ x ∈ zs, 0 ≤ x ∧ x ≤ wholeI n) :
    (greedyB (n : Int) zs = true → (∀ i ∈ greedyV (n : Int) zs, 0 ≤ i ∧ i.toNat < zs.length) ∧ orD (natL zs) (greedyV (n : Int) zs) = 2 ^ n - 1) ∧
    greedyB (n : Int) zs = decide (orA (natL zs) zs.length = 2 ^ n - 1) := by
  have hs := nat_sets hz
  have hp := Nat.pow_le_pow_right (n := 2) (by omega) h2
  have hw := whole_pos h1
  have hs16 : ∀ s ∈ natL zs, s < 65536 := fun s h => Nat.lt_of_lt_of_le (hs s h) hp
  have hy := sets_yes h1 h2 h3 h4 hz
  have hl := natL_len zs
  have hold := gRun_hold (ss := natL zs) (by omega) hs16 (2 ^ n - 1) (2 ^ n - 1) [] (Nat.le_refl _) (by omega) (fun i hi => nomatch hi)
  rw [hl] at hold
  have hR : greedyR (n : Int) zs = gRun (natL zs) zs.length (2 ^ n - 1) (2 ^ n - 1) [] := by rw [greedyR, Int.toNat_natCast]
  have hB : greedyB (n : Int) zs = (gRun (natL zs) zs.length (2 ^ n - 1) (2 ^ n - 1) []).2 := by rw [greedyB, hy, Bool.true_and, hR]
  have hV : greedyV (n : Int) zs = (gRun (natL zs) zs.length (2 ^ n - 1) (2 ^ n - 1) []).1 := by rw [greedyV_yes hy, hR]
  have key : greedyB (n : Int) zs = true → (∀ i ∈ greedyV (n : Int) zs, 0 ≤ i ∧ i.toNat < zs.length) ∧ orD (natL zs) (greedyV (n : Int) zs) = 2 ^ n - 1 := by
    intro hb
    rw [hB] at hb
    obtain ⟨k1, k2⟩ := hold hb
    rw [← hV] at k1 k2
    refine ⟨k1, ?_⟩
    apply Nat.eq_of_testBit_eq
    intro b
    rw [Bool.eq_iff_iff]
    constructor
    · intro h
      rcases (orD_bit (natL zs) b _ 0).1 h with h0 | ⟨i, _, h5⟩
      · simp at h0
      · exact bits_sub (getD_lt (Nat.two_pow_pos n) hs _) b h5
    · intro h; exact k2 b (.inr h)
  refine ⟨key, ?_⟩
  rw [Bool.eq_iff_iff, decide_eq_true_iff]
  constructor
  · intro hb
    obtain ⟨k1, k2⟩ := key hb
    rw [← hl]
    refine or_all (m := maskD (greedyV (n : Int) zs)) ?_ (fun s h b hb => bits_sub (hs s h) b hb)
    rw [maskD_or _ _ (fun i hi => by rw [hl]; exact (k1 i hi).2), k2]
  · intro ha
    rw [hB]
    have := gRun_ok hs16 (2 ^ n - 1) (2 ^ n - 1) [] (by omega) (fun b hb => by rw [hl, ha]; exact hb)
    rw [hl] at this
    exact this
/-- what the least cover is, where there is one -/
theorem cover_facts (h1 : 1 ≤ n) (h2 : n ≤ 16) (h3 : 1 ≤ zs.length) (h4 : zs.length ≤ 16) (hz : ∀ x ∈ zs, 0 ≤ x ∧ x ≤ wholeI n) (hb : coverB (n : Int) zs = true) :
    ∃ b, b < 2 ^ zs.length ∧ bestC (natL zs) (2 ^ n - 1) (2 ^ zs.length) = some b ∧ coverV (n : Int) zs = digitsOf b ∧ (∀ i ∈ coverV (n : Int) zs, 0 ≤ i ∧ i.toNat < zs.length) ∧ orD (natL zs) (coverV (n : Int) zs) = 2 ^ n - 1 ∧ 1 ≤ (coverV (n : Int) zs).length := by
  have hy := sets_yes h1 h2 h3 h4 hz
  rw [coverB, hy, Bool.true_and] at hb
  obtain ⟨b, hc⟩ := Option.isSome_iff_exists.1 hb
  have hV := coverV_some hy hc
  rw [coverOf, Int.toNat_natCast] at hc
  have hl := natL_len zs
  have hlt := bestC_lt _ _ _ _ hc
  have hor := bestC_or _ _ hc
  have hd := orD_eq (natL zs) b (by rw [hl]; exact hlt) (by omega)
  have hw := whole_pos h1
  refine ⟨b, hlt, hc, hV, ?_, by rw [hV, hd, hor], ?_⟩
  · intro i hi
    rw [hV, digitsOf_eq b zs.length hlt (by omega)] at hi
    obtain ⟨j, rfl, hj⟩ := digitsTo_lt _ _ _ hi
    omega
  · rw [hV]
    rcases Nat.eq_zero_or_pos (digitsOf b).length with h | h
    · rw [List.eq_nil_of_length_eq_zero h] at hd
      rw [hor] at hd
      have : orD (natL zs) [] = 0 := rfl
      omega
    · exact h
theorem least_quick (h1 : 1 ≤ n) (h2 : n ≤ 16) (h3 : 1 ≤ zs.length) (h4 : zs.length ≤ 16) (hz : ∀ x ∈ zs, 0 ≤ x ∧ x ≤ wholeI n) (hg : greedyB (n : Int) zs = true) : (coverV (n : Int) zs).length ≤ (greedyV (n : Int) zs).length := by
  obtain ⟨k, e⟩ := greedy_facts h1 h2 h3 h4 hz
  obtain ⟨k1, k2⟩ := k hg
  rw [e, ← cover_iff h1 h2 h3 h4 hz] at hg
  obtain ⟨b, _, hc, hV, _⟩ := cover_facts h1 h2 h3 h4 hz hg
  rw [hV]
  have hl := natL_len zs
  rw [← hl] at hc
  exact best_le (fun i hi => by rw [hl]; exact (k1 i hi).2) k2 hc (by omega)
end

/-- the sets of one number each -/
def singL (n : Nat) : List Int := (List.range n).map fun j => ((2 ^ j : Nat) : Int)
theorem singL_succ (n : Nat) : singL (n + 1) = singL n ++ [((2 ^ n : Nat) : Int)] := by
  unfold singL
  rw [List.range_succ, List.map_append]; rfl
theorem singL_len (n : Nat) : (singL n).length = n := by simp [singL]
def singT (n : Nat) : Bool := coverB (n : Int) (singL n) && decide ((coverV (n : Int) (singL n)).length = n) && (exactB (n : Int) (singL n) && decide (exactV (n : Int) (singL n) = 1)) && (exactB (n : Int) (singL n ++ [wholeI n]) && decide (exactV (n : Int) (singL n ++ [wholeI n]) = 2))
theorem sing_facts (n : Nat) (h1 : 1 ≤ n) (h2 : n ≤ 6) : singT n = true := by
  have : n = 1 ∨ n = 2 ∨ n = 3 ∨ n = 4 ∨ n = 5 ∨ n = 6 := by omega
  rcases this with rfl | rfl | rfl | rfl | rfl | rfl <;> decide +kernel

/-- the sets, an empty one turned to that of the first number -/
def fillL (zs : List Int) : List Int := zs.map fun x => max 1 x
theorem fillL_len (zs : List Int) : (fillL zs).length = zs.length := by simp [fillL]
theorem fillL_bd {n : Nat} {zs : List Int} (h1 : 1 ≤ n) (hz : ∀ x ∈ zs, 0 ≤ x ∧ x ≤ wholeI n) : ∀ x ∈ fillL zs, 1 ≤ x ∧ x ≤ wholeI n := by
  intro x hx
  obtain ⟨y, hy, rfl⟩ := List.mem_map.1 hx
  have := hz y hy
  have hw := whole_pos h1
  rw [wholeI] at *
  omega
/-- how many exact covers the law counts among the first k masks -/
def cntL (ss : List Nat) (full : Nat) : Nat → Nat
  | 0 => 0
  | k + 1 => if sumTo ss k ss.length = full ∧ orTo ss k ss.length = full then cntL ss full k + 1 else cntL ss full k
theorem cntL_eq {ss : List Nat} {k : Nat} (h : ∀ s ∈ ss, s < 2 ^ k) (full : Nat) : ∀ j, cntL ss full j = cntM ss full j
  | 0 => rfl
  | j + 1 => by
    have e := okM_sum h j full
    rw [cntM_succ, cntL, cntL_eq h full j]
    by_cases hk : sumTo ss j ss.length = full ∧ orTo ss j ss.length = full
    · rw [if_pos hk, if_pos (e.2 hk)]
    · rw [if_neg hk, if_neg (fun h => hk (e.1 h))]; rfl
theorem exact_count {n : Nat} {zs : List Int} (h1 : 1 ≤ n) (h2 : n ≤ 16) (h3 : 1 ≤ zs.length) (h4 : zs.length ≤ 16) (hz : ∀ x ∈ zs, 1 ≤ x ∧ x ≤ wholeI n) :
    exactB (n : Int) zs = true ∧ exactV (n : Int) zs = ((cntL (natL zs) (2 ^ n - 1) (2 ^ zs.length) : Nat) : Int) := by
  have hz0 : ∀ x ∈ zs, 0 ≤ x ∧ x ≤ wholeI n := fun x hx => by have := hz x hx; omega
  have hb : exactB (n : Int) zs = true := by
    rw [exactB, sets_yes h1 h2 h3 h4 hz0, Bool.true_and, Bool.not_eq_true', hasB_not]
    intro h; have := hz 0 h; omega
  refine ⟨hb, ?_⟩
  have hs := nat_sets hz0
  rw [exactV_yes hb, Int.toNat_natCast, cntL_eq hs]
  have := exact_eq (natL zs) n (by omega) (fun s h => ⟨?_, hs s h⟩)
  · rw [natL_len] at this; rw [this]
  · obtain ⟨x, hx, rfl⟩ := List.mem_map.1 h
    have := hz x hx; omega
theorem ones_to {m k : Nat} (hm : m < 2 ^ k) (hk : k ≤ 64) : (digitsTo m k).length = ones m := by rw [ones, digitsOf_eq m k hm hk]
theorem cover_few {n : Nat} {zs : List Int} (h1 : 1 ≤ n) (h2 : n ≤ 16) (h3 : 1 ≤ zs.length) (h4 : zs.length ≤ 16) (hz : ∀ x ∈ zs, 0 ≤ x ∧ x ≤ wholeI n) :
    coverB (n : Int) zs = decide (fewM (natL zs) (2 ^ n - 1) (zs.length + 1) (2 ^ zs.length) ≤ zs.length) ∧ (coverB (n : Int) zs = true → (coverV (n : Int) zs).length = fewM (natL zs) (2 ^ n - 1) (zs.length + 1) (2 ^ zs.length)) := by
  have hle : ∀ k, k < 2 ^ zs.length → ones k ≤ zs.length := fun k hk => by rw [← ones_to hk (by omega)]; exact digitsTo_len k _
  have hf := few_best (ss := natL zs) (full := 2 ^ n - 1) (z := zs.length + 1) (2 ^ zs.length) (fun k hk => Nat.le_succ_of_le (hle k hk))
  have hy := sets_yes h1 h2 h3 h4 hz
  rw [hf]
  cases hb : coverB (n : Int) zs with
  | true =>
    obtain ⟨b, hlt, hc, hV, _⟩ := cover_facts h1 h2 h3 h4 hz hb
    rw [hc, hV]
    exact ⟨by rw [eq_comm, decide_eq_true_iff]; exact hle b hlt, fun _ => rfl⟩
  | false =>
    rw [coverB, hy, Bool.true_and, coverOf, Int.toNat_natCast] at hb
    cases hc : bestC (natL zs) (2 ^ n - 1) (2 ^ zs.length) with
    | some b => rw [hc] at hb; cases hb
    | none => exact ⟨by simp, fun h => nomatch h⟩
end Go.Proofs.Ytbdcnbnaammagaa
