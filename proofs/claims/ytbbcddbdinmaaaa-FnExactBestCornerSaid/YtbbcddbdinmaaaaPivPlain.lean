/- Pivots of a table, in plain numbers: the cells are told by rows and columns. -/
import Derived.Test.YtbbcddbdinmaaaaRowsF
import Derived.Test.YtbbcddbdinmaaaaAppend
namespace Go.Proofs.Ytbbcddbdinmaaaa
open Go.RowKit

/-- cells of a table, told by rows and columns -/
def Cells (xs : List Nat) (M W : Nat) (F : Nat → Nat → Option Nat) : Prop := xs.length = M * W ∧ ∀ i k, i < M → k < W → absK .f32 (xs.getD (i * W + k) 0) = F i k
theorem cell_inj {W i k i' k' : Nat} (hk : k < W) (hk' : k' < W) (h : i * W + k = i' * W + k') : i = i' ∧ k = k' := by
  have h1 : (i * W + k) / W = i := by rw [Nat.add_comm, Nat.add_mul_div_right _ _ (by omega), Nat.div_eq_of_lt hk, Nat.zero_add]
  have h2 : (i' * W + k') / W = i' := by rw [Nat.add_comm, Nat.add_mul_div_right _ _ (by omega), Nat.div_eq_of_lt hk', Nat.zero_add]
  have e : i = i' := by rw [← h1, ← h2, h]
  subst e
  exact ⟨rfl, by omega⟩
theorem cell_lt {M W i k : Nat} (hi : i < M) (hk : k < W) : i * W + k < M * W := by
  have h1 : i * W + W ≤ M * W := by rw [← Nat.succ_mul]; exact Nat.mul_le_mul_right _ hi
  omega
theorem Cells.congr {xs : List Nat} {M W : Nat} {F G : Nat → Nat → Option Nat} (h : Cells xs M W F) (e : ∀ i k, i < M → k < W → G i k = F i k) : Cells xs M W G :=
  ⟨h.1, fun i k hi hk => (h.2 i k hi hk).trans (e i k hi hk).symm⟩
theorem Cells.set {xs : List Nat} {M W : Nat} {F G : Nat → Nat → Option Nat} (h : Cells xs M W F) {i0 k0 b : Nat} (hi0 : i0 < M) (hk0 : k0 < W) (hb : absK .f32 b = G i0 k0) (e : ∀ i k, i < M → k < W → ¬ (i = i0 ∧ k = k0) → G i k = F i k) : Cells (xs.set (i0 * W + k0) b) M W G := by
  refine ⟨by rw [List.length_set]; exact h.1, fun i k hi hk => ?_⟩
  have hlt := cell_lt hi hk
  have hl := h.1
  by_cases he : i = i0 ∧ k = k0
  · obtain ⟨rfl, rfl⟩ := he
    rw [← hb]
    congr 1
    simp [List.getD, List.getElem?_set, hl, hlt]
  · rw [e i k hi hk he, ← h.2 i k hi hk]
    congr 1
    have hne : i0 * W + k0 ≠ i * W + k := fun h2 => he ((cell_inj hk0 hk h2).imp Eq.symm Eq.symm)
    simp [List.getD, List.getElem?_set, hne]
/-- the cells of a list -/
def fC (ns : List Nat) (W i k : Nat) : Option Nat := absK .f32 (ns.getD (i * W + k) 0)
theorem Cells.of (ns : List Nat) (M W : Nat) (h : ns.length = M * W) : Cells ns M W (fC ns W) := ⟨h, fun _ _ _ _ => rfl⟩
def oneN : Nat := 1065353216
def ownC (f : Nat → Nat → Option Nat) (r c k : Nat) : Option Nat := if k = c then some oneN else fop .quo .f32 (f r k) (f r c)
def subC (f : Nat → Nat → Option Nat) (r c i k : Nat) : Option Nat := fop .sub .f32 (f i k) (fop .mul .f32 (f i c) (ownC f r c k))
def offC (f : Nat → Nat → Option Nat) (r c i k : Nat) : Option Nat := if k = c then some 0 else subC f r c i k
/-- some columns of the own row are divided -/
def g1C (f : Nat → Nat → Option Nat) (r c K i k : Nat) : Option Nat := if i = r ∧ k < K then fop .quo .f32 (f r k) (f r c) else f i k
/-- the own row is done, and the other rows below I -/
def s1C (f : Nat → Nat → Option Nat) (r c I i k : Nat) : Option Nat := if i = r then ownC f r c k else if i < I then offC f r c i k else f i k
/-- and some columns of the row I -/
def s2C (f : Nat → Nat → Option Nat) (r c I K i k : Nat) : Option Nat := if i = I ∧ k < K then subC f r c i k else s1C f r c I i k
section steps
variable {f : Nat → Nat → Option Nat} {xs : List Nat} {M W r c : Nat}
theorem g1_zero (h : Cells xs M W f) : Cells xs M W (g1C f r c 0) := h.congr fun i k _ _ => by unfold g1C; rw [if_neg (by omega)]
theorem g1_step {K b : Nat} (h : Cells xs M W (g1C f r c K)) (hr : r < M) (hK : K < W) (hb : absK .f32 b = fop .quo .f32 (f r K) (f r c)) : Cells (xs.set (r * W + K) b) M W (g1C f r c (K + 1)) := by
  refine h.set hr hK ?_ (fun i k _ _ hne => ?_)
  · unfold g1C; rw [if_pos ⟨rfl, by omega⟩]; exact hb
  · unfold g1C
    by_cases h1 : i = r ∧ k < K
    · rw [if_pos h1, if_pos ⟨h1.1, by omega⟩]
    · rw [if_neg h1, if_neg (fun h2 => by omega)]
theorem g1_at {K : Nat} (h : Cells xs M W (g1C f r c K)) (hr : r < M) (hK : K < W) : absK .f32 (xs.getD (r * W + K) 0) = f r K := by
  rw [h.2 r K hr hK]; unfold g1C; rw [if_neg (by omega)]
theorem s1_zero (h : Cells xs M W (g1C f r c W)) (hr : r < M) (hc : c < W) : Cells (xs.set (r * W + c) oneN) M W (s1C f r c 0) := by
  refine h.set hr hc ?_ (fun i k _ hk hne => ?_)
  · unfold s1C ownC; rw [if_pos rfl, if_pos rfl]; decide
  · unfold s1C g1C ownC
    by_cases h1 : i = r
    · subst h1
      rw [if_pos rfl, if_neg (fun e => hne ⟨rfl, e⟩), if_pos ⟨rfl, hk⟩]
    · rw [if_neg h1, if_neg (by omega), if_neg (by omega)]
theorem s1_own {I k : Nat} (h : Cells xs M W (s1C f r c I)) (hr : r < M) (hk : k < W) : absK .f32 (xs.getD (r * W + k) 0) = ownC f r c k := by
  rw [h.2 r k hr hk]; unfold s1C; rw [if_pos rfl]
theorem s1_at {I k : Nat} (h : Cells xs M W (s1C f r c I)) (hI : I < M) (hk : k < W) (hne : I ≠ r) : absK .f32 (xs.getD (I * W + k) 0) = f I k := by
  rw [h.2 I k hI hk]; unfold s1C; rw [if_neg hne, if_neg (by omega)]
theorem s1_skip (h : Cells xs M W (s1C f r c r)) : Cells xs M W (s1C f r c (r + 1)) := h.congr fun i k _ _ => by
  unfold s1C
  by_cases h1 : i = r
  · rw [if_pos h1, if_pos h1]
  · rw [if_neg h1, if_neg h1]
    by_cases h2 : i < r
    · rw [if_pos h2, if_pos (by omega)]
    · rw [if_neg h2, if_neg (by omega)]
theorem s2_zero {I : Nat} (h : Cells xs M W (s1C f r c I)) : Cells xs M W (s2C f r c I 0) := h.congr fun i k _ _ => by unfold s2C; rw [if_neg (by omega)]
theorem s2_at {I K : Nat} (h : Cells xs M W (s2C f r c I K)) (hI : I < M) (hK : K < W) (hne : I ≠ r) : absK .f32 (xs.getD (I * W + K) 0) = f I K := by
  rw [h.2 I K hI hK]; unfold s2C s1C; rw [if_neg (by omega), if_neg hne, if_neg (by omega)]
theorem s2_own {I K k : Nat} (h : Cells xs M W (s2C f r c I K)) (hr : r < M) (hk : k < W) (hne : I ≠ r) : absK .f32 (xs.getD (r * W + k) 0) = ownC f r c k := by
  rw [h.2 r k hr hk]; unfold s2C s1C; rw [if_neg (by omega), if_pos rfl]
theorem s2_step {I K b : Nat} (h : Cells xs M W (s2C f r c I K)) (hI : I < M) (hK : K < W) (hb : absK .f32 b = subC f r c I K) : Cells (xs.set (I * W + K) b) M W (s2C f r c I (K + 1)) := by
  refine h.set hI hK ?_ (fun i k _ _ hne => ?_)
  · unfold s2C; rw [if_pos ⟨rfl, by omega⟩]; exact hb
  · unfold s2C
    by_cases h1 : i = I ∧ k < K
    · rw [if_pos h1, if_pos ⟨h1.1, by omega⟩]
    · rw [if_neg h1, if_neg (fun h2 => by omega)]
theorem s2_end {I : Nat} (h : Cells xs M W (s2C f r c I W)) (hI : I < M) (hc : c < W) (hne : I ≠ r) : Cells (xs.set (I * W + c) 0) M W (s1C f r c (I + 1)) := by
  refine h.set hI hc ?_ (fun i k _ hk hn2 => ?_)
  · unfold s1C offC; rw [if_neg hne, if_pos (by omega), if_pos rfl]; exact abs0
  · unfold s1C s2C s1C
    by_cases h1 : i = I
    · rw [if_neg (by omega), if_pos (by omega), if_pos ⟨h1, hk⟩]
      unfold offC
      rw [if_neg (by omega)]
    · rw [if_neg (show ¬ (i = I ∧ k < W) by omega)]
      by_cases h2 : i = r
      · rw [if_pos h2, if_pos h2]
      · rw [if_neg h2, if_neg h2]
        by_cases h3 : i < I
        · rw [if_pos h3, if_pos (by omega)]
        · rw [if_neg h3, if_neg (by omega)]
end steps
/-- the cells behind a pivot, in their order -/
def pivL (ns : List Nat) (M W r c : Nat) : List (Option Nat) := (List.range (M * W)).map fun j => s1C (fC ns W) r c M (j / W) (j % W)
theorem cells_list {xs : List Nat} {M W : Nat} {F : Nat → Nat → Option Nat} (h : Cells xs M W F) : xs.map (absK .f32) = (List.range (M * W)).map fun j => F (j / W) (j % W) := by
  apply List.ext_getElem
  · simp [h.1]
  · intro j h1 h2
    have hj : j < M * W := by simpa using h2
    have hW : 0 < W := by
      rcases Nat.eq_zero_or_pos W with h0 | h0
      · subst h0; omega
      · exact h0
    have hi : j / W < M := Nat.div_lt_of_lt_mul (by rw [Nat.mul_comm]; exact hj)
    have := h.2 (j / W) (j % W) hi (Nat.mod_lt _ hW)
    have e : j / W * W + j % W = j := by rw [Nat.mul_comm]; exact Nat.div_add_mod j W
    rw [e] at this
    simp only [List.getElem_map, List.getElem_range]
    rw [← this]
    have hjl : j < xs.length := by rw [h.1]; exact hj
    simp [List.getD, List.getElem?_eq_getElem hjl]
theorem piv_fin {xs ns : List Nat} {M W r c : Nat} (h : Cells xs M W (s1C (fC ns W) r c M)) : allFin xs = (pivL ns M W r c).all finO := by
  unfold allFin pivL
  rw [← cells_list h, List.all_map]
  rfl
theorem piv_bits {xs ns : List Nat} {M W r c : Nat} (h : Cells xs M W (s1C (fC ns W) r c M)) (hf : allFin xs = true) : xs = (pivL ns M W r c).map (·.getD 0) := by
  unfold pivL
  rw [← cells_list h, List.map_map]
  unfold allFin at hf
  rw [List.all_eq_true] at hf
  symm
  conv => rhs; rw [← List.map_id xs]
  apply List.map_congr_left
  intro b hb
  obtain ⟨a, ha⟩ := fin_some (hf b hb)
  have := (absK_some ha).1
  simp only [Function.comp, ha, Option.getD_some, id]
  exact this.symm
/-- the columns of a basis up to one of them: each is a column, and none is told twice -/
def basUp (U : Int) (bs : List Int) (k : Nat) : Bool := (List.range k).all fun i => inB (bs.getD i 0) 0 U && !hasB (bs.take i) (bs.getD i 0)
theorem basUp_succ (U : Int) (bs : List Int) (k : Nat) : basUp U bs (k + 1) = (basUp U bs k && (inB (bs.getD k 0) 0 U && !hasB (bs.take k) (bs.getD k 0))) := by
  unfold basUp
  rw [List.range_succ, List.all_append]
  simp
theorem basUp_no (U : Int) (bs : List Int) {k n : Nat} (hk : k < n) (h : (inB (bs.getD k 0) 0 U && !hasB (bs.take k) (bs.getD k 0)) = false) : basUp U bs n = false := by
  cases hb : basUp U bs n
  · rfl
  · unfold basUp at hb
    rw [List.all_eq_true] at hb
    have := hb k (List.mem_range.2 hk)
    rw [h] at this
    cases this
def basOk (U : Int) (bs : List Int) : Bool := basUp U bs bs.length
/-- how a table lies: columns, rows, numbers -/
def tshB (v : Int) (n m : Nat) : Bool := inB v 1 8 && (inB m 1 8 && decide ((n : Int) = (v + m + 1) * (m + 1)))
def tblB (v : Int) (ns : List Nat) (bs : List Int) : Bool := tshB v ns.length bs.length && (allFin ns && basOk (v + bs.length - 1) bs)
theorem tbl_bd {v : Int} {ns : List Nat} {bs : List Int} (h : tblB v ns bs = true) : ∃ V : Nat, v = (V : Int) ∧ (1 ≤ V ∧ V ≤ 8) ∧ (1 ≤ bs.length ∧ bs.length ≤ 8) ∧ ns.length = (bs.length + 1) * (V + bs.length + 1) ∧ allFin ns = true ∧ basOk (v + bs.length - 1) bs = true := by
  unfold tblB tshB at h
  simp only [Bool.and_eq_true, decide_eq_true_eq] at h
  obtain ⟨⟨h1, h2, h3⟩, h4, h5⟩ := h
  obtain ⟨a, b⟩ := inB_iff.1 h1
  obtain ⟨c, d⟩ := inB_iff.1 h2
  obtain ⟨V, rfl⟩ := Int.eq_ofNat_of_zero_le (show 0 ≤ v by omega)
  refine ⟨V, rfl, by omega, by omega, ?_, h4, h5⟩
  have e : ((V : Int) + bs.length + 1) * (bs.length + 1) = (((bs.length + 1) * (V + bs.length + 1) : Nat) : Int) := by push_cast; rw [Int.mul_comm]
  omega
/-- a table behind a pivot, if it is one -/
def pivT (V : Nat) (ns : List Nat) (bs : List Int) (r c : Nat) : Option (List Nat × List Int) :=
  if ford .f32 (fC ns (V + bs.length + 1) r c) (some 0) == some .eq then none
  else if (pivL ns (bs.length + 1) (V + bs.length + 1) r c).all finO && basOk ((V : Int) + bs.length - 1) (bs.set r c) then some ((pivL ns (bs.length + 1) (V + bs.length + 1) r c).map (·.getD 0), bs.set r c)
  else none
theorem pivT_zero {V : Nat} {ns : List Nat} {bs : List Int} {r c : Nat} (h : (ford .f32 (fC ns (V + bs.length + 1) r c) (some 0) == some .eq) = true) : pivT V ns bs r c = none := by
  unfold pivT; rw [if_pos h]
theorem pivT_of {V : Nat} {ns : List Nat} {bs : List Int} {r c : Nat} (h : (ford .f32 (fC ns (V + bs.length + 1) r c) (some 0) == some .eq) = false) (hV : 1 ≤ V ∧ V ≤ 8) (hm : 1 ≤ bs.length ∧ bs.length ≤ 8) {xs : List Nat} (hx : Cells xs (bs.length + 1) (V + bs.length + 1) (s1C (fC ns (V + bs.length + 1)) r c (bs.length + 1))) :
    pivT V ns bs r c = if tblB V xs (bs.set r c) = true then some (xs, bs.set r c) else none := by
  unfold pivT
  rw [if_neg (by rw [h]; decide), ← piv_fin hx]
  have hs : tshB V xs.length (bs.set r c).length = true := by
    unfold tshB
    rw [List.length_set, inB_iff.2 (by omega), inB_iff.2 (by omega), hx.1, decide_eq_true (by push_cast; rw [Int.mul_comm])]
    rfl
  unfold tblB
  rw [hs, List.length_set, Bool.true_and]
  cases h1 : allFin xs
  · simp
  · rw [← piv_bits hx h1]
end Go.Proofs.Ytbbcddbdinmaaaa
