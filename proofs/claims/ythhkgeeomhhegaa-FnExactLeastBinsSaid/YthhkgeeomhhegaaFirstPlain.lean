/- Things put into the first bins with room, in plain lists. -/
import Derived.Test.YthhkgeeomhhegaaSortPlain
import Derived.Test.YthhkgeeomhhegaaSizes
namespace Go.Proofs.Ythhkgeeomhhegaa
open Go.RowKit

/-- one thing is greater than another -/
def ltF (zs : List Int) (a b : Int) : Bool := decide (zs.getD b.toNat 0 < zs.getD a.toNat 0)
theorem insD_congr {f g : Int → Int → Bool} {N : Nat} (h : ∀ a b : Nat, a < N → b < N → f a b = g a b) : ∀ (k : Nat) (zs : List Int), k < zs.length → RngL zs N → insD f k zs = insD g k zs
  | 0, _, _, _ => rfl
  | k + 1, zs, hk, hr => by
    obtain ⟨a, ha, ha2⟩ := hr (k + 1) hk
    obtain ⟨b, hb, hb2⟩ := hr k (by omega)
    unfold insD
    rw [ha, hb, h a b ha2 hb2]
    split
    · exact insD_congr h k _ (by rw [swp_len]; omega) (hr.swp hk)
    · rfl
theorem ordTo_congr {f g : Int → Int → Bool} {N : Nat} (h : ∀ a b : Nat, a < N → b < N → f a b = g a b) : ∀ i, i ≤ N → ordTo f i = ordTo g i
  | 0, _ => rfl
  | i + 1, hi => by
    rw [ordTo, ordTo, ordTo_congr h i (by omega)]
    exact insD_congr h i _ (by rw [List.length_append, ordTo_len]; simp) ((ordTo_rng i (by omega)).snoc (by omega))
/-- the first bin from the number k on with room for x -/
def fbGo (bs : List Int) (x : Int) : Nat → Nat → Nat
  | 0, k => k
  | f + 1, k => if bs.getD k 0 < x then fbGo bs x f (k + 1) else k
def fbK (bs : List Int) (x : Int) : Nat := fbGo bs x bs.length 0
theorem fbGo_yes {bs : List Int} {x : Int} {k n : Nat} (hn : bs.length = n) (hk : k < n) (h : bs.getD k 0 < x) : fbGo bs x (n - k) k = fbGo bs x (n - (k + 1)) (k + 1) := by
  rw [show n - k = (n - (k + 1)) + 1 by omega, fbGo, if_pos h]
theorem fbGo_no {bs : List Int} {x : Int} {k n : Nat} (hn : bs.length = n) (hk : k < n) (h : ¬ bs.getD k 0 < x) : fbGo bs x (n - k) k = k := by
  rw [show n - k = (n - (k + 1)) + 1 by omega, fbGo, if_neg h]
theorem fbGo_le {bs : List Int} {x : Int} : ∀ f k, k ≤ fbGo bs x f k ∧ fbGo bs x f k ≤ k + f ∧ (fbGo bs x f k < k + f → x ≤ bs.getD (fbGo bs x f k) 0)
  | 0, k => by unfold fbGo; omega
  | f + 1, k => by
    unfold fbGo
    split
    · have := fbGo_le (bs := bs) (x := x) f (k + 1)
      refine ⟨by omega, by omega, fun h => this.2.2 (by omega)⟩
    · exact ⟨by omega, by omega, fun _ => by omega⟩
def fbX (bs : List Int) (k : Nat) (room : Int) : List Int := if k = bs.length then bs ++ [room] else bs
def fbB (bs : List Int) (x room : Int) : List Int := (fbX bs (fbK bs x) room).set (fbK bs x) ((fbX bs (fbK bs x) room).getD (fbK bs x) 0 - x)
/-- bins and the numbers of the bins after the first j things of an order -/
def fbTo (zs os : List Int) (room : Int) : Nat → List Int × List Int
  | 0 => ([], List.replicate zs.length 0)
  | j + 1 => (fbB (fbTo zs os room j).1 (zs.getD (os.getD j 0).toNat 0) room, (fbTo zs os room j).2.set (os.getD j 0).toNat ((fbK (fbTo zs os room j).1 (zs.getD (os.getD j 0).toNat 0) : Nat) : Int))
def BinsOk (bs : List Int) (j : Nat) : Prop := bs.length ≤ j ∧ ∀ i, i < bs.length → 0 ≤ bs.getD i 0 ∧ bs.getD i 0 ≤ 1000
theorem fbX_ok {bs : List Int} {j k : Nat} {room : Int} (h : BinsOk bs j) (hr : 0 ≤ room ∧ room ≤ 1000) : BinsOk (fbX bs k room) (j + 1) ∧ (k ≤ bs.length → k < (fbX bs k room).length) := by
  unfold fbX
  split
  · rename_i e
    refine ⟨⟨by rw [List.length_append, List.length_singleton]; have := h.1; omega, fun i hi => ?_⟩, fun _ => by rw [List.length_append, List.length_singleton]; omega⟩
    rw [List.length_append, List.length_singleton] at hi
    by_cases e2 : i < bs.length
    · rw [getD_left e2]; exact h.2 i e2
    · simp only [List.getD]
      rw [List.getElem?_append_right (by omega), show i - bs.length = 0 by omega]
      exact hr
  · exact ⟨⟨by have := h.1; omega, h.2⟩, fun _ => by omega⟩
theorem fbB_ok {bs : List Int} {j : Nat} {x room : Int} (h : BinsOk bs j) (hr : 0 ≤ room ∧ room ≤ 1000) (hx : 0 ≤ x ∧ x ≤ room) : BinsOk (fbB bs x room) (j + 1) := by
  obtain ⟨h1, h2⟩ := fbX_ok (k := fbK bs x) h hr
  have h3 := fbGo_le (bs := bs) (x := x) bs.length 0
  have h4 := h2 (by unfold fbK; omega)
  refine ⟨by unfold fbB; rw [List.length_set]; exact h1.1, fun i hi => ?_⟩
  unfold fbB at hi ⊢
  rw [List.length_set] at hi
  rw [getD_set h4]
  split
  · have h5 := h1.2 _ h4
    have h6 : x ≤ (fbX bs (fbK bs x) room).getD (fbK bs x) 0 := by
      unfold fbX
      split
      · rename_i e
        simp only [List.getD]
        rw [List.getElem?_append_right (by omega), show fbK bs x - bs.length = 0 by omega]
        exact hx.2
      · rename_i e
        have h7 : fbK bs x < 0 + bs.length := by unfold fbK at e ⊢; omega
        exact h3.2.2 h7
    omega
  · exact h1.2 i hi
theorem fbTo_ok {zs os : List Int} {room : Int} {n : Nat} (hn : zs.length = n) (hr : 0 ≤ room ∧ room ≤ 1000) (hz : ∀ k, k < n → 0 ≤ zs.getD k 0 ∧ zs.getD k 0 ≤ room) (ho : os.length = n) (hos : RngL os n) : ∀ j, j ≤ n → BinsOk (fbTo zs os room j).1 j ∧ (fbTo zs os room j).2.length = n
  | 0, _ => ⟨⟨Nat.le_refl _, fun i hi => by simp [fbTo] at hi⟩, by simp [fbTo, hn]⟩
  | j + 1, h => by
    obtain ⟨h1, h2⟩ := fbTo_ok hn hr hz ho hos j (by omega)
    obtain ⟨a, ha, ha2⟩ := hos j (by omega)
    rw [fbTo, ha, Int.toNat_natCast]
    exact ⟨fbB_ok h1 hr (hz a ha2), by show (List.set _ _ _).length = n; rw [List.length_set]; exact h2⟩
def fitB (zs : List Int) (room : Int) : Bool := sizesB zs && (inB room 0 1000 && zs.all fun x => decide (x ≤ room))
def binsV (zs : List Int) (room : Int) : List Int × List Int := fbTo zs (ordTo (ltF zs) zs.length) room zs.length
def firstLV (zs : List Int) (room : Int) : List Int := if fitB zs room = true then (binsV zs room).2 else []
def firstIV (zs : List Int) (room : Int) : Int := if fitB zs room = true then ((binsV zs room).1.length : Nat) else 0
/-- the greatest of the first k numbers -/
def maxTo (zs : List Int) : Nat → Int
  | 0 => zs.getD 0 0
  | k + 1 => max (maxTo zs k) (zs.getD k 0)
theorem maxTo_le {zs : List Int} {r : Int} : ∀ k, 1 ≤ k → (maxTo zs k ≤ r ↔ ∀ j, j < k → zs.getD j 0 ≤ r)
  | 0, h => by omega
  | 1, _ => by
    unfold maxTo maxTo
    constructor
    · intro h j hj; rw [show j = 0 by omega]; omega
    · intro h; have := h 0 (by omega); omega
  | k + 2, _ => by
    have ih := maxTo_le (zs := zs) (r := r) (k + 1) (by omega)
    rw [show maxTo zs (k + 2) = max (maxTo zs (k + 1)) (zs.getD (k + 1) 0) from rfl, Int.max_le, ih]
    constructor
    · intro ⟨h1, h2⟩ j hj
      by_cases e : j = k + 1
      · subst e; exact h2
      · exact h1 j (by omega)
    · intro h
      exact ⟨fun j hj => h j (by omega), h (k + 1) (by omega)⟩
theorem all_le_iff {zs : List Int} {r : Int} : (zs.all fun x => decide (x ≤ r)) = true ↔ ∀ j, j < zs.length → zs.getD j 0 ≤ r := by
  rw [List.all_eq_true]
  constructor
  · intro h j hj
    have := h _ (List.getElem_mem hj)
    simp only [List.getD, List.getElem?_eq_getElem hj, Option.getD_some]
    exact of_decide_eq_true this
  · intro h x hx
    obtain ⟨i, hi, rfl⟩ := List.getElem_of_mem hx
    have := h i hi
    simp only [List.getD, List.getElem?_eq_getElem hi, Option.getD_some] at this
    exact decide_eq_true this
end Go.Proofs.Ythhkgeeomhhegaa
