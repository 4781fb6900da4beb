/- The cheapest flow: its run, and that no flow of its amount is cheaper. In plain lists. -/
import Derived.Test.YtnljfhmdjhppmaaCheapP
namespace Go.Proofs.Ytnljfhmdjhppmaa
open Go.RowKit

/-- the rounds of the cheapest flow: k rounds, m is still to flow -/
def cheapRun (xs : List ArcR) (n N F t : Nat) : Nat → List Int → Int → Option (List Int)
  | 0, fl, _ => some fl
  | k + 1, fl, m => if 0 < m then
      (if (bfS xs fl n N F).k.getD t false = true then cheapRun xs n N F t k (pushAll (wayB (linksTo xs fl n) (bfS xs fl n N F).b F N t) (amtOf (wayB (linksTo xs fl n) (bfS xs fl n N F).b F N t) m) fl) (m - amtOf (wayB (linksTo xs fl n) (bfS xs fl n N F).b F N t) m) else none)
      else some fl
theorem cheap_end {xs : List ArcR} {n N F t k : Nat} {fl : List Int} : cheapRun xs n N F t k fl 0 = some fl := by
  cases k with
  | zero => rfl
  | succ k => rw [cheapRun, if_neg (by omega)]
theorem cheap_none {xs : List ArcR} {n N F t k : Nat} {fl : List Int} {m : Int} (hm : 0 < m) (h : (bfS xs fl n N F).k.getD t false = false) : cheapRun xs n N F t (k + 1) fl m = none := by
  rw [cheapRun, if_pos hm, if_neg (by rw [h]; decide)]
theorem cheap_more {xs : List ArcR} {n N F t k : Nat} {fl : List Int} {m : Int} {ws : List LinkR} (hm : 0 < m) (h : (bfS xs fl n N F).k.getD t false = true) (hw : wayB (linksTo xs fl n) (bfS xs fl n N F).b F N t = ws) : cheapRun xs n N F t (k + 1) fl m = cheapRun xs n N F t k (pushAll ws (amtOf ws m) fl) (m - amtOf ws m) := by
  rw [cheapRun, if_pos hm, if_pos h, hw]
theorem cheap_run_ok {xs : List ArcR} {N F t : Nat} (hv : validB N xs = true) (hF : F < N) (ht : t < N) (hne : t ≠ F) : ∀ (k : Nat) (fl : List Int) (a m : Int), CheapOk xs N F t xs.length fl a → 0 ≤ m → m ≤ k →
    (∀ fl', cheapRun xs xs.length N F t k fl m = some fl' → CheapOk xs N F t xs.length fl' (a + m)) ∧ (cheapRun xs xs.length N F t k fl m = none → ∃ R : Nat → Bool, R F = true ∧ R t = false ∧ sumI (roomI xs R) xs.length < a + m)
  | 0, fl, a, m, h, h0, hk => by
    have : m = 0 := by omega
    subst this
    exact ⟨fun fl' e => by rw [cheapRun] at e; injection e with e; subst e; rw [Int.add_zero]; exact h, fun e => by rw [cheapRun] at e; cases e⟩
  | k + 1, fl, a, m, h, h0, hk => by
    by_cases hm : 0 < m
    · cases hb : (bfS xs fl xs.length N F).k.getD t false
      · rw [cheap_none hm hb]
        refine ⟨(fun fl' e => by cases e), fun _ => ?_⟩
        obtain ⟨R, h1, h2, h3⟩ := cheap_stuck hv hF h hb
        exact ⟨R, h1, h2, by omega⟩
      · obtain ⟨ws, w1, _, ⟨l0, ws', w3⟩, w4, w5⟩ := cheap_step hv rfl hF ht hne h hb
        rw [cheap_more hm hb w1]
        obtain ⟨b1, b2⟩ := amtOf_le ws m
        have b3 := amtOf_ge (b := 1) ws m (by omega) (fun l hl => (w4 l hl).1)
        obtain ⟨_, c2⟩ := w5 (amtOf ws m) (by omega) b2
        obtain ⟨i1, i2⟩ := cheap_run_ok hv hF ht hne k _ _ (m - amtOf ws m) c2 (by omega) (by omega)
        rw [show a + amtOf ws m + (m - amtOf ws m) = a + m by omega] at i1 i2
        exact ⟨i1, i2⟩
    · have : m = 0 := by omega
      subst this
      rw [cheap_end]
      exact ⟨fun fl' e => by injection e with e; subst e; rw [Int.add_zero]; exact h, fun e => by cases e⟩
theorem fits_none {ls : List LinkR} {N : Nat} {π : Nat → Int} (hls : LinksOk ls N) (hne : ∀ k, k < ls.length → (ls.getD k default).fr ≠ (ls.getD k default).to_) (hN : 1 ≤ N) (hπ : Fits ls π) : lossE ls N = -1 := by
  rcases lossE_ok hN hls hne with h | ⟨v, _, h2, h3⟩
  · exact h
  · have := price_none π hls hne hN hπ N v h2
    omega
theorem none_fits {ls : List LinkR} {N : Nat} (hls : LinksOk ls N) (h : lossE ls N = -1) : ∃ π, Fits ls π := by
  have key : ∀ j, j ≤ ls.length → endTo ls (lossR ls N (N - 1)) (N - 1) j = -1 → lossTo ls (lossR ls N (N - 1)) (N - 1) j = lossR ls N (N - 1) ∧ ∀ i, i < j → ¬ lossGo (lossR ls N (N - 1)) (ls.getD i default) = true := by
    intro j
    induction j with
    | zero => intro _ _; exact ⟨rfl, fun i hi => by omega⟩
    | succ j ih =>
      intro hj he
      rw [endTo] at he
      obtain ⟨_, b0, b1⟩ := hls j (by omega)
      by_cases hgo : lossGo (lossTo ls (lossR ls N (N - 1)) (N - 1) j) (ls.getD j default) = true
      · rw [if_pos hgo] at he; omega
      · rw [if_neg hgo] at he
        obtain ⟨h1, h2⟩ := ih (by omega) he
        rw [lossTo]
        unfold lossStep
        rw [if_neg hgo]
        refine ⟨h1, fun i hi => ?_⟩
        by_cases e : i = j
        · subst e; rw [h1] at hgo; exact hgo
        · exact h2 i (by omega)
  obtain ⟨_, h2⟩ := key ls.length (Nat.le_refl _) h
  refine ⟨fun v => (lossR ls N (N - 1)).d.getD v 0, fun k hk => ?_⟩
  have := h2 k hk
  unfold lossGo at this
  rw [decide_eq_true_iff] at this
  exact Int.not_lt.1 this
/-- sums of what goes out, each with a price -/
theorem price_out {xs : List ArcR} {N : Nat} (fl : List Int) (π : Nat → Int) : ∀ n, EndsOk xs n N → sumI (fun v => π v * outTo xs fl (v : Int) n) N = sumI (fun i => fl.getD i 0 * (π (xs.getD i default).fr.toNat - π (xs.getD i default).to_.toNat)) n
  | 0, _ => by
    have e : ∀ v, v < N → π v * outTo xs fl (v : Int) 0 = 0 := fun v _ => by simp [outTo]
    rw [sumI_congr N e, sumI_zero]; rfl
  | n + 1, h => by
    obtain ⟨⟨a0, a1⟩, b0, b1⟩ := h n (by omega)
    have ih := price_out fl π n fun k hk => h k (by omega)
    generalize hx : xs.getD n default = x at *
    obtain ⟨af, hf⟩ := Int.eq_ofNat_of_zero_le a0
    obtain ⟨bt, hb⟩ := Int.eq_ofNat_of_zero_le b0
    have e : ∀ v, v < N → π v * outTo xs fl (v : Int) (n + 1) = (π v * outTo xs fl (v : Int) n + (if af = v then π af * fl.getD n 0 else 0)) - (if bt = v then π bt * fl.getD n 0 else 0) := by
      intro v _
      rw [outTo_succ, hx, hf, hb, Int.mul_sub, Int.mul_add]
      have e1 : π v * (if (af : Int) = (v : Int) then fl.getD n 0 else 0) = if af = v then π af * fl.getD n 0 else 0 := by
        by_cases e : af = v
        · subst e; rw [if_pos rfl, if_pos rfl]
        · rw [if_neg e, if_neg (by omega), Int.mul_zero]
      have e2 : π v * (if (bt : Int) = (v : Int) then fl.getD n 0 else 0) = if bt = v then π bt * fl.getD n 0 else 0 := by
        by_cases e : bt = v
        · subst e; rw [if_pos rfl, if_pos rfl]
        · rw [if_neg e, if_neg (by omega), Int.mul_zero]
      rw [e1, e2]
    rw [sumI_congr N e, sumI_sub, sumI_add, ih, sumI_one, sumI_one, if_pos (by omega), if_pos (by omega), sumI, hx, hf, hb, Int.toNat_natCast, Int.toNat_natCast, Int.mul_sub, Int.mul_comm (fl.getD n 0), Int.mul_comm (fl.getD n 0)]
    omega
theorem cost_sum (xs : List ArcR) (fl : List Int) : ∀ n, costTo xs fl n = sumI (fun i => fl.getD i 0 * (xs.getD i default).cost) n
  | 0 => rfl
  | n + 1 => by rw [costTo_succ, sumI, cost_sum xs fl n]
/-- the prices' part is the same for all flows of an amount -/
theorem price_flow {xs : List ArcR} {N F t : Nat} {fl : List Int} {a : Int} (hv : validB N xs = true) (hF : F < N) (ht : t < N) (hne : t ≠ F) (h : FlowOk xs N F t xs.length fl a) (π : Nat → Int) : sumI (fun i => fl.getD i 0 * (π (xs.getD i default).fr.toNat - π (xs.getD i default).to_.toNat)) xs.length = π F * a - π t * a := by
  have hone := price_out fl (fun _ => 1) xs.length (valid_ends hv)
  have hz : sumI (fun i => fl.getD i 0 * ((1 : Int) - 1)) xs.length = 0 := by
    rw [sumI_congr xs.length (g := fun _ => 0) (fun i _ => by simp), sumI_zero]
  rw [hz] at hone
  have split : ∀ (g : Nat → Int), sumI (fun v => g v * outTo xs fl (v : Int) xs.length) N = g F * a + g t * outTo xs fl (t : Int) xs.length := by
    intro g
    have e : ∀ v, v < N → g v * outTo xs fl (v : Int) xs.length = (if F = v then g F * a else 0) + (if t = v then g t * outTo xs fl (t : Int) xs.length else 0) := by
      intro v hvN
      by_cases e1 : F = v
      · subst e1; rw [if_pos rfl, if_neg hne, ← h.amt, Int.add_zero]
      · by_cases e2 : t = v
        · subst e2; rw [if_neg e1, if_pos rfl, Int.zero_add]
        · rw [if_neg e1, if_neg e2, h.bal v hvN (fun e => e1 e.symm) (fun e => e2 e.symm), Int.mul_zero]; rfl
    rw [sumI_congr N e, sumI_add, sumI_one, sumI_one, if_pos hF, if_pos ht]
  rw [split (fun _ => 1)] at hone
  have hout : outTo xs fl (t : Int) xs.length = -a := by omega
  rw [← price_out fl π xs.length (valid_ends hv), split π, hout, Int.mul_neg]
  omega
/-- no flow of the amount costs less -/
theorem cheap_least {xs : List ArcR} {N F t : Nat} {fl g : List Int} {a : Int} (hv : validB N xs = true) (hF : F < N) (ht : t < N) (hne : t ≠ F) (h : CheapOk xs N F t xs.length fl a) (hg : FlowOk xs N F t xs.length g a) : costTo xs fl xs.length ≤ costTo xs g xs.length := by
  obtain ⟨π, hπ⟩ := h.fits
  have h1 := price_flow hv hF ht hne h.toFlowOk π
  have h2 := price_flow hv hF ht hne hg π
  rw [cost_sum, cost_sum]
  have hterm : ∀ i, i < xs.length → fl.getD i 0 * (xs.getD i default).cost + fl.getD i 0 * (π (xs.getD i default).fr.toNat - π (xs.getD i default).to_.toNat) ≤ g.getD i 0 * (xs.getD i default).cost + g.getD i 0 * (π (xs.getD i default).fr.toNat - π (xs.getD i default).to_.toNat) := by
    intro i hi
    have hf := h.inn.2 i hi
    have hgi := hg.inn.2 i hi
    rw [← Int.mul_add, ← Int.mul_add]
    rcases Int.lt_trichotomy (fl.getD i 0) (g.getD i 0) with e | e | e
    · have hm := (linksTo_mem (xs := xs) (fl := fl)).2 ⟨i, hi, linksOf_mem.2 (.inl ⟨show fl.getD i 0 < (xs.getD i default).room by omega, rfl⟩)⟩
      obtain ⟨k, hk, he⟩ := List.mem_iff_getElem.1 hm
      have := hπ k hk
      have e4 : (linksTo xs fl xs.length).getD k default = ⟨i, false, (xs.getD i default).fr, (xs.getD i default).to_, (xs.getD i default).room - fl.getD i 0, (xs.getD i default).cost⟩ := by simp [List.getD, List.getElem?_eq_getElem hk, he]
      rw [e4] at this
      have this : π (xs.getD i default).to_.toNat ≤ π (xs.getD i default).fr.toNat + (xs.getD i default).cost := this
      exact Int.mul_le_mul_of_nonneg_right (by omega) (by omega)
    · rw [e]; exact Int.le_refl _
    · have hm := (linksTo_mem (xs := xs) (fl := fl)).2 ⟨i, hi, linksOf_mem.2 (.inr ⟨show 0 < fl.getD i 0 by omega, rfl⟩)⟩
      obtain ⟨k, hk, he⟩ := List.mem_iff_getElem.1 hm
      have := hπ k hk
      have e4 : (linksTo xs fl xs.length).getD k default = ⟨i, true, (xs.getD i default).to_, (xs.getD i default).fr, fl.getD i 0, -(xs.getD i default).cost⟩ := by simp [List.getD, List.getElem?_eq_getElem hk, he]
      rw [e4] at this
      have this : π (xs.getD i default).fr.toNat ≤ π (xs.getD i default).to_.toNat + -(xs.getD i default).cost := this
      exact Int.mul_le_mul_of_nonpos_right (by omega) (by omega)
  have hs := sumI_le xs.length hterm
  rw [sumI_add, sumI_add, h1, h2] at hs
  omega
end Go.Proofs.Ytnljfhmdjhppmaa
