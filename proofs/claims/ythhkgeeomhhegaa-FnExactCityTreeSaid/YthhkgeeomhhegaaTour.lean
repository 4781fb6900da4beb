/- Tours: orders of cities; how long a tour is. -/
import Derived.Test.YthhkgeeomhhegaaCities
import Derived.Test.YthhkgeeomhhegaaGrid
namespace Go.Proofs.Ythhkgeeomhhegaa
open Go.RowKit

theorem own_cap {T base n c : Nat} {w : World} {A : Option Addr} {zs : List Int} (h : OwnI T base w A n c zs) : n ≤ c := by
  rcases h.form with ⟨_, h1, _, _⟩ | ⟨_, _, _, _, h1, _⟩
  · omega
  · exact h1
theorem own_cap2 {T base n c : Nat} {w : World} {A : Option Addr} {zs : List Int} (h : OwnI T base w A n c zs) : n ≤ c ∧ c ≤ maxLen := by
  rcases h.form with ⟨_, h1, h2, _⟩ | ⟨_, _, _, _, h1, h2⟩
  · subst h1 h2; exact ⟨Nat.le_refl _, Nat.zero_le _⟩
  · exact ⟨h1, h2⟩
theorem ints_take {w : World} {A : Option Addr} {n : Nat} {zs : List Int} (h : IntsAt w A n zs) {k : Nat} (hk : k ≤ n) : IntsAt w A k (zs.take k) := by
  refine ⟨by rw [List.length_take, h.len]; omega, fun h0 => ?_⟩
  obtain ⟨ad, e, hb, hc⟩ := h.2 (by omega)
  refine ⟨ad, e, hb, fun j hj => ?_⟩
  rw [hc j (by omega)]
  simp [List.getD, List.getElem?_take, hj]

/-- 'make' of a slice of values of one cell each -/
theorem wp_make_vals {P : Program} (w : World) {ops : Array Oper} {rest : List Oper} {o : Oper} {a : Act} {Q : Exit → Act → World → Prop}
    (hg : o.guard = none) (l c : Operand) (t : TypeId) (hop : o.op = Op.makeSlice t l c) (z : Value) (b : Nat) (hzc : z.cells = #[z]) (hb : b ≤ 8)
    (T : TypeId) (h1 : P.underlying t = some (.slice T)) (hinfo : (P.info? T).map (fun i => (i.zero, i.size, i.bytes)) = some (some z, 1, b))
    (kl kc : IntKind) (L C : Int) (n : Nat) (hl : a.eval l = .int kl L) (hc : a.eval c = .int kc C) (hL : L = (n : Int)) (hC : C = (n : Int)) (hn : n ≤ 1048576)
    (hK : ∀ (w' : World) (g : Nat), OwnC T w.heap.size 1 w' (some ⟨g, 0, none⟩) n n (List.replicate n z) → Below w.heap.size w w' → wpList P ops Q rest (a.put o.dst (.slice (some ⟨g, 0, none⟩) n n)) w') :
    wpList P ops Q (o :: rest) a w := by
  obtain ⟨i0, hi, hz0, hz1, hz2⟩ := info_parts hinfo
  have hmul : n * b ≤ 1048576 * 8 := Nat.mul_le_mul hn hb
  have hmul2 : b * n ≤ 8 * 1048576 := Nat.mul_le_mul hb hn
  refine wpList_make_full w hg l c t hop w.heap.size T i0 _ 1 h1 hi hz0 hz1 kl kc L C n hl hc hL hC (by rw [hz2]; omega) (by simp [maxLen]; omega) (Nat.le_refl _) ?_
  intro w' h2 h3
  refine hK w' w.heap.size ?_ (Upd.ext ((Upd.refl _ _).grown h3 (by intro k hk; cases hk)))
  have e : (madeCells z.cells (n * 1)).toList = List.replicate n z := by
    rw [hzc]
    show (madeCells #[z] (n * 1)).toList = _
    rw [toList_madeCells_one]; simp
  rw [← e]
  exact h2
theorem infoB : (Try.prog.info? 4).map (fun i => (i.zero, i.size, i.bytes)) = some (some (.bool false), 1, 1) := by kernel_rfl

def distinctTo (ts : List Int) (k : Nat) : Bool := (List.range k).all fun i => !hasB (ts.take i) (ts.getD i 0)
theorem distinctTo_snoc (ts : List Int) (k : Nat) : distinctTo ts (k + 1) = (distinctTo ts k && !hasB (ts.take k) (ts.getD k 0)) := by
  unfold distinctTo
  rw [List.range_succ, List.all_append]; simp
theorem distinctTo_not {ts : List Int} {k n : Nat} (h : k < n) (hh : hasB (ts.take k) (ts.getD k 0) = true) : distinctTo ts n = false := by
  unfold distinctTo
  rw [List.all_eq_false]
  exact ⟨k, by simpa using h, by rw [hh]; decide⟩
/-- does the list hold each of N numbers once? -/
def orderB (N : Nat) (ts : List Int) : Bool := decide (ts.length = N) && ((ts.all fun x => inB x 0 ((N : Int) - 1)) && distinctTo ts ts.length)
theorem orderB_len {N : Nat} {ts : List Int} (h : ts.length ≠ N) : orderB N ts = false := by simp [orderB, h]
theorem orderB_out {N j : Nat} {ts : List Int} (hj : j < ts.length) (h : inB (ts.getD j 0) 0 ((N : Int) - 1) = false) : orderB N ts = false := by
  have := all_false_of (fun x => inB x 0 ((N : Int) - 1)) ts j 0 hj h
  simp [orderB, this]
theorem orderB_twice {N j : Nat} {ts : List Int} (hj : j < ts.length) (h : hasB (ts.take j) (ts.getD j 0) = true) : orderB N ts = false := by
  simp [orderB, distinctTo_not hj h]
theorem orderB_yes {N n : Nat} {ts : List Int} (hn : ts.length = n) (e : n = N) (h1 : ∀ j, j < n → inB (ts.getD j 0) 0 ((N : Int) - 1) = true) (h2 : distinctTo ts n = true) : orderB N ts = true := by
  subst hn
  subst e
  have h3 : (ts.all fun x => inB x 0 ((ts.length : Int) - 1)) = true := by
    rw [List.all_eq_true]
    intro x hx
    obtain ⟨j, hj, rfl⟩ := List.mem_iff_getElem.1 hx
    have := h1 j hj
    simpa [List.getD, List.getElem?_eq_getElem hj] using this
  simp [orderB, h3, h2]
theorem orderB_bd {N : Nat} {ts : List Int} (h : orderB N ts = true) : ts.length = N ∧ ∀ j, j < N → ∃ x : Nat, ts.getD j 0 = (x : Int) ∧ x < N := by
  simp only [orderB, Bool.and_eq_true, decide_eq_true_eq, List.all_eq_true] at h
  obtain ⟨h1, h2, _⟩ := h
  refine ⟨h1, fun j hj => ?_⟩
  obtain ⟨a, b⟩ := inB_iff.1 (h2 (ts.getD j 0) (by simp [List.getD, List.getElem?_eq_getElem (h1 ▸ hj)]))
  exact ⟨(ts.getD j 0).toNat, by omega, by omega⟩
theorem has_snoc (ts : List Int) (k : Nat) (c : Int) (hk : k < ts.length) : hasB (ts.take (k + 1)) c = (hasB (ts.take k) c || decide (ts.getD k 0 = c)) := by
  unfold hasB
  rw [List.take_succ_eq_append_getElem hk]
  simp only [List.contains_eq_mem, List.mem_append, List.mem_singleton, List.getD, List.getElem?_eq_getElem hk, Option.getD_some]
  rw [Bool.decide_or]
  congr 1
  exact decide_eq_decide.2 ⟨fun h => h.symm, fun h => h.symm⟩
/-- which numbers are among the first k -/
def seenV (ts : List Int) (N k : Nat) : List Value := (List.range N).map fun (c : Nat) => .bool (hasB (ts.take k) (c : Int))
theorem seenV_zero (ts : List Int) (N : Nat) : seenV ts N 0 = List.replicate N (.bool false) := by
  apply List.ext_getElem (by simp [seenV])
  intro j h1 h2
  simp [seenV, hasB]
theorem seenV_get {ts : List Int} {N k x : Nat} (h : x < N) : (seenV ts N k)[x]? = some (.bool (hasB (ts.take k) (x : Int))) := by
  simp [seenV, h]
theorem seenV_step {ts : List Int} {N k x : Nat} (hk : k < ts.length) (hx : ts.getD k 0 = (x : Int)) : (seenV ts N k).set x (.bool true) = seenV ts N (k + 1) := by
  apply List.ext_getElem (by simp [seenV])
  intro j h1 h2
  rw [List.getElem_set]
  simp only [seenV, List.getElem_map, List.getElem_range]
  rw [has_snoc ts k _ hk, hx]
  by_cases e : x = j
  · rw [if_pos e, e]; simp
  · rw [if_neg e]
    have : decide ((x : Int) = (j : Int)) = false := by rw [decide_eq_false_iff_not]; omega
    rw [this, Bool.or_false]

/-- how long the first k ways of a tour are -/
def longTo (ws ts : List Int) (N k : Nat) : Int := (List.range k).foldl (fun s i => s + ws.getD ((ts.getD i 0).toNat * N + (ts.getD ((i + 1) % N) 0).toNat) 0) 0
theorem longTo_snoc (ws ts : List Int) (N k : Nat) : longTo ws ts N (k + 1) = longTo ws ts N k + ws.getD ((ts.getD k 0).toNat * N + (ts.getD ((k + 1) % N) 0).toNat) 0 := by
  unfold longTo
  rw [List.range_succ, List.foldl_append]; rfl

def tourB (ws ts : List Int) : Bool := citiesB ws && orderB (cityN ws.length).toNat ts
def tourLV (ws ts : List Int) : Int := if tourB ws ts = true then longTo ws ts (cityN ws.length).toNat (cityN ws.length).toNat else 0
theorem tourLV_no {ws ts : List Int} (h : tourB ws ts = false) : tourLV ws ts = 0 := by unfold tourLV; rw [if_neg (by rw [h]; decide)]
theorem tourLV_yes {ws ts : List Int} (h : tourB ws ts = true) : tourLV ws ts = longTo ws ts (cityN ws.length).toNat (cityN ws.length).toNat := by unfold tourLV; rw [if_pos h]
theorem cities_bd {ws : List Int} (h : citiesB ws = true) : ∃ N : Nat, 1 ≤ N ∧ N ≤ 10 ∧ ws.length = N * N ∧ cityN ws.length = N ∧ ∀ j, j < ws.length → 0 ≤ ws.getD j 0 ∧ ws.getD j 0 ≤ 1000 := by
  rcases cityN_or ws.length with hn | ⟨N, hN1, hN2, hsq, hN⟩
  · rw [citiesB_none hn] at h; cases h
  · refine ⟨N, hN1, hN2, hsq, hN, fun j hj => ?_⟩
    have := ((citiesB_iff hN).1 h).1
    rw [List.all_eq_true] at this
    exact inB_iff.1 (this (ws.getD j 0) (by simp [List.getD, List.getElem?_eq_getElem hj]))


end Go.Proofs.Ythhkgeeomhhegaa
