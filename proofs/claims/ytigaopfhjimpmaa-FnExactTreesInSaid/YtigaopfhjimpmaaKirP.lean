/- How many trees a net has: its table by nodes, and what both sides reckon, in plain numbers. -/
import Derived.Test.YtigaopfhjimpmaaDetP
import Derived.Test.YtigaopfhjimpmaaMatQ
import Derived.Test.YtigaopfhjimpmaaValid
namespace Go.Proofs.Ytigaopfhjimpmaa
open Go.RowKit
open DetP

/-- an arc as a vector -/
def arcD (xs : List ArcR) (k u : Nat) : Int := (if frN xs k = u then 1 else 0) - (if toN xs k = u then 1 else 0)
/-- degrees on the diagonal, less the arcs beside it: the first k arcs -/
def lapK (xs : List ArcR) : Nat → Nat → Nat → Int
  | 0, _, _ => 0
  | k + 1, u, v => lapK xs k u v + arcD xs k u * arcD xs k v
theorem lapK_sym (xs : List ArcR) : ∀ k u v, lapK xs k u v = lapK xs k v u
  | 0, _, _ => rfl
  | k + 1, u, v => by rw [lapK, lapK, lapK_sym xs k u v, Int.mul_comm (arcD xs k u)]
theorem arcD_is (xs : List ArcR) (k x : Nat) : arcD xs k x = 1 ∧ frN xs k = x ∨ arcD xs k x = -1 ∧ toN xs k = x ∨ arcD xs k x = 0 := by
  unfold arcD
  by_cases a : frN xs k = x <;> by_cases b : toN xs k = x <;> simp [a, b]
theorem arcD_off {xs : List ArcR} {k u v : Nat} (huv : u ≠ v) : arcD xs k u * arcD xs k v ≤ 0 := by
  rcases arcD_is xs k u with ⟨a, a2⟩ | ⟨a, a2⟩ | a <;> rcases arcD_is xs k v with ⟨b, b2⟩ | ⟨b, b2⟩ | b <;> rw [a, b] <;> omega
theorem lapK_off (xs : List ArcR) {u v : Nat} (huv : u ≠ v) : ∀ k, lapK xs k u v ≤ 0
  | 0 => Int.le_refl _
  | k + 1 => by have := lapK_off xs huv k; have := arcD_off (xs := xs) (k := k) huv; rw [lapK]; omega
theorem arcD_sq (xs : List ArcR) (k u : Nat) : 0 ≤ arcD xs k u * arcD xs k u ∧ arcD xs k u * arcD xs k u ≤ 1 := by
  unfold arcD
  by_cases a : frN xs k = u <;> by_cases b : toN xs k = u <;> simp [a, b]
theorem lapK_diag (xs : List ArcR) (u : Nat) : ∀ k : Nat, 0 ≤ lapK xs k u u ∧ lapK xs k u u ≤ k
  | 0 => ⟨Int.le_refl _, Int.le_refl _⟩
  | k + 1 => by have := lapK_diag xs u k; have := arcD_sq xs k u; rw [lapK]; omega
theorem lapK_bd (xs : List ArcR) (k u v : Nat) : - (k : Int) ≤ lapK xs k u v ∧ lapK xs k u v ≤ k := by
  induction k with
  | zero => exact ⟨Int.le_refl _, Int.le_refl _⟩
  | succ k ih =>
    have : -1 ≤ arcD xs k u * arcD xs k v ∧ arcD xs k u * arcD xs k v ≤ 1 := by
      rcases arcD_is xs k u with ⟨a, a2⟩ | ⟨a, a2⟩ | a <;> rcases arcD_is xs k v with ⟨b, b2⟩ | ⟨b, b2⟩ | b <;> rw [a, b] <;> omega
    rw [lapK]; omega
theorem sumN_add : ∀ (n : Nat) (f g : Nat → Int), sumN n (fun i => f i + g i) = sumN n f + sumN n g
  | 0, _, _ => rfl
  | n + 1, f, g => by rw [sumN, sumN, sumN, sumN_add n f g]; omega
theorem sumN_one' (a : Nat) : ∀ n, sumN n (fun u => if a = u then 1 else 0) = if a < n then 1 else 0
  | 0 => by simp [sumN]
  | n + 1 => by
    rw [sumN, sumN_one' a n]
    by_cases h : a < n
    · rw [if_pos h, if_neg (by omega), if_pos (by omega)]; rfl
    · rw [if_neg h]
      by_cases e : a = n
      · rw [if_pos e, if_pos (by omega)]; rfl
      · rw [if_neg e, if_neg (by omega)]; rfl
theorem arcD_sum {xs : List ArcR} {k N : Nat} (h1 : frN xs k < N) (h2 : toN xs k < N) : sumN N (arcD xs k) = 0 := by
  have e : arcD xs k = fun u => (if frN xs k = u then 1 else 0) - (if toN xs k = u then 1 else 0) := rfl
  rw [e, sumN_sub, sumN_one', sumN_one', if_pos h1, if_pos h2]; rfl
theorem lapK_row {xs : List ArcR} {N n : Nat} (hx : ∀ i, i < n → frN xs i < N ∧ toN xs i < N ∧ frN xs i ≠ toN xs i) (u : Nat) : ∀ k, k ≤ n → sumN N (lapK xs k u) = 0
  | 0, _ => sumN_zero N
  | k + 1, hk => by
    obtain ⟨a, b, _⟩ := hx k (by omega)
    have e : lapK xs (k + 1) u = fun v => lapK xs k u v + arcD xs k v * arcD xs k u := funext fun v => by rw [lapK, Int.mul_comm]
    rw [e, sumN_add, sumN_mul, arcD_sum a b]
    have := lapK_row hx u k (by omega)
    rw [this]; omega
theorem sq_one {xs : List ArcR} {k : Nat} (hne : frN xs k ≠ toN xs k) (u : Nat) : arcD xs k u * arcD xs k u = (if frN xs k = u then 1 else 0) + (if toN xs k = u then 1 else 0) := by
  unfold arcD
  by_cases a : frN xs k = u <;> by_cases b : toN xs k = u <;> simp [a, b]
  omega
theorem lapK_trace {xs : List ArcR} {N n : Nat} (hx : ∀ i, i < n → frN xs i < N ∧ toN xs i < N ∧ frN xs i ≠ toN xs i) : ∀ k : Nat, k ≤ n → sumN N (fun u => lapK xs k u u) = 2 * k
  | 0, _ => sumN_zero N
  | k + 1, hk => by
    obtain ⟨a, b, c⟩ := hx k (by omega)
    have e : (fun u => lapK xs (k + 1) u u) = fun u => lapK xs k u u + ((if frN xs k = u then 1 else 0) + (if toN xs k = u then 1 else 0)) := funext fun u => by rw [lapK, sq_one c]
    rw [e, sumN_add, sumN_add, sumN_one', sumN_one', if_pos a, if_pos b, lapK_trace hx k (by omega)]
    omega
theorem sumN_shift (f : Nat → Int) : ∀ n, sumN (n + 1) f = f 0 + sumN n (fun i => f (i + 1))
  | 0 => by simp [sumN]
  | n + 1 => by rw [sumN, sumN_shift f n, sumN]; omega
/-- without the first node, and without the last -/
def lapA (xs : List ArcR) (i j : Nat) : Int := lapK xs xs.length (i + 1) (j + 1)
def lapB (xs : List ArcR) (i j : Nat) : Int := lapK xs xs.length i j
structure LapOk (m : Nat) (l : Nat → Row) : Prop where
  lap : Lap m l
  diag : ∀ i, i < m → 0 ≤ l i i ∧ l i i ≤ 48
  tr : sumN m (fun i => l i i) ≤ 96
theorem lapA_ok {xs : List ArcR} {m : Nat} (hx : ∀ i, i < xs.length → frN xs i < m + 1 ∧ toN xs i < m + 1 ∧ frN xs i ≠ toN xs i) (hn : xs.length ≤ 48) : LapOk m (lapA xs) := by
  refine ⟨fun i hi => ⟨?_, fun j hj => ⟨lapK_sym _ _ _ _, fun hne => lapK_off _ (by omega) _⟩⟩, fun i hi => ?_, ?_⟩
  · have h1 := lapK_row hx (i + 1) xs.length (Nat.le_refl _)
    rw [sumN_shift] at h1
    have h2 := lapK_off xs (u := i + 1) (v := 0) (by omega) xs.length
    have e : sumN m (lapA xs i) = sumN m (fun j => lapK xs xs.length (i + 1) (j + 1)) := rfl
    rw [e]; omega
  · have := lapK_diag xs (i + 1) xs.length
    have e : lapA xs i i = lapK xs xs.length (i + 1) (i + 1) := rfl
    rw [e]; omega
  · have h1 := lapK_trace hx xs.length (Nat.le_refl _)
    rw [sumN_shift] at h1
    have h2 := (lapK_diag xs 0 xs.length).1
    have e : sumN m (fun i => lapA xs i i) = sumN m (fun i => lapK xs xs.length (i + 1) (i + 1)) := rfl
    rw [e]; omega
theorem lapB_ok {xs : List ArcR} {m : Nat} (hx : ∀ i, i < xs.length → frN xs i < m + 1 ∧ toN xs i < m + 1 ∧ frN xs i ≠ toN xs i) (hn : xs.length ≤ 48) : LapOk m (lapB xs) := by
  refine ⟨fun i hi => ⟨?_, fun j hj => ⟨lapK_sym _ _ _ _, fun hne => lapK_off _ (by omega) _⟩⟩, fun i hi => ?_, ?_⟩
  · have h1 := lapK_row hx i xs.length (Nat.le_refl _)
    rw [sumN] at h1
    have h2 := lapK_off xs (u := i) (v := m) (by omega) xs.length
    have e : sumN m (lapB xs i) = sumN m (lapK xs xs.length i) := rfl
    rw [e]; omega
  · have := lapK_diag xs i xs.length
    have e : lapB xs i i = lapK xs xs.length i i := rfl
    rw [e]; omega
  · have h1 := lapK_trace hx xs.length (Nat.le_refl _)
    rw [sumN] at h1
    have h2 := (lapK_diag xs m xs.length).1
    have e : sumN m (fun i => lapB xs i i) = sumN m (fun i => lapK xs xs.length i i) := rfl
    rw [e]; omega
/-- both tell the same -/
theorem trees_same {xs : List ArcR} {m : Nat} (hx : ∀ i, i < xs.length → frN xs i < m + 1 ∧ toN xs i < m + 1 ∧ frN xs i ≠ toN xs i) (hm : 1 ≤ m) : bP (lapA xs) m = bP (lapB xs) m := by
  obtain ⟨m, rfl⟩ : ∃ q, m = q + 1 := ⟨m - 1, by omega⟩
  have h := cofactors (m := m) (fun i => lapK xs xs.length i) (fun i _ => lapK_row hx i _ (Nat.le_refl _)) (fun c => by
    have e : (fun i => lapK xs xs.length i c) = lapK xs xs.length c := funext fun i => lapK_sym _ _ _ _
    rw [e]; exact lapK_row hx c _ (Nat.le_refl _))
  have e1 : bP (lapB xs) (m + 1) = det (down (fun i => lapK xs xs.length i) (m + 1)) (down (fun i => i) (m + 1)) := rfl
  rw [e1, ← h]
  clear h e1
  unfold bP
  -- the columns' names
  have hc : ∀ (k : Nat) (rs : List Row) (cs : List Nat), det (rs.map fun r j => r (j + 1)) cs = det rs (cs.map (· + 1)) := by
    intro k rs
    induction rs with
    | nil => intro cs; simp [det]
    | cons r rs ih =>
      intro cs
      show con (fun j => r (j + 1)) (det (rs.map fun r j => r (j + 1))) cs = con r (det rs) (cs.map (· + 1))
      have : ∀ (cs : List Nat) (f g : List Nat → Int), (∀ x, f x = g (x.map (· + 1))) → con (fun j => r (j + 1)) f cs = con r g (cs.map (· + 1)) := by
        intro cs
        induction cs with
        | nil => intro f g _; rfl
        | cons c cs ih2 =>
          intro f g hfg
          rw [List.map_cons, con, con, hfg cs, ih2 (fun x => f (c :: x)) (fun x => g ((c + 1) :: x)) (fun x => by rw [hfg]; rfl)]
      exact this cs _ _ ih
  have e2 : ∀ n, down (lapA xs) n = (down (fun i => lapK xs xs.length (i + 1)) n).map (fun r j => r (j + 1)) := by
    intro n
    induction n with
    | zero => rfl
    | succ n ih => rw [down, down, List.map_cons, ih]; rfl
  have e3 : ∀ n, (down (fun i => i) n).map (· + 1) = down (fun i => i + 1) n := by
    intro n
    induction n with
    | zero => rfl
    | succ n ih => rw [down, down, List.map_cons, ih]
  rw [e2, hc 0, e3]

/-- a table as one list -/
def flatL (m : Nat) (f : Nat → Nat → Int) : List Int := (List.range (m * m)).map fun x => f (x / m) (x % m)
theorem flatL_len (m : Nat) (f : Nat → Nat → Int) : (flatL m f).length = m * m := by simp [flatL]
theorem flat_parts {m i j : Nat} (hj : j < m) : (i * m + j) / m = i ∧ (i * m + j) % m = j := by
  rw [Nat.mul_comm]
  exact ⟨by rw [Nat.mul_add_div (by omega), Nat.div_eq_of_lt hj]; omega, by rw [Nat.mul_add_mod]; exact Nat.mod_eq_of_lt hj⟩
theorem flatL_get {m i j : Nat} (f : Nat → Nat → Int) (hi : i < m) (hj : j < m) : (flatL m f).getD (i * m + j) 0 = f i j := by
  unfold flatL
  rw [map_range_get _ (cell_lt hi hj), (flat_parts hj).1, (flat_parts hj).2]
def setF (f : Nat → Nat → Int) (i j : Nat) (x : Int) (a b : Nat) : Int := if a = i ∧ b = j then x else f a b
theorem flatL_congr {m : Nat} {f g : Nat → Nat → Int} (h : ∀ a b, a < m → b < m → f a b = g a b) : flatL m f = flatL m g := by
  unfold flatL
  apply List.map_congr_left
  intro x hx
  have hx := List.mem_range.1 hx
  rcases Nat.eq_zero_or_pos m with e | e
  · subst e; simp at hx
  · exact h _ _ (by rw [Nat.div_lt_iff_lt_mul e]; exact hx) (Nat.mod_lt _ e)
theorem flatL_set {m i j : Nat} (f : Nat → Nat → Int) (x : Int) (hi : i < m) (hj : j < m) : (flatL m f).set (i * m + j) x = flatL m (setF f i j x) := by
  refine ext_getD (n := m * m) (by simp [flatL_len]) (flatL_len _ _) fun v hv => ?_
  rw [getD_setM _ _ _ _ (by rw [flatL_len]; exact cell_lt hi hj)]
  have hm : 0 < m := by omega
  have e := Nat.div_add_mod v m
  have h1 : v / m < m := by rw [Nat.div_lt_iff_lt_mul hm]; exact hv
  have h2 := Nat.mod_lt v hm
  have e2 : v / m * m + v % m = v := by rw [Nat.mul_comm]; exact e
  rw [← e2, flatL_get _ h1 h2, flatL_get _ h1 h2]
  unfold setF
  by_cases c : i * m + j = v / m * m + v % m
  · have c2 := (cell_idx (N := m) hj h2).1 c
    rw [if_pos c, if_pos ⟨c2.1.symm, c2.2.symm⟩]
  · rw [if_neg c, if_neg (fun hh => c ((cell_idx (N := m) hj h2).2 ⟨hh.1.symm, hh.2.symm⟩))]
theorem flatL_zero (m : Nat) : flatL m (fun _ _ => 0) = List.replicate (m * m) 0 := by
  refine ext_getD (n := m * m) (flatL_len _ _) (by simp) fun v hv => ?_
  unfold flatL
  rw [map_range_get _ hv]
  simp [List.getD, hv]
/-- the table between two steps: rows ahead of i, and row i ahead of j, are new -/
def mixB (l : Nat → Row) (k i j a b : Nat) : Int := if k < a ∧ k < b ∧ (a < i ∨ (a = i ∧ b < j)) then bD l (k + 1) a b else bD l k a b
theorem mixB_start (l : Nat → Row) (k a b : Nat) : mixB l k (k + 1) (k + 1) a b = bD l k a b := by
  unfold mixB; rw [if_neg (by omega)]
theorem mixB_set {l : Nat → Row} {k i j a b : Nat} (h1 : k < i) (h2 : k < j) : setF (mixB l k i j) i j (bD l (k + 1) i j) a b = mixB l k i (j + 1) a b := by
  unfold setF mixB
  by_cases c : a = i ∧ b = j
  · obtain ⟨rfl, rfl⟩ := c
    rw [if_pos ⟨rfl, rfl⟩, if_pos (by omega)]
  · rw [if_neg c]
    by_cases d : k < a ∧ k < b ∧ (a < i ∨ a = i ∧ b < j)
    · rw [if_pos d, if_pos (by omega)]
    · rw [if_neg d, if_neg (by omega)]
theorem mixB_row {l : Nat → Row} {k i m a b : Nat} (hb : b < m) : mixB l k i m a b = mixB l k (i + 1) (k + 1) a b := by
  unfold mixB
  by_cases d : k < a ∧ k < b ∧ (a < i ∨ a = i ∧ b < m)
  · rw [if_pos d, if_pos (by omega)]
  · rw [if_neg d, if_neg (by omega)]
theorem mixB_k (l : Nat → Row) (k i j : Nat) : mixB l k i j k k = bD l k k k ∧ True := by
  unfold mixB; exact ⟨if_neg (by omega), trivial⟩
theorem mixB_done {l : Nat → Row} {k m a b : Nat} (ha : a < m) (h1 : k < a) (h2 : k < b) : mixB l k m (k + 1) a b = bD l (k + 1) a b := by
  unfold mixB; rw [if_pos (by omega)]
/-- what is read for one entry -/
theorem mixB_read {l : Nat → Row} {k i j : Nat} (h1 : k < i) (h2 : k < j) : mixB l k i j i j = bD l k i j ∧ mixB l k i j k k = bD l k k k ∧ mixB l k i j i k = bD l k i k ∧ mixB l k i j k j = bD l k k j := by
  unfold mixB
  exact ⟨if_neg (by omega), if_neg (by omega), if_neg (by omega), if_neg (by omega)⟩
theorem pow2_le {a b : Nat} (h : a ≤ b) : (2 : Int) ^ a ≤ ((2 ^ b : Nat) : Int) := by
  have := Nat.pow_le_pow_right (n := 2) (by omega) h
  exact_mod_cast this
theorem step_facts {m k i j : Nat} {l : Nat → Row} (hl : LapOk m l) (hm : m ≤ 7) (hp : ∀ a, a < k + 1 → bP l (a + 1) ≠ 0) (h1 : k < i) (h2 : k < j) (hi : i < m) (hj : j < m) :
    ∃ X Y : Int, bD l k i j * bD l k k k = X ∧ bD l k i k * bD l k k j = Y ∧ -1152921504606846976 ≤ X ∧ X ≤ 1152921504606846976 ∧ -1152921504606846976 ≤ Y ∧ Y ≤ 1152921504606846976 ∧ Int.tdiv (X - Y) (bP l k) = bD l (k + 1) i j ∧ 0 < bP l k ∧ bP l k ≤ 17179869184 ∧ -17179869184 ≤ bD l (k + 1) i j ∧ bD l (k + 1) i j ≤ 17179869184 := by
  have hpk : ∀ a, a < k → bP l (a + 1) ≠ 0 := fun a ha => hp a (by omega)
  have hb := fun a b (h3 : k ≤ a) (h4 : a < m) (h5 : b < m) => lap_big hl.lap hl.diag hl.tr k hpk a b h3 h4 h5
  have hpw : (2 : Int) ^ (4 * k + 10) ≤ 1073741824 := Int.le_trans (pow2_le (show (4 * k + 10) ≤ 30 by omega)) (by decide)
  have hq : ∀ x y : Int, -1073741824 ≤ x → x ≤ 1073741824 → -1073741824 ≤ y → y ≤ 1073741824 → -1152921504606846976 ≤ x * y ∧ x * y ≤ 1152921504606846976 := by
    intro x y a1 a2 a3 a4
    have n1 : x.natAbs ≤ 1073741824 := by omega
    have n2 : y.natAbs ≤ 1073741824 := by omega
    have n3 : (x * y).natAbs ≤ 1073741824 * 1073741824 := by rw [Int.natAbs_mul]; exact Nat.mul_le_mul n1 n2
    omega
  have b1 := hb i j (by omega) hi hj
  have b2 := hb k k (by omega) (by omega) (by omega)
  have b3 := hb i k (by omega) hi (by omega)
  have b4 := hb k j (by omega) (by omega) hj
  have q1 := hq (bD l k i j) (bD l k k k) (by omega) (by omega) (by omega) (by omega)
  have q2 := hq (bD l k i k) (bD l k k j) (by omega) (by omega) (by omega) (by omega)
  have hst := bD_step l k i j (hp k (by omega))
  have p0 := (lap_inv hl.lap k (by omega) hpk).1
  have hP : bP l k ≤ 17179869184 := by
    cases k with
    | zero => rw [bP_zero]; omega
    | succ k =>
      rw [bP_succ]
      have := (lap_big hl.lap hl.diag hl.tr k (fun a ha => hp a (by omega)) k k (by omega) (by omega) (by omega)).1
      have h9 : (2 : Int) ^ (4 * k + 10) ≤ 17179869184 := Int.le_trans (pow2_le (show (4 * k + 10) ≤ 34 by omega)) (by decide)
      omega
  have b5 := lap_big hl.lap hl.diag hl.tr (k + 1) hp i j (by omega) hi hj
  have hpw2 : (2 : Int) ^ (4 * (k + 1) + 10) ≤ 17179869184 := Int.le_trans (pow2_le (show (4 * (k + 1) + 10) ≤ 34 by omega)) (by decide)
  refine ⟨_, _, rfl, rfl, q1.1, q1.2, q2.1, q2.2, ?_, p0, hP, by omega, by omega⟩
  rw [hst]
  exact Int.mul_tdiv_cancel_left _ (by omega)
theorem piv_facts {m k : Nat} {l : Nat → Row} (hl : LapOk m l) (hm : m ≤ 7) (hp : ∀ a, a < k → bP l (a + 1) ≠ 0) (hk : k < m) : -17179869184 ≤ bD l k k k ∧ bD l k k k ≤ 17179869184 := by
  have b5 := lap_big hl.lap hl.diag hl.tr k hp k k (by omega) hk hk
  have hpw2 : (2 : Int) ^ (4 * k + 10) ≤ 17179869184 := Int.le_trans (pow2_le (show (4 * k + 10) ≤ 34 by omega)) (by decide)
  omega
/-- the arcs' steps on the reference's table, which lacks the first node -/
def lapS (xs : List ArcR) (k i j : Nat) : Int := lapK xs k (i + 1) (j + 1)
theorem lapS_both {xs : List ArcR} {k p q : Nat} (hf : frN xs k = p + 1) (ht : toN xs k = q + 1) (hne : p ≠ q) (a b : Nat) : setF (setF (setF (setF (lapS xs k) p p (lapS xs k p p + 1)) q q (lapS xs k q q + 1)) p q (lapS xs k p q - 1)) q p (lapS xs k q p - 1) a b = lapS xs (k + 1) a b := by
  have hne2 : ¬ q = p := fun e => hne e.symm
  unfold setF lapS
  rw [lapK]
  unfold arcD
  rw [hf, ht]
  grind
theorem lapS_fr {xs : List ArcR} {k p : Nat} (hf : frN xs k = p + 1) (ht : toN xs k = 0) (a b : Nat) : setF (lapS xs k) p p (lapS xs k p p + 1) a b = lapS xs (k + 1) a b := by
  unfold setF lapS
  rw [lapK]
  unfold arcD
  rw [hf, ht]
  grind
theorem lapS_to {xs : List ArcR} {k q : Nat} (hf : frN xs k = 0) (ht : toN xs k = q + 1) (a b : Nat) : setF (lapS xs k) q q (lapS xs k q q + 1) a b = lapS xs (k + 1) a b := by
  unfold setF lapS
  rw [lapK]
  unfold arcD
  rw [hf, ht]
  grind
theorem lapB_step {xs : List ArcR} {k p q : Nat} (hf : frN xs k = p) (ht : toN xs k = q) (hne : p ≠ q) (a b : Nat) : setF (setF (setF (setF (lapK xs k) p p (lapK xs k p p + 1)) q q (lapK xs k q q + 1)) p q (lapK xs k p q - 1)) q p (lapK xs k q p - 1) a b = lapK xs (k + 1) a b := by
  have hne2 : ¬ q = p := fun e => hne e.symm
  unfold setF
  rw [lapK]
  unfold arcD
  rw [hf, ht]
  grind
theorem setF_at (f : Nat → Nat → Int) (i j : Nat) (x : Int) : setF f i j x i j = x := by unfold setF; rw [if_pos ⟨rfl, rfl⟩]
theorem setF_ne {f : Nat → Nat → Int} {i j a b : Nat} {x : Int} (h : a ≠ i ∨ b ≠ j) : setF f i j x a b = f a b := by unfold setF; rw [if_neg (fun hh => by rcases h with h | h; exact h hh.1; exact h hh.2)]
/-- what TreesIn tells -/
def trB (nodes : Int) (xs : List ArcR) : Bool := validB nodes xs && decide (nodes ≤ 8)
def trV (nodes : Int) (xs : List ArcR) : Int := if trB nodes xs = true then bP (lapB xs) (nodes.toNat - 1) else 0
theorem trV_no {nodes : Int} {xs : List ArcR} (h : trB nodes xs = false) : trV nodes xs = 0 := by unfold trV; rw [if_neg (by rw [h]; decide)]
end Go.Proofs.Ytigaopfhjimpmaa
