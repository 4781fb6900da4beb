/- Whole numbers as floats: the word of an integer, and what sums, products and exact quotients of such words are. -/
import Derived.Test.YtnjipckpkcandaaDoorFst
namespace Go.Proofs.YtnjipckpkcandaaDoor
open Ieee
namespace Who
/-- what a format must be -/
structure Good (f : Format) (F L : Nat) : Prop where
  fb : f.fractionBits = F
  lp : f.leastPlace = -(L : Int)
  inf : f.infRung = (2 ^ f.exponentBits - 1) * 2 ^ F
  sw : f.signWeight = 2 ^ f.exponentBits * 2 ^ F
  le : F ≤ L
  room : L + 3 ≤ 2 ^ f.exponentBits
theorem good32 : Good single 23 149 := ⟨rfl, by decide, by decide +kernel, by decide +kernel, by decide, by decide +kernel⟩
theorem good64 : Good double 52 1074 := ⟨rfl, by decide +kernel, by decide +kernel, by decide +kernel, by decide, by decide +kernel⟩
theorem log_le {M F : Nat} (h : M < 2 ^ (F + 1)) : M.log2 ≤ F := by
  by_cases h0 : M = 0
  · rw [h0]; exact Nat.zero_le _
  · have := (Nat.log2_lt h0).2 h; omega
theorem log_self {M : Nat} (h0 : M ≠ 0) : 2 ^ M.log2 ≤ M ∧ M < 2 ^ (M.log2 + 1) := (Nat.log2_eq_iff h0 (k := M.log2)).1 rfl
theorem log_up {n : Nat} (h : n ≠ 0) (k : Nat) : (n <<< k).log2 = n.log2 + k := by
  have hk := Nat.two_pow_pos k
  rw [Nat.shiftLeft_eq, Nat.log2_eq_iff (Nat.mul_ne_zero h (by omega))]
  have h1 := log_self h
  constructor
  · rw [Nat.pow_add]; exact Nat.mul_le_mul_right _ h1.1
  · rw [show n.log2 + k + 1 = (n.log2 + 1) + k by omega, Nat.pow_add]; exact Nat.mul_lt_mul_of_pos_right h1.2 hk
theorem cut0 (n : Nat) (s : Bool) : Toward.even.cut s n 0 = n := by
  unfold Toward.cut
  simp [Nat.mod_one]
variable {f : Format} {F L : Nat}
/-- the word of a whole number -/
def W (f : Format) (s : Bool) (M : Nat) : Nat := f.nearest s M 0
theorem W_is (g : Good f F L) (s : Bool) {M : Nat} (h : M < 2 ^ (F + 1)) (h0 : M ≠ 0) :
    W f s M = f.word s ((L - (F - M.log2)) * 2 ^ F + M * 2 ^ (F - M.log2)) := by
  have hl := log_le h
  have h2 : M * 2 ^ (F - M.log2) < 2 ^ (F + 1) := by
    have := Nat.mul_lt_mul_of_pos_right (log_self h0).2 (Nat.two_pow_pos (F - M.log2))
    rw [← Nat.pow_add, show M.log2 + 1 + (F - M.log2) = F + 1 by omega] at this
    exact this
  unfold W Format.nearest
  rw [if_neg h0, g.fb, g.lp]
  have hlast : max (0 + (M.log2 : Int) - (F : Int)) (-(L : Int)) = (M.log2 : Int) - (F : Int) := by have := g.le; omega
  rw [hlast]
  have e1 : (0 - ((M.log2 : Int) - (F : Int))).toNat = F - M.log2 := by omega
  have e2 : ((M.log2 : Int) - (F : Int) - 0).toNat = 0 := by omega
  have e3 : ((M.log2 : Int) - (F : Int) - -(L : Int)).toNat = L - (F - M.log2) := by have := g.le; omega
  simp only [e1, e2, e3]
  rw [cut0, Nat.shiftLeft_eq]
  have hb : f.binade = 2 ^ F := by unfold Format.binade; rw [g.fb]
  rw [hb, Nat.min_eq_left]
  rw [g.inf]
  have := g.room
  have h3 : (L - (F - M.log2) + 2) * 2 ^ F ≤ (2 ^ f.exponentBits - 1) * 2 ^ F := Nat.mul_le_mul_right _ (by omega)
  rw [Nat.add_mul] at h3
  rw [Nat.pow_succ] at h2
  omega
theorem read_word (g : Good f F L) (s : Bool) {r : Nat} (h : r < f.signWeight) :
    f.read (f.word s r) = if r < f.binade then .number s r f.leastPlace
      else if r < f.infRung then .number s (f.binade + r % f.binade) (f.leastPlace + (r / f.binade - 1 : Nat))
      else if r = f.infRung then .infinity s else .nan s (r - f.infRung) := by
  have e1 : f.word s r % f.signWeight = r := by
    unfold Format.word
    cases s
    · exact Nat.mod_eq_of_lt h
    · rw [if_pos rfl, Nat.add_mod_left, Nat.mod_eq_of_lt h]
  have e2 : (f.word s r / f.signWeight % 2 == 1) = s := by
    unfold Format.word
    cases s
    · rw [if_neg (by decide), Nat.div_eq_of_lt h]; rfl
    · rw [if_pos rfl, Nat.add_div_left _ (by omega), Nat.div_eq_of_lt h]; rfl
  unfold Format.read
  simp only [e1, e2]
/-- what the word of a whole number stands for -/
theorem rd (g : Good f F L) (s : Bool) {M : Nat} (h : M < 2 ^ (F + 1)) : ∃ q : Nat, f.read (W f s M) = .number s (M * 2 ^ q) (-(q : Int)) := by
  have hb : f.binade = 2 ^ F := by unfold Format.binade; rw [g.fb]
  have hp := Nat.two_pow_pos F
  by_cases h0 : M = 0
  · refine ⟨L, ?_⟩
    rw [h0]
    have : W f s 0 = f.word s 0 := by unfold W Format.nearest; rw [if_pos rfl]
    rw [this, read_word g s (by rw [g.sw]; exact Nat.mul_pos (Nat.two_pow_pos _) hp), if_pos (by rw [hb]; exact hp), g.lp, Nat.zero_mul]
  · have hl := log_le h
    refine ⟨F - M.log2, ?_⟩
    rw [W_is g s h h0]
    have h1 : 2 ^ F ≤ M * 2 ^ (F - M.log2) := by
      have := Nat.mul_le_mul_right (2 ^ (F - M.log2)) (log_self h0).1
      rw [← Nat.pow_add, show M.log2 + (F - M.log2) = F by omega] at this
      exact this
    have h2 : M * 2 ^ (F - M.log2) < 2 ^ F * 2 := by
      have := Nat.mul_lt_mul_of_pos_right (log_self h0).2 (Nat.two_pow_pos (F - M.log2))
      rw [← Nat.pow_add, show M.log2 + 1 + (F - M.log2) = F + 1 by omega, Nat.pow_succ] at this
      exact this
    generalize M * 2 ^ (F - M.log2) = K at h1 h2
    have hr := g.room
    have hle := g.le
    generalize hE : F - M.log2 = e at *
    have heL : e ≤ L := by omega
    have hsum : (L - e) * 2 ^ F + K < (L - e + 2) * 2 ^ F := by rw [Nat.add_mul]; omega
    have hinf : (L - e + 2) * 2 ^ F ≤ f.infRung := by rw [g.inf]; exact Nat.mul_le_mul_right _ (by omega)
    have hsw : f.infRung < f.signWeight := f.infRung_lt
    rw [read_word g s (by omega), if_neg (by rw [hb]; omega), if_pos (by omega), hb, g.lp]
    have hdv : ((L - e) * 2 ^ F + K) / 2 ^ F = L - e + 1 := by
      rw [Nat.div_eq_iff hp]
      rw [Nat.add_mul, Nat.one_mul]
      omega
    have hmd : ((L - e) * 2 ^ F + K) % 2 ^ F = K - 2 ^ F := by
      have := Nat.div_add_mod ((L - e) * 2 ^ F + K) (2 ^ F)
      rw [hdv, Nat.mul_add, Nat.mul_one, Nat.mul_comm] at this
      omega
    rw [hdv, hmd]
    congr 1
    · omega
    · omega
/-- whatever stands for a whole number is written as its word -/
theorem wr (g : Good f F L) (s : Bool) {M : Nat} (h : M < 2 ^ (F + 1)) (q : Nat) : f.write (.number s (M * 2 ^ q) (-(q : Int))) = W f s M := by
  show f.nearest s (M * 2 ^ q) (-(q : Int)) = f.nearest s M 0
  by_cases h0 : M = 0
  · rw [h0, Nat.zero_mul]; unfold Format.nearest; rw [if_pos rfl, if_pos rfl]
  · rw [Fst.near_scale f s M q _ h0 (by rw [g.fb]; exact log_le h) (by rw [g.lp]; omega), show -(q : Int) + q = 0 by omega]
/-- a number with its sign -/
def sgn (s : Bool) (M : Nat) : Int := if s then -(M : Int) else M
theorem signed_is (s : Bool) (M q : Nat) : signed s (M * 2 ^ q) 0 = sgn s M * 2 ^ q := by
  unfold signed sgn
  cases s <;> simp [Nat.shiftLeft_eq, Int.neg_mul]
theorem signed_up (s : Bool) (M q u : Nat) : signed s (M * 2 ^ q) u = sgn s M * 2 ^ (q + u) := by
  unfold signed sgn
  cases s <;> simp [Nat.shiftLeft_eq, Int.neg_mul, Int.pow_add, Int.mul_assoc]
/-- b stands for the whole number n -/
def IsI (f : Format) (F : Nat) (b : Nat) (n : Int) : Prop := ∃ s M, ∃ q : Nat, f.read b = .number s (M * 2 ^ q) (-(q : Int)) ∧ sgn s M = n ∧ M < 2 ^ (F + 1)
theorem sgn_abs (s : Bool) (M : Nat) : (sgn s M).natAbs = M := by unfold sgn; cases s <;> simp
theorem isI_W (g : Good f F L) (s : Bool) {M : Nat} (h : M < 2 ^ (F + 1)) : IsI f F (W f s M) (sgn s M) := by
  obtain ⟨q, hq⟩ := rd g s h
  exact ⟨s, M, q, hq, rfl, h⟩
theorem sum_rd (g : Good f F L) {d e : Datum} {q r : Nat} {s t : Bool} {M N : Nat} (hq : d = .number s (M * 2 ^ q) (-(q : Int))) (hr : e = .number t (N * 2 ^ r) (-(r : Int))) (h : (sgn s M + sgn t N).natAbs < 2 ^ (F + 1)) :
    (d.sum e).map f.write = some (W f (if sgn s M + sgn t N = 0 then s && t else decide (sgn s M + sgn t N < 0)) (sgn s M + sgn t N).natAbs) := by
  rw [hq, hr]
  show some (f.write _) = _
  generalize hu : max q r = u
  have e1 : (-(q : Int) - min (-(q : Int)) (-(r : Int))).toNat = u - q := by omega
  have e2 : (-(r : Int) - min (-(q : Int)) (-(r : Int))).toNat = u - r := by omega
  have e3 : min (-(q : Int)) (-(r : Int)) = -(u : Int) := by omega
  simp only [e1, e2]
  rw [signed_up, signed_up, show q + (u - q) = u by omega, show r + (u - r) = u by omega, ← Int.add_mul, e3]
  generalize sgn s M + sgn t N = x at h
  have hp : (0 : Int) < 2 ^ u := Int.pow_pos (by decide)
  have z1 : (x * 2 ^ u = 0) ↔ (x = 0) := by
    rw [Int.mul_eq_zero]
    constructor
    · rintro (h | h)
      · exact h
      · omega
    · exact Or.inl
  have z2 : (x * 2 ^ u < 0) ↔ (x < 0) := by
    constructor
    · intro h
      by_cases hx : x < 0
      · exact hx
      · have := Int.mul_nonneg (show 0 ≤ x by omega) (Int.le_of_lt hp); omega
    · intro h; exact Int.mul_neg_of_neg_of_pos h hp
  have z3 : (x * 2 ^ u).natAbs = x.natAbs * 2 ^ u := by rw [Int.natAbs_mul, Int.natAbs_pow]; rfl
  simp only [z1, z2, z3]
  rw [wr g _ h]
theorem sgn_of (x : Int) (z : Bool) : sgn (if x = 0 then z else decide (x < 0)) x.natAbs = x := by
  unfold sgn
  by_cases h0 : x = 0
  · rw [if_pos h0, h0]; cases z <;> rfl
  · rw [if_neg h0]
    by_cases h1 : x < 0
    · rw [decide_eq_true h1, if_pos rfl]; omega
    · rw [decide_eq_false h1, if_neg (by decide)]; omega
theorem isI_of (g : Good f F L) (x : Int) (z : Bool) (h : x.natAbs < 2 ^ (F + 1)) : IsI f F (W f (if x = 0 then z else decide (x < 0)) x.natAbs) x := by
  have := isI_W g (if x = 0 then z else decide (x < 0)) h
  rw [sgn_of] at this
  exact this
theorem add_I (g : Good f F L) {a b : Nat} {x y : Int} (ha : IsI f F a x) (hb : IsI f F b y) (h : (x + y).natAbs < 2 ^ (F + 1)) : ∃ r, f.add a b = some r ∧ IsI f F r (x + y) := by
  obtain ⟨s, M, q, hq, rfl, _⟩ := ha
  obtain ⟨t, N, r, hr, rfl, _⟩ := hb
  exact ⟨_, sum_rd g hq hr h, isI_of g _ _ h⟩
theorem sgn_not (s : Bool) (M : Nat) : sgn (!s) M = -sgn s M := by unfold sgn; cases s <;> simp
theorem sub_I (g : Good f F L) {a b : Nat} {x y : Int} (ha : IsI f F a x) (hb : IsI f F b y) (h : (x - y).natAbs < 2 ^ (F + 1)) : ∃ r, f.sub a b = some r ∧ IsI f F r (x - y) := by
  obtain ⟨s, M, q, hq, rfl, _⟩ := ha
  obtain ⟨t, N, r, hr, rfl, hN⟩ := hb
  have h2 : (sgn s M + sgn (!t) N).natAbs < 2 ^ (F + 1) := by rw [sgn_not, ← Int.sub_eq_add_neg]; exact h
  rw [show sgn s M - sgn t N = sgn s M + sgn (!t) N by rw [sgn_not]; omega]
  exact ⟨_, sum_rd g hq (show (f.read b).opposite = .number (!t) (N * 2 ^ r) (-(r : Int)) by rw [hr]; rfl) h2, isI_of g _ _ h2⟩
theorem sgn_xor (s t : Bool) (M N : Nat) : sgn (s ^^ t) (M * N) = sgn s M * sgn t N := by
  unfold sgn; cases s <;> cases t <;> simp [Int.neg_mul, Int.mul_neg]
theorem mul_rd (g : Good f F L) {a b q r : Nat} {s t : Bool} {M N : Nat} (hq : f.read a = .number s (M * 2 ^ q) (-(q : Int))) (hr : f.read b = .number t (N * 2 ^ r) (-(r : Int))) (h : M * N < 2 ^ (F + 1)) :
    f.mul a b = some (W f (s ^^ t) (M * N)) := by
  unfold Format.mul
  rw [hq, hr]
  show some (f.nearest (s ^^ t) (M * 2 ^ q * (N * 2 ^ r)) (-(q : Int) + -(r : Int))) = _
  rw [show M * 2 ^ q * (N * 2 ^ r) = M * N * 2 ^ (q + r) by rw [Nat.pow_add]; ac_rfl, show -(q : Int) + -(r : Int) = -((q + r : Nat) : Int) by omega]
  exact congrArg some (wr g _ h _)
theorem mul_I (g : Good f F L) {a b : Nat} {x y : Int} (ha : IsI f F a x) (hb : IsI f F b y) (h : (x * y).natAbs < 2 ^ (F + 1)) : ∃ r, f.mul a b = some r ∧ IsI f F r (x * y) := by
  obtain ⟨s, M, q, hq, rfl, _⟩ := ha
  obtain ⟨t, N, r, hr, rfl, _⟩ := hb
  rw [← sgn_xor, sgn_abs] at h
  rw [← sgn_xor]
  exact ⟨_, mul_rd g hq hr h, isI_W g _ h⟩
/-- an exact quotient -/
theorem quo_I (g : Good f F L) {a b : Nat} {x y : Int} (ha : IsI f F a (x * y)) (hb : IsI f F b y) (hy : y ≠ 0) (hx : x.natAbs < 2 ^ (F + 1)) : ∃ r, f.div a b = some r ∧ IsI f F r x := by
  obtain ⟨s, A, q, hq, ea, hA⟩ := ha
  obtain ⟨t, B, r, hr, eb, _⟩ := hb
  have hB : B = y.natAbs := by rw [← eb, sgn_abs]
  have hAB : A = x.natAbs * B := by rw [hB, ← Int.natAbs_mul, ← ea, sgn_abs]
  have hB0 : 0 < B := by omega
  generalize hC : x.natAbs = C at *
  have hsx : sgn (s ^^ t) C = x := by
    apply Int.eq_of_mul_eq_mul_right hy
    rw [← ea, ← eb, ← sgn_xor, hAB]
    congr 1
    cases s <;> cases t <;> rfl
  rw [← hsx]
  refine ⟨W f (s ^^ t) C, ?_, isI_W g _ hx⟩
  unfold Format.div
  rw [hq, hr]
  have hn0 : B * 2 ^ r ≠ 0 := Nat.mul_ne_zero (by omega) (Nat.pos_iff_ne_zero.1 (Nat.two_pow_pos _))
  show (Datum.quotient (f.fractionBits + 2) (.number s (A * 2 ^ q) (-(q : Int))) (.number t (B * 2 ^ r) (-(r : Int)))).map f.write = _
  dsimp only [Datum.quotient]
  rw [if_neg hn0]
  have hlB : (B * 2 ^ r).log2 = B.log2 + r := by rw [← Nat.shiftLeft_eq]; exact log_up (by omega) r
  rw [g.fb, hlB]
  by_cases hC0 : C = 0
  · have hA0 : A = 0 := by rw [hAB, hC0, Nat.zero_mul]
    rw [hA0, hC0]
    show some (f.nearest _ _ _) = some (f.nearest _ _ _)
    have z : ∀ k : Nat, 2 * ((0 * 2 ^ q) <<< k / (B * 2 ^ r)) + ((0 * 2 ^ q) <<< k % (B * 2 ^ r) != 0).toNat = 0 := fun k => by
      rw [Nat.zero_mul, Nat.zero_shiftLeft, Nat.zero_div, Nat.zero_mod]; rfl
    rw [z]
    unfold Format.nearest
    rw [if_pos rfl, if_pos rfl]
  · have hA0 : A ≠ 0 := by rw [hAB]; exact Nat.mul_ne_zero hC0 (by omega)
    have hlA : (A * 2 ^ q).log2 = A.log2 + q := by rw [← Nat.shiftLeft_eq]; exact log_up hA0 q
    have hl := log_le hA
    rw [hlA]
    generalize hmo : F + 2 + (B.log2 + r) - (A.log2 + q) = more
    have hk : r ≤ q + more := by omega
    have hd : (A * 2 ^ q) <<< more = C * 2 ^ (q + more - r) * (B * 2 ^ r) := by
      rw [Nat.shiftLeft_eq, Nat.mul_assoc, ← Nat.pow_add, hAB, show q + more = (q + more - r) + r by omega, Nat.pow_add, Nat.add_sub_cancel]
      ac_rfl
    rw [hd, Nat.mul_div_cancel _ (by omega), Nat.mul_mod_left]
    show some (f.write _) = _
    rw [show 2 * (C * 2 ^ (q + more - r)) + (0 != 0).toNat = C * 2 ^ (q + more - r + 1) by rw [Nat.pow_succ]; show 2 * _ + 0 = _; rw [Nat.add_zero]; ac_rfl,
      show -(q : Int) - -(r : Int) - (more : Int) - 1 = -((q + more - r + 1 : Nat) : Int) by omega, wr g _ hx]
theorem cmp_lt {x y : Int} (h : x < y) : compare x y = .lt := by
  show compareOfLessAndEq x y = .lt
  unfold compareOfLessAndEq; rw [if_pos h]
theorem cmp_gt {x y : Int} (h : y < x) : compare x y = .gt := by
  show compareOfLessAndEq x y = .gt
  unfold compareOfLessAndEq; rw [if_neg (by omega), if_neg (by omega)]
theorem order_I {a b : Nat} {x y : Int} (ha : IsI f F a x) (hb : IsI f F b y) : f.order a b = some (compare x y) := by
  obtain ⟨s, M, q, hq, rfl, _⟩ := ha
  obtain ⟨t, N, r, hr, rfl, _⟩ := hb
  unfold Format.order
  rw [hq, hr]
  show some (compare _ _) = _
  generalize hu : max q r = u
  have e1 : (-(q : Int) - min (-(q : Int)) (-(r : Int))).toNat = u - q := by omega
  have e2 : (-(r : Int) - min (-(q : Int)) (-(r : Int))).toNat = u - r := by omega
  simp only [e1, e2]
  rw [signed_up, signed_up, show q + (u - q) = u by omega, show r + (u - r) = u by omega]
  have hp : (0 : Int) < 2 ^ u := Int.pow_pos (by decide)
  generalize sgn s M = x
  generalize sgn t N = y
  congr 1
  rcases Int.lt_trichotomy x y with h | h | h
  · rw [cmp_lt h, cmp_lt (Int.mul_lt_mul_of_pos_right h hp)]
  · rw [h, Std.compare_self, Std.compare_self]
  · rw [cmp_gt h, cmp_gt (Int.mul_lt_mul_of_pos_right h hp)]
theorem eq_I {a b : Nat} {x y : Int} (ha : IsI f F a x) (hb : IsI f F b y) : (f.order a b == some .eq) = decide (x = y) := by
  rw [order_I ha hb]
  by_cases h : x = y
  · rw [h, Std.compare_self, decide_eq_true rfl]; rfl
  · rw [decide_eq_false h]
    rcases Int.lt_trichotomy x y with h2 | h2 | h2
    · rw [cmp_lt h2]; rfl
    · exact absurd h2 h
    · rw [cmp_gt h2]; rfl
theorem neg_I {a b : Nat} {x : Int} (h : f.read b = (f.read a).opposite) (ha : IsI f F a x) : IsI f F b (-x) := by
  obtain ⟨s, M, q, hq, rfl, hM⟩ := ha
  refine ⟨!s, M, q, ?_, sgn_not s M, hM⟩
  rw [h, hq]; rfl
theorem toInt_I {a : Nat} {x : Int} (ha : IsI f F a x) : (f.read a).toInt .zero = some x := by
  obtain ⟨s, M, q, hq, rfl, hM⟩ := ha
  rw [hq]
  unfold Datum.toInt Datum.integral
  have e1 : (-(q : Int)).toNat = 0 := by omega
  have e2 : (- -(q : Int)).toNat = q := by omega
  simp only [e1, e2, Nat.shiftLeft_zero]
  have : Toward.zero.cut s (M * 2 ^ q) q = M := by
    unfold Toward.cut
    by_cases h0 : M = 0
    · rw [h0, Nat.zero_mul]; simp
    · have hl : (M * 2 ^ q).log2 = M.log2 + q := by rw [← Nat.shiftLeft_eq]; exact log_up h0 q
      rw [hl, Nat.min_eq_left (by omega), Nat.shiftLeft_eq, Nat.one_mul]
      show M * 2 ^ q / 2 ^ q + 0 = M
      rw [Nat.mul_div_cancel _ (Nat.two_pow_pos q), Nat.add_zero]
  rw [this]
  show some (signed s M 0) = _
  have := signed_is s M 0
  rw [Nat.pow_zero, Nat.mul_one] at this
  rw [this, Int.pow_zero, Int.mul_one]
/-- whole numbers as the model's floats -/
def I32 (b : Nat) (n : Int) : Prop := IsI single 23 b n
def I64 (b : Nat) (n : Int) : Prop := IsI double 52 b n
theorem nan_W (g : Good f F L) (s : Bool) {M : Nat} (h : M < 2 ^ (F + 1)) : (f.read (W f s M)).isInfinity = false := by
  obtain ⟨q, hq⟩ := rd g s h
  rw [hq]; rfl
theorem wid_I {a : Nat} {x : Int} (ha : I32 a x) : ∃ r, floatToFloatBits .f32 a .f64 = some r ∧ I64 r x := by
  obtain ⟨s, M, q, hq, rfl, hM⟩ := ha
  have hM2 : M < 2 ^ (52 + 1) := by omega
  refine ⟨W double s M, ?_, isI_W good64 s hM2⟩
  unfold floatToFloatBits
  rw [if_neg (by decide), show FloatKind.f32.decode a = .number s (M * 2 ^ q) (-(q : Int)) from hq]
  dsimp only
  rw [show FloatKind.f64.encode (.number s (M * 2 ^ q) (-(q : Int))) = W double s M from wr good64 s hM2 q]
  rw [show (FloatKind.f64.decode (W double s M)).isInfinity = false from nan_W good64 s hM2]
  rfl
theorem nar_I {a : Nat} {x : Int} (ha : I64 a x) (hx : x.natAbs < 2 ^ 24) : ∃ r, floatToFloatBits .f64 a .f32 = some r ∧ I32 r x := by
  obtain ⟨s, M, q, hq, rfl, hM⟩ := ha
  rw [sgn_abs] at hx
  have hM2 : M < 2 ^ (23 + 1) := hx
  refine ⟨W single s M, ?_, isI_W good32 s hM2⟩
  unfold floatToFloatBits
  rw [if_neg (by decide), show FloatKind.f64.decode a = .number s (M * 2 ^ q) (-(q : Int)) from hq]
  dsimp only
  rw [show FloatKind.f32.encode (.number s (M * 2 ^ q) (-(q : Int))) = W single s M from wr good32 s hM2 q]
  rw [show (FloatKind.f32.decode (W single s M)).isInfinity = false from nan_W good32 s hM2]
  rfl
theorem int_I32 {a : Nat} {x : Int} (ha : I32 a x) (hx : x.natAbs < 2 ^ 24) : floatToIntVal .f32 a .i64 = some x := by
  unfold floatToIntVal
  rw [show (FloatKind.f32.decode a).toInt .zero = some x from toInt_I ha]
  dsimp only
  rw [if_pos]
  constructor
  · show (-9223372036854775808 : Int) ≤ x; omega
  · show x ≤ (9223372036854775807 : Int); omega
theorem of_I32 {x : Int} (hx : x.natAbs < 2 ^ 24) : I32 (single.nearest (decide (x < 0)) x.natAbs 0) x := by
  have h := isI_of good32 x false hx
  have e : (if x = 0 then false else decide (x < 0)) = decide (x < 0) := by
    by_cases h0 : x = 0
    · rw [if_pos h0, h0]; rfl
    · rw [if_neg h0]
  rw [e] at h
  exact h
/-- the word of a square -/
theorem sq_P {a : Nat} {x : Int} (ha : I64 a x) (hx : x.natAbs * x.natAbs < 2 ^ 53) : floatBits .mul .f64 a a = some (W double false (x.natAbs * x.natAbs)) := by
  obtain ⟨s, M, q, hq, rfl, hM⟩ := ha
  rw [sgn_abs] at hx ⊢
  have := mul_rd good64 hq hq hx
  rw [Bool.xor_self] at this
  exact this
theorem add_P {M N : Nat} (h : M + N < 2 ^ 53) : floatBits .add .f64 (W double false M) (W double false N) = some (W double false (M + N)) := by
  obtain ⟨q, hq⟩ := rd good64 false (M := M) (by omega)
  obtain ⟨r, hr⟩ := rd good64 false (M := N) (by omega)
  have e : sgn false M + sgn false N = ((M + N : Nat) : Int) := by unfold sgn; simp
  have := sum_rd good64 hq hr (by rw [e]; exact h)
  rw [e] at this
  have e2 : (if ((M + N : Nat) : Int) = 0 then false && false else decide (((M + N : Nat) : Int) < 0)) = false := by
    split
    · rfl
    · exact decide_eq_false (by omega)
  rw [e2] at this
  exact this
theorem wid_P {M : Nat} (h : M < 2 ^ 24) : floatToFloatBits .f32 (W single false M) .f64 = some (W double false M) := by
  obtain ⟨q, hq⟩ := rd good32 false (M := M) h
  have hM2 : M < 2 ^ (52 + 1) := by omega
  unfold floatToFloatBits
  rw [if_neg (by decide), show FloatKind.f32.decode (W single false M) = .number false (M * 2 ^ q) (-(q : Int)) from hq]
  dsimp only
  rw [show FloatKind.f64.encode (.number false (M * 2 ^ q) (-(q : Int))) = W double false M from wr good64 false hM2 q]
  rw [show (FloatKind.f64.decode (W double false M)).isInfinity = false from nan_W good64 false hM2]
  rfl
theorem nar_P {M : Nat} (h : M < 2 ^ 24) : floatToFloatBits .f64 (W double false M) .f32 = some (W single false M) := by
  obtain ⟨q, hq⟩ := rd good64 false (M := M) (by omega)
  unfold floatToFloatBits
  rw [if_neg (by decide), show FloatKind.f64.decode (W double false M) = .number false (M * 2 ^ q) (-(q : Int)) from hq]
  dsimp only
  rw [show FloatKind.f32.encode (.number false (M * 2 ^ q) (-(q : Int))) = W single false M from wr good32 false h q]
  rw [show (FloatKind.f32.decode (W single false M)).isInfinity = false from nan_W good32 false h]
  rfl
end Who
end Go.Proofs.YtnjipckpkcandaaDoor
