/- All that the law FnProducts asks of two complex numbers with whole parts. -/
import Derived.Test.YtnjipckpkcandaaDoorSameC
namespace Go.Proofs.YtnjipckpkcandaaDoor
open Go.RowKit
namespace Who
theorem of32_P (n : Nat) : of32 (n : Int) = W Ieee.single false n := by
  unfold of32 W
  rw [decide_eq_false (by omega), Int.natAbs_natCast]
theorem nar_lt {r z : Nat} (h : floatToFloatBits .f64 r .f32 = some z) : z < 4294967296 := by
  have hwf : ∀ d : Ieee.Datum, FloatKind.f32.encode d < 4294967296 := fun d => by
    have := encode_wf FloatKind.f32 d
    simp [Lit.wf] at this
    exact this
  unfold floatToFloatBits at h
  rw [if_neg (by decide)] at h
  split at h
  · cases h
  · injection h with h; subst h; exact hwf _
  · split at h
    · cases h
    · injection h with h; subst h; exact hwf _
theorem zero_I : I32 0 0 := by
  have : (0 : Nat) = W Ieee.single false 0 := by decide +kernel
  have h := isI_P32 (M := 0) (by decide)
  rw [← this] at h
  exact h
def eqF (a b : Nat) : Bool := FloatKind.f32.format.order a b == some .eq
theorem eqF_of {a b : Nat} {x y : Int} (h1 : I32 a x) (h2 : I32 b y) : eqF a b = decide (x = y) := eq_I h1 h2
end Who
open Who
structure ProdF (a1 a2 b1 b2 : Nat) (x y u v : Int) (r1 r2 s1 s2 k l m1 m2 z q1 q2 c1 c2 d1 d2 : Nat) : Prop where
  xa : floatToIntVal .f32 a1 .i64 = some x
  ya : floatToIntVal .f32 a2 .i64 = some y
  ub : floatToIntVal .f32 b1 .i64 = some u
  vb : floatToIntVal .f32 b2 .i64 = some v
  b11 : -40000 ≤ x * u ∧ x * u ≤ 40000
  b22 : -40000 ≤ y * v ∧ y * v ≤ 40000
  b12 : -40000 ≤ x * v ∧ x * v ≤ 40000
  b21 : -40000 ≤ y * u ∧ y * u ≤ 40000
  bxx : -40000 ≤ x * x ∧ x * x ≤ 40000
  byy : -40000 ≤ y * y ∧ y * y ≤ 40000
  mul : ∀ w : World, Calls Tryd.prog 6 #[.complex .f32 a1 a2, .complex .f32 b1 b2] w fun e w' => e = .returned (.complex .f32 r1 r2) ∧ w = w'
  e1 : eqF r1 (of32 (x * u - y * v)) = true
  e2 : eqF r2 (of32 (x * v + y * u)) = true
  mul2 : ∀ w : World, Calls Tryd.prog 6 #[.complex .f32 b1 b2, .complex .f32 a1 a2] w fun e w' => e = .returned (.complex .f32 s1 s2) ∧ w = w'
  e3 : eqF s1 r1 = true
  e4 : eqF s2 r2 = true
  pow : ∀ w : World, Calls Tryd.prog 7 #[.complex .f32 a1 a2] w fun e w' => e = .returned (.float .f32 k) ∧ w = w'
  e5 : eqF k (of32 (x * x + y * y)) = true
  conj : ∀ w : World, Calls Tryd.prog 8 #[.complex .f32 a1 a2] w fun e w' => e = .returned (.complex .f32 a1 l) ∧ w = w'
  mul3 : ∀ w : World, Calls Tryd.prog 6 #[.complex .f32 a1 a2, .complex .f32 a1 l] w fun e w' => e = .returned (.complex .f32 m1 m2) ∧ w = w'
  e6 : eqF m1 (of32 (x * x + y * y)) = true
  e7 : eqF m2 0 = true
  long : ∀ w : World, Calls Tryd.prog 10 #[.complex .f32 a1 a2] w fun e w' => e = .returned (.float .f32 z) ∧ w = w'
  root : ∀ w : World, Calls Tryd.prog 11 #[.float .f32 (of32 (x * x + y * y))] w fun e w' => e = .returned (.float .f32 z) ∧ w = w'
  same : ∀ w : World, Calls Tryd.prog 9 #[.float .f32 z, .float .f32 z] w fun e w' => e = .returned (.bool true) ∧ w = w'
  quo : (eqF b1 0 && eqF b2 0) = false → ∀ w : World, Calls Tryd.prog 12 #[.complex .f32 r1 r2, .complex .f32 b1 b2] w fun e w' => e = .returned (.complex .f32 q1 q2) ∧ w = w'
  e8 : (eqF b1 0 && eqF b2 0) = false → eqF q1 a1 = true ∧ eqF q2 a2 = true
  scale : ∀ w : World, Calls Tryd.prog 13 #[.complex .f32 a1 a2, .float .f32 1073741824] w fun e w' => e = .returned (.complex .f32 c1 c2) ∧ w = w'
  ad1 : floatBits .add .f32 a1 a1 = some d1
  ad2 : floatBits .add .f32 a2 a2 = some d2
  e9 : eqF c1 d1 = true
  e10 : eqF c2 d2 = true
theorem bnd {x y : Int} (hx : x.natAbs ≤ 200) (hy : y.natAbs ≤ 200) : -40000 ≤ x * y ∧ x * y ≤ 40000 := by
  have := abs_mul_le hx hy
  omega
theorem prodF_at {a b : Nat × Nat} {x y u v : Int} (ha : C32 a x y) (hb : C32 b u v) (hx : x.natAbs ≤ 200) (hy : y.natAbs ≤ 200) (hu : u.natAbs ≤ 200) (hv : v.natAbs ≤ 200) :
    ∃ r1 r2 s1 s2 k l m1 m2 z q1 q2 c1 c2 d1 d2, ProdF a.1 a.2 b.1 b.2 x y u v r1 r2 s1 s2 k l m1 m2 z q1 q2 c1 c2 d1 d2 := by
  have b11 := bnd hx hu
  have b22 := bnd hy hv
  have b12 := bnd hx hv
  have b21 := bnd hy hu
  have bxx := bnd hx hx
  have byy := bnd hy hy
  obtain ⟨r, hr, ir⟩ := mul_C ha hb hx hy hu hv
  obtain ⟨s, hs, is⟩ := mul_C hb ha hu hv hx hy
  rw [show u * x - v * y = x * u - y * v by rw [Int.mul_comm u, Int.mul_comm v], show u * y + v * x = x * v + y * u by rw [Int.mul_comm u, Int.mul_comm v, Int.add_comm]] at is
  obtain ⟨hp1, hp2⟩ := pow_C ha hx hy
  have hP := pw_le hx hy
  have hPe := pw_is x y
  obtain ⟨m, hm, im⟩ := mul_C ha (conj_C ha) hx hy hx (by rw [Int.natAbs_neg]; exact hy)
  rw [show x * x - y * -y = x * x + y * y by rw [Int.mul_neg]; omega, show x * -y + y * x = 0 by rw [Int.mul_neg, Int.mul_comm y]; omega] at im
  have iof : ∀ n : Int, n.natAbs < 2 ^ 24 → I32 (of32 n) n := fun n hn => of_I32 hn
  have ip : I32 (W Ieee.single false (pw x y)) (x * x + y * y) := by rw [← hPe]; exact isI_P32 (by omega)
  have hof : of32 (x * x + y * y) = W Ieee.single false (pw x y) := by rw [← hPe]; exact of32_P _
  obtain ⟨rt, z, hrt, hz⟩ := root_at (P := pw x y) (by omega)
  obtain ⟨c1, c2, hc1, hc2, ic⟩ := scale_C ha hx hy
  obtain ⟨d1, d2, hd1, hd2, id⟩ := twice_C ha hx hy
  have key : ∃ q : Nat × Nat, (eqF b.1 0 && eqF b.2 0) = false → quoO r b = some q ∧ C32 q x y := by
    by_cases h0 : u = 0 ∧ v = 0
    · refine ⟨(0, 0), fun h => ?_⟩
      rw [eqF_of hb.1 zero_I, eqF_of hb.2 zero_I, h0.1, h0.2] at h
      simp at h
    · obtain ⟨q, hq, iq⟩ := quo_C ir hb hx hy hu hv h0
      exact ⟨q, fun _ => ⟨hq, iq⟩⟩
  obtain ⟨q, hq⟩ := key
  refine ⟨r.1, r.2, s.1, s.2, _, _, m.1, m.2, z, q.1, q.2, c1, c2, d1, d2, int_I32 ha.1 (by omega), int_I32 ha.2 (by omega), int_I32 hb.1 (by omega), int_I32 hb.2 (by omega), b11, b22, b12, b21, bxx, byy,
    fun w => mulC_any a b r hr w, ?_, ?_, fun w => mulC_any b a s hs w, ?_, ?_, fun w => power_any a _ hp2 w, ?_, fun w => conj_any a w, fun w => mulC_any a (a.1, Op.negFloat .f32 a.2) m hm w, ?_, ?_,
    fun w => long_any a _ _ _ hp1 hrt hz w, fun w => root_any _ _ _ _ (by rw [hof]; exact wid_P (by omega)) hrt hz w, fun w => ?_, fun h w => quo_any r b q (hq h).1 w, fun h => ?_, fun w => scale_any a _ _ _ hc1 hc2 w, hd1, hd2, ?_, ?_⟩
  · rw [eqF_of ir.1 (iof _ (by omega))]; simp
  · rw [eqF_of ir.2 (iof _ (by omega))]; simp
  · rw [eqF_of is.1 ir.1]; simp
  · rw [eqF_of is.2 ir.2]; simp
  · rw [eqF_of ip (iof _ (by omega))]; simp
  · rw [eqF_of im.1 (iof _ (by omega))]; simp
  · rw [eqF_of im.2 zero_I]; simp
  · refine (specSame_any z z (nar_lt hz) (nar_lt hz) w).mono ?_
    rintro e w1 ⟨rfl, rfl⟩
    exact ⟨by simp, rfl⟩
  · obtain ⟨_, iq⟩ := hq h
    rw [eqF_of iq.1 ha.1, eqF_of iq.2 ha.2]; simp
  · rw [eqF_of ic.1 id.1]; simp
  · rw [eqF_of ic.2 id.2]; simp
end Go.Proofs.YtnjipckpkcandaaDoor
