/- Complex numbers whose parts are whole: products, powers, quotients (plain). -/
import Derived.Test.YtnjipckpkcandaaDoorWhoR
import Derived.Test.YtnjipckpkcandaaDoorCirP
import Derived.Test.YtnjipckpkcandaaDoorNegF
namespace Go.Proofs.YtnjipckpkcandaaDoor
open Ieee
namespace Who
/-- both parts are whole numbers -/
def C32 (p : Nat × Nat) (x y : Int) : Prop := I32 p.1 x ∧ I32 p.2 y
theorem abs_mul_le {x y : Int} {m n : Nat} (h1 : x.natAbs ≤ m) (h2 : y.natAbs ≤ n) : (x * y).natAbs ≤ m * n := by
  rw [Int.natAbs_mul]; exact Nat.mul_le_mul h1 h2
theorem prod_I {p q : Nat × Nat} {x y u v : Int} (hp : C32 p x y) (hq : C32 q u v) (hx : x.natAbs ≤ 80000) (hy : y.natAbs ≤ 80000) (hu : u.natAbs ≤ 80000) (hv : v.natAbs ≤ 80000) :
    ∃ r, Cir.prodO Cir.gen p q = some r ∧ I64 r.1 (x * u - y * v) ∧ I64 r.2 (x * v + y * u) := by
  obtain ⟨a, ha, ia⟩ := wid_I hp.1
  obtain ⟨b, hb, ib⟩ := wid_I hp.2
  obtain ⟨c, hc, ic⟩ := wid_I hq.1
  obtain ⟨d, hd, id⟩ := wid_I hq.2
  have b1 := abs_mul_le hx hu
  have b2 := abs_mul_le hy hv
  have b3 := abs_mul_le hx hv
  have b4 := abs_mul_le hy hu
  obtain ⟨e1, he1, ie1⟩ := mul_I good64 ia ic (by omega)
  obtain ⟨e2, he2, ie2⟩ := mul_I good64 ib id (by omega)
  obtain ⟨r1, hr1, ir1⟩ := sub_I good64 ie1 ie2 (by omega)
  obtain ⟨e3, he3, ie3⟩ := mul_I good64 ia id (by omega)
  obtain ⟨e4, he4, ie4⟩ := mul_I good64 ib ic (by omega)
  obtain ⟨r2, hr2, ir2⟩ := add_I good64 ie3 ie4 (by omega)
  refine ⟨(r1, r2), ?_, ir1, ir2⟩
  unfold Cir.prodO Cir.gen
  dsimp only
  rw [ha, hb, hc, hd]
  simp only [Option.bind_some]
  rw [show floatBits .mul .f64 a c = some e1 from he1, show floatBits .mul .f64 b d = some e2 from he2]
  simp only [Option.bind_some]
  rw [show floatBits .sub .f64 e1 e2 = some r1 from hr1, show floatBits .mul .f64 a d = some e3 from he3, show floatBits .mul .f64 b c = some e4 from he4]
  simp only [Option.bind_some]
  rw [show floatBits .add .f64 e3 e4 = some r2 from hr2]
  rfl
theorem narP_I {a b : Nat} {x y : Int} (ha : I64 a x) (hb : I64 b y) (hx : x.natAbs < 2 ^ 24) (hy : y.natAbs < 2 ^ 24) : ∃ r, Cir.narP Cir.gen a b = some r ∧ C32 r x y := by
  obtain ⟨c, hc, ic⟩ := nar_I ha hx
  obtain ⟨d, hd, id⟩ := nar_I hb hy
  refine ⟨(c, d), ?_, ic, id⟩
  unfold Cir.narP Cir.gen
  dsimp only
  rw [hc, hd]
  rfl
theorem mul_C {p q : Nat × Nat} {x y u v : Int} (hp : C32 p x y) (hq : C32 q u v) (hx : x.natAbs ≤ 200) (hy : y.natAbs ≤ 200) (hu : u.natAbs ≤ 200) (hv : v.natAbs ≤ 200) :
    ∃ r, Cir.mulO Cir.gen p q = some r ∧ C32 r (x * u - y * v) (x * v + y * u) := by
  obtain ⟨r, hr, i1, i2⟩ := prod_I hp hq (by omega) (by omega) (by omega) (by omega)
  have b1 := abs_mul_le hx hu
  have b2 := abs_mul_le hy hv
  have b3 := abs_mul_le hx hv
  have b4 := abs_mul_le hy hu
  obtain ⟨s, hs, is⟩ := narP_I i1 i2 (by omega) (by omega)
  refine ⟨s, ?_, is⟩
  unfold Cir.mulO
  rw [hr]
  exact hs
/-- the power -/
def pw (x y : Int) : Nat := x.natAbs * x.natAbs + y.natAbs * y.natAbs
theorem pw_is (x y : Int) : (pw x y : Int) = x * x + y * y := by
  unfold pw
  rw [Int.natCast_add, Int.natAbs_mul_self, Int.natAbs_mul_self]
theorem pw_le {x y : Int} (hx : x.natAbs ≤ 200) (hy : y.natAbs ≤ 200) : pw x y ≤ 80000 := by
  have b1 := Nat.mul_le_mul hx hx
  have b2 := Nat.mul_le_mul hy hy
  unfold pw; omega
theorem pow_C {p : Nat × Nat} {x y : Int} (hp : C32 p x y) (hx : x.natAbs ≤ 200) (hy : y.natAbs ≤ 200) : Cir.powF Cir.gen p = some (W double false (pw x y)) ∧ Cir.powO Cir.gen p = some (W single false (pw x y)) := by
  obtain ⟨a, ha, ia⟩ := wid_I hp.1
  obtain ⟨b, hb, ib⟩ := wid_I hp.2
  have b1 := Nat.mul_le_mul hx hx
  have b2 := Nat.mul_le_mul hy hy
  have e1 := sq_P ia (by omega)
  have e2 := sq_P ib (by omega)
  have e3 := add_P (M := x.natAbs * x.natAbs) (N := y.natAbs * y.natAbs) (by omega)
  have key : Cir.powF Cir.gen p = some (W double false (pw x y)) := by
    unfold Cir.powF Cir.gen
    dsimp only
    rw [ha, hb]
    simp only [Option.bind_some]
    rw [e1, e2]
    simp only [Option.bind_some]
    rw [e3]; rfl
  refine ⟨key, ?_⟩
  unfold Cir.powO
  rw [key]
  exact nar_P (by have := pw_le hx hy; omega)
theorem conj_C {p : Nat × Nat} {x y : Int} (hp : C32 p x y) : C32 (p.1, Op.negFloat .f32 p.2) x (-y) := ⟨hp.1, neg_I (read_negF p.2) hp.2⟩
theorem isI_P32 {M : Nat} (h : M < 2 ^ 24) : I32 (W single false M) M := by
  have := isI_W good32 false h
  exact this
theorem isI_P64 {M : Nat} (h : M < 2 ^ 53) : I64 (W double false M) M := by
  have := isI_W good64 false h
  exact this
/-- what the program reckons as a quotient -/
def quoO (p q : Nat × Nat) : Option (Nat × Nat) := (Cir.prodO Cir.gen p (q.1, Op.negFloat .f32 q.2)).bind fun r => (Cir.powF Cir.gen q).bind fun w => (Cir.gen.quo r.1 w).bind fun a => (Cir.gen.quo r.2 w).bind fun b => Cir.narP Cir.gen a b
theorem quo_C {p q : Nat × Nat} {x y u v : Int} (hp : C32 p (x * u - y * v) (x * v + y * u)) (hq : C32 q u v) (hx : x.natAbs ≤ 200) (hy : y.natAbs ≤ 200) (hu : u.natAbs ≤ 200) (hv : v.natAbs ≤ 200) (h0 : ¬ (u = 0 ∧ v = 0)) :
    ∃ r, quoO p q = some r ∧ C32 r x y := by
  have b1 := abs_mul_le hx hu
  have b2 := abs_mul_le hy hv
  have b3 := abs_mul_le hx hv
  have b4 := abs_mul_le hy hu
  obtain ⟨r, hr, i1, i2⟩ := prod_I hp (conj_C hq) (by omega) (by omega) (by omega) (by omega)
  have e1 : (x * u - y * v) * u - (x * v + y * u) * -v = x * (pw u v : Nat) := by rw [pw_is]; grind
  have e2 : (x * u - y * v) * -v + (x * v + y * u) * u = y * (pw u v : Nat) := by rw [pw_is]; grind
  rw [e1] at i1
  rw [e2] at i2
  have hP := pw_le hu hv
  have hP0 : pw u v ≠ 0 := by
    intro h
    apply h0
    unfold pw at h
    have h1 : u.natAbs * u.natAbs = 0 := by omega
    have h2 : v.natAbs * v.natAbs = 0 := by omega
    have g1 := Nat.mul_eq_zero.1 h1
    have g2 := Nat.mul_eq_zero.1 h2
    omega
  obtain ⟨a, ha, ia⟩ := quo_I good64 i1 (isI_P64 (M := pw u v) (by omega)) (by omega) (by omega)
  obtain ⟨b, hb, ib⟩ := quo_I good64 i2 (isI_P64 (M := pw u v) (by omega)) (by omega) (by omega)
  obtain ⟨s, hs, is⟩ := narP_I ia ib (by omega) (by omega)
  refine ⟨s, ?_, is⟩
  unfold quoO
  rw [hr]
  simp only [Option.bind_some]
  rw [(pow_C hq hu hv).1]
  simp only [Option.bind_some]
  rw [show Cir.gen.quo r.1 (W double false (pw u v)) = some a from ha, show Cir.gen.quo r.2 (W double false (pw u v)) = some b from hb]
  exact hs
theorem two_I : I32 1073741824 2 := by
  have : (1073741824 : Nat) = W single false 2 := by decide +kernel
  rw [this]; exact isI_P32 (by decide)
theorem scale_C {p : Nat × Nat} {x y : Int} (hp : C32 p x y) (hx : x.natAbs ≤ 200) (hy : y.natAbs ≤ 200) : ∃ a b, floatBits .mul .f32 p.1 1073741824 = some a ∧ floatBits .mul .f32 p.2 1073741824 = some b ∧ C32 (a, b) (x + x) (y + y) := by
  obtain ⟨a, ha, ia⟩ := mul_I good32 hp.1 two_I (by omega)
  obtain ⟨b, hb, ib⟩ := mul_I good32 hp.2 two_I (by omega)
  rw [show x * 2 = x + x by omega] at ia
  rw [show y * 2 = y + y by omega] at ib
  exact ⟨a, b, ha, hb, ia, ib⟩
theorem twice_C {p : Nat × Nat} {x y : Int} (hp : C32 p x y) (hx : x.natAbs ≤ 200) (hy : y.natAbs ≤ 200) : ∃ a b, floatBits .add .f32 p.1 p.1 = some a ∧ floatBits .add .f32 p.2 p.2 = some b ∧ C32 (a, b) (x + x) (y + y) := by
  obtain ⟨a, ha, ia⟩ := add_I good32 hp.1 hp.1 (by omega)
  obtain ⟨b, hb, ib⟩ := add_I good32 hp.2 hp.2 (by omega)
  exact ⟨a, b, ha, hb, ia, ib⟩
theorem same_C {p q : Nat × Nat} {x y : Int} (hp : C32 p x y) (hq : C32 q x y) : (FloatKind.f32.format.order p.1 q.1 == some .eq) = true ∧ (FloatKind.f32.format.order p.2 q.2 == some .eq) = true := by
  constructor
  · rw [show (FloatKind.f32.format.order p.1 q.1 == some .eq) = decide (x = x) from eq_I hp.1 hq.1]; simp
  · rw [show (FloatKind.f32.format.order p.2 q.2 == some .eq) = decide (y = y) from eq_I hp.2 hq.2]; simp
end Who
end Go.Proofs.YtnjipckpkcandaaDoor
