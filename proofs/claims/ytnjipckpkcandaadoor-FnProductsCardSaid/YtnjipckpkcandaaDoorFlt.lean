/- Floats: numbers told by their bits, 'not a number' told as none; the steps of the walk. -/
import Derived.Laws.FloatArith
import Derived.Laws.Cover3
import Derived.Test.YtnjipckpkcandaaDoorMem
namespace Go.Proofs.YtnjipckpkcandaaDoor
open Go.RowKit

def nanK (k : FloatKind) (b : Nat) : Bool := (k.format.read b).isNaN
/-- the bits of a number, none for what is no number -/
def absK (k : FloatKind) (b : Nat) : Option Nat := if nanK k b = true then none else some b
theorem absK_some {k : FloatKind} {b r : Nat} (h : absK k b = some r) : b = r ∧ nanK k b = false := by
  unfold absK at h
  split at h
  · cases h
  · rename_i hn
    injection h with h
    exact ⟨h, by simpa using hn⟩
theorem absK_of {k : FloatKind} {b : Nat} (h : nanK k b = false) : absK k b = some b := by unfold absK; rw [if_neg (by rw [h]; decide)]
theorem absK_nan {k : FloatKind} {b : Nat} (h : nanK k b = true) : absK k b = none := by unfold absK; rw [if_pos h]

theorem sum_nan_l {d e : Ieee.Datum} (h : d.isNaN = true) : d.sum e = none := by
  cases d <;> simp [Ieee.Datum.isNaN] at h
  simp [Ieee.Datum.sum]
theorem sum_nan_r {d e : Ieee.Datum} (h : e.isNaN = true) : d.sum e = none := by
  cases e <;> simp [Ieee.Datum.isNaN] at h
  cases d <;> simp [Ieee.Datum.sum]
theorem opp_nan {d : Ieee.Datum} : d.opposite.isNaN = d.isNaN := by cases d <;> rfl
theorem product_nan_l {d e : Ieee.Datum} (h : d.isNaN = true) : d.product e = none := by
  cases d <;> simp [Ieee.Datum.isNaN] at h
  simp [Ieee.Datum.product]
theorem product_nan_r {d e : Ieee.Datum} (h : e.isNaN = true) : d.product e = none := by
  cases e <;> simp [Ieee.Datum.isNaN] at h
  cases d <;> simp [Ieee.Datum.product]
theorem quotient_nan_l {d e : Ieee.Datum} {n : Nat} (h : d.isNaN = true) : d.quotient n e = none := by
  cases d <;> simp [Ieee.Datum.isNaN] at h
  simp [Ieee.Datum.quotient]
theorem quotient_nan_r {d e : Ieee.Datum} {n : Nat} (h : e.isNaN = true) : d.quotient n e = none := by
  cases e <;> simp [Ieee.Datum.isNaN] at h
  cases d <;> simp [Ieee.Datum.quotient]
theorem order_nan_l {d e : Ieee.Datum} (h : d.isNaN = true) : d.order e = none := by
  cases d <;> simp [Ieee.Datum.isNaN] at h
  simp [Ieee.Datum.order]
theorem order_nan_r {d e : Ieee.Datum} (h : e.isNaN = true) : d.order e = none := by
  cases e <;> simp [Ieee.Datum.isNaN] at h
  cases d <;> simp [Ieee.Datum.order]
theorem floatBits_nan_l {op : BinOp} {k : FloatKind} {a b : Nat} (h : nanK k a = true) : floatBits op k a b = none := by
  unfold floatBits
  cases op <;> first | rfl | skip
  · show ((k.format.read a).sum _).map _ = none; rw [sum_nan_l h]; rfl
  · show ((k.format.read a).sum _).map _ = none; rw [sum_nan_l h]; rfl
  · show ((k.format.read a).product _).map _ = none; rw [product_nan_l h]; rfl
  · show ((k.format.read a).quotient _ _).map _ = none; rw [quotient_nan_l h]; rfl
theorem floatBits_nan_r {op : BinOp} {k : FloatKind} {a b : Nat} (h : nanK k b = true) : floatBits op k a b = none := by
  unfold floatBits
  cases op <;> first | rfl | skip
  · show ((k.format.read a).sum (k.format.read b)).map _ = none; rw [sum_nan_r h]; rfl
  · show ((k.format.read a).sum (k.format.read b).opposite).map _ = none; rw [sum_nan_r (by rw [opp_nan]; exact h)]; rfl
  · show ((k.format.read a).product (k.format.read b)).map _ = none; rw [product_nan_r h]; rfl
  · show ((k.format.read a).quotient _ (k.format.read b)).map _ = none; rw [quotient_nan_r h]; rfl
/-- what is written of a number or of an infinity is no 'not a number' -/
theorem word_read {k : FloatKind} {neg : Bool} {r : Nat} (h : r ≤ k.format.infRung) : (k.format.read (k.format.word neg r)).isNaN = false := by
  have hlt := k.format.infRung_lt
  have e : k.format.word neg r % k.format.signWeight = r := by
    unfold Ieee.Format.word
    split
    · rw [Nat.add_mod_left, Nat.mod_eq_of_lt (by omega)]
    · rw [Nat.mod_eq_of_lt (by omega)]
  unfold Ieee.Format.read
  simp only [e]
  split
  · rfl
  · split
    · rfl
    · split
      · rfl
      · omega
theorem write_no {k : FloatKind} {d : Ieee.Datum} (h : d.isNaN = false) : (k.format.read (k.format.write d)).isNaN = false := by
  cases d with
  | nan s f => simp [Ieee.Datum.isNaN] at h
  | infinity s => exact word_read (Nat.le_refl _)
  | number s m p =>
    show (k.format.read (k.format.nearest s m p)).isNaN = false
    unfold Ieee.Format.nearest
    split
    · exact word_read (Nat.zero_le _)
    · exact word_read (Nat.min_le_right _ _)
theorem sum_no {d e r : Ieee.Datum} (h : d.sum e = some r) : r.isNaN = false := by
  cases d <;> cases e <;> simp only [Ieee.Datum.sum] at h <;> first | (cases h; done) | skip
  · injection h with h; subst h; rfl
  · injection h with h; subst h; rfl
  · injection h with h; subst h; rfl
  · split at h
    · injection h with h; subst h; rfl
    · cases h
theorem product_no {d e r : Ieee.Datum} (h : d.product e = some r) : r.isNaN = false := by
  cases d <;> cases e <;> simp only [Ieee.Datum.product] at h <;> first | (cases h; done) | skip
  · injection h with h; subst h; rfl
  · split at h
    · cases h
    · injection h with h; subst h; rfl
  · split at h
    · cases h
    · injection h with h; subst h; rfl
  · injection h with h; subst h; rfl
theorem quotient_no {n : Nat} {d e r : Ieee.Datum} (h : d.quotient n e = some r) : r.isNaN = false := by
  cases d <;> cases e <;> simp only [Ieee.Datum.quotient] at h <;> first | (cases h; done) | skip
  · split at h
    · split at h
      · cases h
      · injection h with h; subst h; rfl
    · injection h with h; subst h; rfl
  · injection h with h; subst h; rfl
  · injection h with h; subst h; rfl
theorem map_write_no {k : FloatKind} {d : Option Ieee.Datum} {r : Nat} (h : d.map k.format.write = some r) (h2 : ∀ x, d = some x → x.isNaN = false) : nanK k r = false := by
  cases d with
  | none => cases h
  | some x =>
    injection h with h
    subst h
    exact write_no (h2 x rfl)
theorem floatBits_no {op : BinOp} {k : FloatKind} {a b r : Nat} (h : floatBits op k a b = some r) : nanK k r = false := by
  unfold floatBits at h
  split at h
  · exact map_write_no h (fun x hx => sum_no hx)
  · exact map_write_no h (fun x hx => sum_no hx)
  · exact map_write_no h (fun x hx => product_no hx)
  · exact map_write_no h (fun x hx => quotient_no hx)
  · cases h
/-- an operation on numbers told so -/
def fop (op : BinOp) (k : FloatKind) (x y : Option Nat) : Option Nat :=
  match x, y with
  | some a, some b => floatBits op k a b
  | _, _ => none
theorem fop_abs (op : BinOp) (k : FloatKind) (a b : Nat) : fop op k (absK k a) (absK k b) = floatBits op k a b := by
  cases ha : nanK k a
  · cases hb : nanK k b
    · rw [absK_of ha, absK_of hb]; rfl
    · rw [absK_nan hb, floatBits_nan_r hb]
      cases absK k a <;> rfl
  · rw [absK_nan ha, floatBits_nan_l ha]; rfl
/-- how two numbers told so stand to each other -/
def ford (k : FloatKind) (x y : Option Nat) : Option Ordering :=
  match x, y with
  | some a, some b => k.format.order a b
  | _, _ => none
theorem ford_abs (k : FloatKind) (a b : Nat) : k.format.order a b = ford k (absK k a) (absK k b) := by
  cases ha : nanK k a
  · cases hb : nanK k b
    · rw [absK_of ha, absK_of hb]; rfl
    · rw [absK_nan hb]
      have h1 : k.format.order a b = none := order_nan_r hb
      rw [h1]
      cases absK k a <;> rfl
  · rw [absK_nan ha]
    exact order_nan_l ha
theorem cut_nan (k : FloatKind) (x y t : Nat) : nanK k ((Question.nanBits k x y).cut t) = true := by
  cases k
  · show (Ieee.Format.read Ieee.single _).isNaN = true
    obtain ⟨s, hs⟩ : ∃ s, s = t % 2 := ⟨_, rfl⟩
    obtain ⟨u, hu⟩ : ∃ u, u = t / 2 % (2 ^ 23 - 1) := ⟨_, rfl⟩
    have h1 : (Question.nanBits .f32 x y).cut t = s * 2 ^ 31 + 0x7f800000 + 1 + u := by rw [hs, hu]; rfl
    rw [h1]
    have hs2 : s < 2 := by omega
    have hu2 : u < 8388607 := by omega
    have e1 : (Ieee.single).signWeight = 2147483648 := by rfl
    have e2 : (Ieee.single).binade = 8388608 := by rfl
    have e3 : (Ieee.single).infRung = 2139095040 := by rfl
    unfold Ieee.Format.read
    rw [e1, e2, e3]
    have e4 : (s * 2 ^ 31 + 0x7f800000 + 1 + u) % 2147483648 = 2139095041 + u := by omega
    simp only [e4]
    rw [if_neg (by omega), if_neg (by omega), if_neg (by omega)]
    rfl
  · show (Ieee.Format.read Ieee.double _).isNaN = true
    obtain ⟨s, hs⟩ : ∃ s, s = t % 2 := ⟨_, rfl⟩
    obtain ⟨u, hu⟩ : ∃ u, u = t / 2 % (2 ^ 52 - 1) := ⟨_, rfl⟩
    have h1 : (Question.nanBits .f64 x y).cut t = s * 2 ^ 63 + 0x7ff0000000000000 + 1 + u := by rw [hs, hu]; rfl
    rw [h1]
    have hs2 : s < 2 := by omega
    have hu2 : u < 4503599627370495 := by omega
    have e1 : (Ieee.double).signWeight = 9223372036854775808 := by rfl
    have e2 : (Ieee.double).binade = 4503599627370496 := by rfl
    have e3 : (Ieee.double).infRung = 9218868437227405312 := by rfl
    unfold Ieee.Format.read
    rw [e1, e2, e3]
    have e4 : (s * 2 ^ 63 + 0x7ff0000000000000 + 1 + u) % 9223372036854775808 = 9218868437227405313 + u := by omega
    simp only [e4]
    rw [if_neg (by omega), if_neg (by omega), if_neg (by omega)]
    rfl
theorem cut_lt (k : FloatKind) (x y t : Nat) : (Question.nanBits k x y).cut t < 2 ^ k.format.width := by
  cases k
  · show t % 2 * 2 ^ 31 + 0x7f800000 + 1 + t / 2 % (2 ^ 23 - 1) < 2 ^ 32
    omega
  · show t % 2 * 2 ^ 63 + 0x7ff0000000000000 + 1 + t / 2 % (2 ^ 52 - 1) < 2 ^ 64
    omega
/-- the number that an operation gives in a world -/
def fopV (op : BinOp) (k : FloatKind) (x y : Nat) (w : World) : Nat :=
  match floatBits op k x y with
  | some r => r
  | none => (Question.nanBits k x y).cut (w.tape w.drawn (.nanBits k x y))
/-- the world behind it -/
def fopW (op : BinOp) (k : FloatKind) (x y : Nat) (w : World) : World :=
  match floatBits op k x y with
  | some _ => w
  | none => w.drew
theorem fopV_abs (op : BinOp) (k : FloatKind) (x y : Nat) (w : World) : absK k (fopV op k x y w) = fop op k (absK k x) (absK k y) := by
  rw [fop_abs]
  unfold fopV
  cases h : floatBits op k x y with
  | none => exact absK_nan (cut_nan _ _ _ _)
  | some r => exact absK_of (floatBits_no h)
theorem fopV_lt (op : BinOp) (k : FloatKind) (x y : Nat) (w : World) : fopV op k x y w < 2 ^ k.format.width := by
  unfold fopV
  cases h : floatBits op k x y with
  | none => exact cut_lt _ _ _ _
  | some r =>
    unfold floatBits at h
    split at h
    · exact k.format.add_lt h
    · exact k.format.sub_lt h
    · exact k.format.mul_lt h
    · exact k.format.div_lt h
    · cases h
theorem fopW_drew (op : BinOp) (k : FloatKind) (x y : Nat) (w : World) : ∃ q, fopW op k x y w = w.drewN q := by
  unfold fopW
  cases h : floatBits op k x y with
  | none => exact ⟨1, rfl⟩
  | some r => exact ⟨0, rfl⟩
def isFar (op : BinOp) : Bool := match op with | .add | .sub | .mul | .quo => true | _ => false
theorem run_fop {P : Program} (w : World) (op : BinOp) (hop : isFar op = true) (t : TypeId) (k : FloatKind) (x y : Nat) : (binOp op t (.float k x) (.float k y)).run P w = .ok (.float k (fopV op k x y w)) (fopW op k x y w) := by
  unfold fopV fopW
  cases h : floatBits op k x y with
  | some r => exact run_float_arith w op t k x y r h
  | none =>
    unfold floatBits at h
    cases op <;> simp [isFar] at hop <;> simp only at h <;> simp [binOp, Op.floatArith, h, Question.forced]
/-- A STEP OF THE WALK: '+', '-', '*', '/' on two floats. -/
theorem wp_fop {P : Program} {ops : Array Oper} {rest : List Oper} {o : Oper} {a : Act} {Q : Exit → Act → World → Prop} (w : World) (hgd : o.guard = none) (op : BinOp) (t t2 : TypeId) (x y : Operand) (ho : o.op = .binOp op t x y t2) (hop : isFar op = true)
    (k : FloatKind) (bx by_ : Nat) (hx : a.eval x = .float k bx) (hy : a.eval y = .float k by_)
    (h : ∀ (b : Nat) (w' : World), absK k b = fop op k (absK k bx) (absK k by_) → b < 2 ^ k.format.width → Drew w w' → wpList P ops Q rest (a.put o.dst (.float k b)) w') : wpList P ops Q (o :: rest) a w := by
  refine wpList_plain hgd fun _ hK => ?_
  have hg : ∀ u v, eqGuard op t x y u v = pure () := fun u v => by cases op <;> first | (cases hop; done) | rfl
  unfold Oper.wp execOp
  simp only [ho, Sem.run_bind, hx, hy, hg, run_fop w op hop, Result.andThen_ok, Sem.run_pure]
  refine hK _ _ (h _ _ (fopV_abs op k bx by_ w) (fopV_lt op k bx by_ w) ?_)
  obtain ⟨q, e⟩ := fopW_drew op k bx by_ w
  exact ⟨q, e⟩
end Go.Proofs.YtnjipckpkcandaaDoor
