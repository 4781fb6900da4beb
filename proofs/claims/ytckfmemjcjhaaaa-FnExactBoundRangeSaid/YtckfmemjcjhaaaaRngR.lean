/- What BoundRange hands back (printed by gen_rng.py). -/
import Derived.Test.YtckfmemjcjhaaaaRowR
import Derived.Test.YtckfmemjcjhaaaaNegF
namespace Go.Proofs.Ytckfmemjcjhaaaa
open Go.RowKit

/-- how far a bound can go: down, told, up, told; a row more -/
abbrev BrSt := Option Nat × Bool × Option Nat × Bool
def brC1 (near x : Nat) (less : Bool) (q dn : Option Nat) : Bool := (FloatKind.f32.format.order x near == some .gt) && (!less || ford .f32 q dn == some .lt)
def brC2 (near x : Nat) (more : Bool) (q up : Option Nat) : Bool := (FloatKind.f32.format.order x (Op.negFloat .f32 near) == some .lt) && (!more || ford .f32 (negO q) up == some .lt)
def brS (near x y : Nat) (s : BrSt) : BrSt :=
  (if brC1 near x s.2.1 (fop .quo .f32 (absK .f32 y) (absK .f32 x)) s.1 = true then fop .quo .f32 (absK .f32 y) (absK .f32 x) else s.1,
   s.2.1 || brC1 near x s.2.1 (fop .quo .f32 (absK .f32 y) (absK .f32 x)) s.1,
   if brC2 near x s.2.2.2 (fop .quo .f32 (absK .f32 y) (absK .f32 x)) s.2.2.1 = true then negO (fop .quo .f32 (absK .f32 y) (absK .f32 x)) else s.2.2.1,
   s.2.2.2 || brC2 near x s.2.2.2 (fop .quo .f32 (absK .f32 y) (absK .f32 x)) s.2.2.1)
theorem brS_of {near x y q dn up : Nat} {less more : Bool} (hq : absK .f32 q = fop .quo .f32 (absK .f32 y) (absK .f32 x)) :
    brS near x y (absK .f32 dn, less, absK .f32 up, more) =
      (if ((FloatKind.f32.format.order x near == some .gt) && (!less || FloatKind.f32.format.order q dn == some .lt)) = true then absK .f32 q else absK .f32 dn,
       less || ((FloatKind.f32.format.order x near == some .gt) && (!less || FloatKind.f32.format.order q dn == some .lt)),
       if ((FloatKind.f32.format.order x (Op.negFloat .f32 near) == some .lt) && (!more || FloatKind.f32.format.order (Op.negFloat .f32 q) up == some .lt)) = true then absK .f32 (Op.negFloat .f32 q) else absK .f32 up,
       more || ((FloatKind.f32.format.order x (Op.negFloat .f32 near) == some .lt) && (!more || FloatKind.f32.format.order (Op.negFloat .f32 q) up == some .lt))) := by
  unfold brS brC1 brC2
  dsimp only
  rw [ford_abs .f32 q dn, ford_abs .f32 (Op.negFloat .f32 q) up, absK_neg, hq]
def brUp (V m : Nat) (a : List Nat) (near ii bound : Nat) : Nat → BrSt
  | 0 => (absK .f32 bound, false, some 1232348160, false)
  | k + 1 => brS near (a.getD (k * (V + m + 1) + (V + ii)) 0) (a.getD (k * (V + m + 1) + (V + m)) 0) (brUp V m a near ii bound k)
def brLo (V m : Nat) (a : List Nat) (near ii bound : Nat) : Option Nat := fop .sub .f32 (absK .f32 bound) (brUp V m a near ii bound m).1
def brHi (V m : Nat) (a : List Nat) (near ii bound : Nat) : Option Nat := fop .add .f32 (absK .f32 bound) (brUp V m a near ii bound m).2.2.1
def brRes (lo hi : Option Nat) : Option (Nat × Nat) := if (finO lo && finO hi) = true then some (lo.getD 0, hi.getD 0) else none
def rngR (v : Int) (ns bs gs : List Nat) (ix most : Int) (near : Nat) : Option (Nat × Nat) :=
  if inB ix 0 ((bs.length : Int) - 1) = true then
    match bestS v ns bs gs most near with
    | some (a, _) => brRes (brLo v.toNat bs.length a near ix.toNat (bs.getD ix.toNat 0)) (brHi v.toNat bs.length a near ix.toNat (bs.getD ix.toNat 0))
    | none => none
  else none
def rgL (o : Option (Nat × Nat)) : Nat := match o with | some x => x.1 | none => 0
def rgH (o : Option (Nat × Nat)) : Nat := match o with | some x => x.2 | none => 0
theorem rng_no1 {v : Int} {ns bs gs : List Nat} {ix most : Int} {near : Nat} (h : inB ix 0 ((bs.length : Int) - 1) = false) : rngR v ns bs gs ix most near = none := by unfold rngR; rw [if_neg (by rw [h]; decide)]
theorem rng_no2 {v : Int} {ns bs gs : List Nat} {ix most : Int} {near : Nat} (h : bestS v ns bs gs most near = none) : rngR v ns bs gs ix most near = none := by
  unfold rngR
  split
  · rw [h]
  · rfl
theorem rng_yes {V ii : Nat} {ns bs gs a : List Nat} {most : Int} {near : Nat} {b : List Int} (hi : ii < bs.length) (h : bestS V ns bs gs most near = some (a, b)) :
    rngR V ns bs gs ii most near = brRes (brLo V bs.length a near ii (bs.getD ii 0)) (brHi V bs.length a near ii (bs.getD ii 0)) := by
  unfold rngR; rw [if_pos (inB_iff.2 (by omega)), h]; simp only [Int.toNat_natCast]
theorem finO_num {b : Nat} (h : finO (absK .f32 b) = true) : nanK .f32 b = false := by
  cases hb : nanK .f32 b
  · rfl
  · rw [absK_nan hb] at h; cases h
theorem brRes_yes {lo hi : Nat} (h1 : finO (absK .f32 lo) = true) (h2 : finO (absK .f32 hi) = true) : brRes (absK .f32 lo) (absK .f32 hi) = some (lo, hi) := by
  unfold brRes
  rw [h1, h2, if_pos (show (true && true) = true from rfl), absK_of (finO_num h1), absK_of (finO_num h2)]
  rfl
theorem brRes_no1 {lo hi : Option Nat} (h1 : finO lo = false) : brRes lo hi = none := by unfold brRes; rw [h1]; rfl
theorem brRes_no2 {lo hi : Option Nat} (h1 : finO hi = false) : brRes lo hi = none := by unfold brRes; rw [h1, Bool.and_false]; rfl
theorem rg_fin (v : Int) (ns bs gs : List Nat) (ix most : Int) (near : Nat) : nanK .f32 (rgL (rngR v ns bs gs ix most near)) = false ∧ nanK .f32 (rgH (rngR v ns bs gs ix most near)) = false := by
  have key2 : ∀ (op1 op2 : BinOp) (x1 y1 x2 y2 : Nat) (z1 z2 : Option Nat), nanK .f32 (rgL (brRes (fop op1 .f32 (absK .f32 x1) z1) (fop op2 .f32 (absK .f32 x2) z2))) = false ∧ nanK .f32 (rgH (brRes (fop op1 .f32 (absK .f32 x1) z1) (fop op2 .f32 (absK .f32 x2) z2))) = false := by
    intro op1 op2 x1 y1 x2 y2 z1 z2
    have num : ∀ (op : BinOp) (x : Option Nat) (z : Option Nat) (r : Nat), fop op .f32 x z = some r → nanK .f32 r = false := by
      intro op x z r h
      unfold fop at h
      cases x with
      | none => cases h
      | some x =>
        cases z with
        | none => cases h
        | some z => exact floatBits_no h
    unfold brRes
    split
    · rename_i hf
      rw [Bool.and_eq_true] at hf
      cases h1 : fop op1 .f32 (absK .f32 x1) z1 with
      | none => rw [h1] at hf; exact absurd hf.1 (by decide)
      | some r1 =>
        cases h2 : fop op2 .f32 (absK .f32 x2) z2 with
        | none => rw [h2] at hf; exact absurd hf.2 (by decide)
        | some r2 => exact ⟨num _ _ _ _ h1, num _ _ _ _ h2⟩
    · exact ⟨by decide, by decide⟩
  unfold rngR
  split
  · cases bestS v ns bs gs most near with
    | none => exact ⟨(by decide : nanK .f32 0 = false), (by decide : nanK .f32 0 = false)⟩
    | some s =>
      obtain ⟨a, b⟩ := s
      dsimp only
      unfold brLo brHi
      exact key2 _ _ _ 0 _ 0 _ _
  · exact ⟨(by decide : nanK .f32 0 = false), (by decide : nanK .f32 0 = false)⟩
/-- what hands back two floats and whether there are such -/
def Retffb (x y : Nat) (b : Bool) (w : World) (e : Ending) (w' : World) : Prop := e = .returned (.tuple #[.float .f32 x, .float .f32 y, .bool b]) ∧ Below w.heap.size w w'
end Go.Proofs.Ytckfmemjcjhaaaa
