/- The best corner, in plain numbers. -/
import Derived.Test.YtbbcddbdinmaaaaCorP
import Derived.Test.YtbbcddbdinmaaaaAbsI
namespace Go.Proofs.Ytbbcddbdinmaaaa
open Go.RowKit

abbrev CorSt := Option (Nat × Nat) × Nat
def crG (a b d e : Nat) : Option Nat := fop .sub .f32 (fop .mul .f32 (absK .f32 a) (absK .f32 e)) (fop .mul .f32 (absK .f32 b) (absK .f32 d))
def crX (a b d e ci ck : Nat) : Option Nat := fop .quo .f32 (fop .sub .f32 (fop .mul .f32 (absK .f32 ci) (absK .f32 e)) (fop .mul .f32 (absK .f32 b) (absK .f32 ck))) (crG a b d e)
def crY (a b d e ci ck : Nat) : Option Nat := fop .quo .f32 (fop .sub .f32 (fop .mul .f32 (absK .f32 a) (absK .f32 ck)) (fop .mul .f32 (absK .f32 ci) (absK .f32 d))) (crG a b d e)
/-- a corner that may be the best one so far -/
def corTry (m : Nat) (ns bs gs : List Nat) (near x y : Nat) (s : CorSt) : CorSt :=
  match gainO gs [x, y] with
  | none => s
  | some g => if planO 2 m ns bs [x, y] near = false then s else if s.1.isNone || (FloatKind.f32.format.order g s.2 == some .gt) then (some (x, y), g) else s
def corS (m : Nat) (ns bs gs : List Nat) (near a b d e ci ck : Nat) (s : CorSt) : CorSt :=
  if gtAbs (crG a b d e) near = false then s
  else match crX a b d e ci ck, crY a b d e ci ck with
    | some x, some y => corTry m ns bs gs near x y s
    | _, _ => s
theorem gain_nan {gs : List Nat} {x y : Nat} (h : absK .f32 x = none ∨ absK .f32 y = none) : gainO gs [x, y] = none := by
  apply gainO_no1
  unfold allFin
  rcases h with h | h
  · simp [h, finO_nan]
  · simp [h, finO_nan]
theorem corS_skip {m : Nat} {ns bs gs : List Nat} {near a b d e ci ck : Nat} {s : CorSt} (h : gtAbs (crG a b d e) near = false) : corS m ns bs gs near a b d e ci ck s = s := by unfold corS; rw [if_pos h]
theorem corS_try {m : Nat} {ns bs gs : List Nat} {near a b d e ci ck x y : Nat} {s : CorSt} (h : gtAbs (crG a b d e) near = true) (hx : absK .f32 x = crX a b d e ci ck) (hy : absK .f32 y = crY a b d e ci ck) :
    corS m ns bs gs near a b d e ci ck s = corTry m ns bs gs near x y s := by
  unfold corS
  rw [if_neg (by rw [h]; decide), ← hx, ← hy]
  cases h1 : absK .f32 x with
  | none => unfold corTry; rw [gain_nan (.inl h1)]
  | some x' =>
    cases h2 : absK .f32 y with
    | none => unfold corTry; rw [gain_nan (.inr h2)]
    | some y' =>
      obtain ⟨rfl, -⟩ := absK_some h1
      obtain ⟨rfl, -⟩ := absK_some h2
      rfl
theorem corTry_no1 {m : Nat} {ns bs gs : List Nat} {near x y : Nat} {s : CorSt} (h : gainO gs [x, y] = none) : corTry m ns bs gs near x y s = s := by unfold corTry; rw [h]
theorem corTry_no2 {m : Nat} {ns bs gs : List Nat} {near x y g : Nat} {s : CorSt} (h : gainO gs [x, y] = some g) (h2 : planO 2 m ns bs [x, y] near = false) : corTry m ns bs gs near x y s = s := by unfold corTry; rw [h]; dsimp only; rw [if_pos h2]
theorem corTry_of {m : Nat} {ns bs gs : List Nat} {near x y g : Nat} {s : CorSt} (h : gainO gs [x, y] = some g) (h2 : planO 2 m ns bs [x, y] near = true) : corTry m ns bs gs near x y s = if (s.1.isNone || (FloatKind.f32.format.order g s.2 == some .gt)) = true then (some (x, y), g) else s := by
  unfold corTry; rw [h]; dsimp only; rw [if_neg (by rw [h2]; decide)]
def lineL (ns : List Nat) : List Nat := ns ++ [1065353216, 0, 0, 1065353216]
def bndL (bs : List Nat) : List Nat := bs ++ [0, 0]
def laA (ns : List Nat) (i : Nat) : Nat := (lineL ns).getD (2 * i) 0
def laB (ns : List Nat) (i : Nat) : Nat := (lineL ns).getD (2 * i + 1) 0
def laC (bs : List Nat) (i : Nat) : Nat := (bndL bs).getD i 0
def corP (m : Nat) (ns bs gs : List Nat) (near i k : Nat) (s : CorSt) : CorSt := corS m ns bs gs near (laA ns i) (laB ns i) (laA ns k) (laB ns k) (laC bs i) (laC bs k) s
def corIn (m : Nat) (ns bs gs : List Nat) (near i : Nat) (s : CorSt) : Nat → CorSt
  | 0 => s
  | t + 1 => corP m ns bs gs near i (i + 1 + t) (corIn m ns bs gs near i s t)
def corOut (m : Nat) (ns bs gs : List Nat) (near : Nat) : Nat → CorSt
  | 0 => (none, 0)
  | i + 1 => corIn m ns bs gs near i (corOut m ns bs gs near i) (m + 2 - (i + 1))
def corOk (v : Int) (ns bs gs : List Nat) (near : Nat) : Bool := rowsB v ns bs gs && (decide (v = 2) && leastO (absK .f32 near))
def corR (v : Int) (ns bs gs : List Nat) (near : Nat) : Option (Nat × Nat) := if corOk v ns bs gs near = true then (corOut bs.length ns bs gs near (bs.length + 2)).1 else none
def crL (o : Option (Nat × Nat)) : List Nat := match o with | some x => [x.1, x.2] | none => []
theorem cr_len (v : Int) (ns bs gs : List Nat) (near : Nat) : (crL (corR v ns bs gs near)).length ≤ 200 := by
  cases corR v ns bs gs near <;> simp [crL]
theorem corR_no {v : Int} {ns bs gs : List Nat} {near : Nat} (h : corOk v ns bs gs near = false) : corR v ns bs gs near = none := by unfold corR; rw [if_neg (by rw [h]; decide)]
theorem corR_yes {v : Int} {ns bs gs : List Nat} {near : Nat} (h : corOk v ns bs gs near = true) : corR v ns bs gs near = (corOut bs.length ns bs gs near (bs.length + 2)).1 := by unfold corR; rw [if_pos h]
end Go.Proofs.Ytbbcddbdinmaaaa
