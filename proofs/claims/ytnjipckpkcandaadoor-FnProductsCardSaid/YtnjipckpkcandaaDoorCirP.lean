/- Circles and logarithms: what the program reckons, told over four operations that may fail. -/
import Derived.Test.YtnjipckpkcandaaDoorFst
namespace Go.Proofs.YtnjipckpkcandaaDoor
open Ieee
namespace Cir
structure FO where
  mul : Nat → Nat → Option Nat
  add : Nat → Nat → Option Nat
  sub : Nat → Nat → Option Nat
  quo : Nat → Nat → Option Nat
  nar : Nat → Option Nat
  wid : Nat → Option Nat
def gen : FO := ⟨floatBits .mul .f64, floatBits .add .f64, floatBits .sub .f64, floatBits .quo .f64, fun x => floatToFloatBits .f64 x .f32, fun x => floatToFloatBits .f32 x .f64⟩
/-- the same, reckoned with plain numbers -/
def fst : FO := ⟨Fst.mulF double Fst.c64, Fst.addF double Fst.c64, Fst.subF double Fst.c64, Fst.divF double Fst.c64, Fst.toO .f64 Fst.c64 Fst.c32 .f32, Fst.toO .f32 Fst.c32 Fst.c64 .f64⟩
theorem gen_fst : gen = fst := by
  unfold gen fst
  congr 1
  · funext x y; exact fb_mul64 x y
  · funext x y; exact fb_add64 x y
  · funext x y; exact fb_sub64 x y
  · funext x y; exact fb_quo64 x y
  · funext x; exact ff_6432 x
  · funext x; exact ff_3264 x
def one : Nat := 4607182418800017408
def ordD (x y : Nat) : Option Ordering := double.order x y
def isLt (x y : Nat) : Bool := ordD x y == some .lt
def isGt (x y : Nat) : Bool := ordD x y == some .gt
def isEq (x y : Nat) : Bool := ordD x y == some .eq
def isGe (x y : Nat) : Bool := isGt x y || isEq x y
def truncB (t : Nat) : Nat := double.write ((double.read t).integral .zero)
def floorB (t : Nat) : Nat := double.write ((double.read t).integral .down)
def negB (x : Nat) : Nat := Op.negFloat .f64 x
def absB (x : Nat) : Nat := x % 9223372036854775808
variable (O : FO)
def restO (t : Nat) : Option Nat := Fst.force (truncB t) fun w => Fst.force (if isEq w 0 then 0 else w) fun w =>
  (O.sub t w).bind fun f => if isLt f 0 then O.add f one else some f
def two : Nat := 4611686018427387904
def sinStep (u k p : Nat) : Option Nat :=
  (O.mul u p).bind fun a => (O.mul two k).bind fun b => (O.add b one).bind fun c => (O.mul b c).bind fun d => (O.quo a d).bind fun e => O.sub one e
def sinLoop (u : Nat) : List Nat → Nat → Option Nat
  | [], p => some p
  | k :: ks, p => (sinStep O u k p).bind fun p => sinLoop u ks p
def kList : List Nat := [4620693217682128896, 4619567317775286272, 4618441417868443648, 4617315517961601024, 4616189618054758400, 4613937818241073152, 4611686018427387904, 4607182418800017408]
def half : Nat := 4602678819172646912
def quart : Nat := 4598175219545276416
def turn : Nat := 4618760256179416344
def sineO (t : Nat) : Option Nat :=
  (restO O t).bind fun f =>
  (if isGe f half then O.sub f half else some f).bind fun f1 =>
  (if isGt f1 quart then O.sub half f1 else some f1).bind fun f2 =>
  (O.mul f2 turn).bind fun z => (O.mul z z).bind fun u => (sinLoop O u kList one).bind fun p => (O.mul z p).bind fun r => Fst.force (if isGe f half then negB r else r) some
def quarters : Nat → Nat → Nat → Option (Nat × Nat)
  | 0, _, _ => none
  | n + 1, f, q => if isGe f quart then (O.sub f quart).bind fun f => quarters n f (q + 1) else some (f, q)
/-- both parts narrowed -/
def narP (a b : Nat) : Option (Nat × Nat) := (O.nar a).bind fun x => (O.nar b).bind fun y => some (x, y)
def phasO (t : Nat) : Option (Nat × Nat) :=
  (restO O t).bind fun f0 => (quarters O 5 f0 0).bind fun fq =>
  (O.sub quart fq.1).bind fun g => (sineO O g).bind fun c => (sineO O fq.1).bind fun s =>
  if fq.2 = 1 then (O.sub 0 s).bind fun a => narP O a c
  else if fq.2 = 2 then (O.sub 0 c).bind fun a => (O.sub 0 s).bind fun b => narP O a b
  else if fq.2 = 3 then (O.sub 0 c).bind fun b => narP O s b
  else narP O c s
def ofI (n : Int) : Nat := double.nearest (n < 0) n.natAbs 0
def sixty4 : Nat := 4634204016564240384
def phA (a : Int) : Option (Nat × Nat) := (O.quo (ofI a) sixty4).bind fun t => phasO O t
def powF (p : Nat × Nat) : Option Nat := (O.wid p.1).bind fun a => (O.wid p.2).bind fun b => (O.mul a a).bind fun x => (O.mul b b).bind fun y => O.add x y
def powO (p : Nat × Nat) : Option Nat := (powF O p).bind O.nar
def gapO (a b : Nat) : Option Nat := if isLt a b then O.sub b a else O.sub a b
def prodO (p q : Nat × Nat) : Option (Nat × Nat) :=
  (O.wid p.1).bind fun a => (O.wid p.2).bind fun b => (O.wid q.1).bind fun c => (O.wid q.2).bind fun d =>
  (O.mul a c).bind fun x => (O.mul b d).bind fun y => (O.sub x y).bind fun r => (O.mul a d).bind fun x => (O.mul b c).bind fun y => (O.add x y).bind fun i => some (r, i)
def mulO (p q : Nat × Nat) : Option (Nat × Nat) := (prodO O p q).bind fun x => narP O x.1 x.2
def e4 : Nat := 4547007122018943789
def isLe (x y : Nat) : Bool := isLt x y || isEq x y
/-- both parts are near -/
def nearO (p q : Nat × Nat) : Option Bool :=
  (O.wid p.1).bind fun a => (O.wid q.1).bind fun b => (gapO O a b).bind fun x =>
  if isLe x e4 then (O.wid p.2).bind fun a => (O.wid q.2).bind fun b => (gapO O a b).bind fun y => some (isLe y e4) else some false
def sqrtB (x : Nat) : Option Nat := double.sqrt x
def angStep (t : Nat) : Option Nat := (O.mul t t).bind fun a => (O.add one a).bind fun b => (sqrtB b).bind fun c => (O.add one c).bind fun d => O.quo t d
def angLoop (u : Nat) : List Nat → Nat → Option Nat
  | [], p => some p
  | k :: ks, p => ((O.quo one k).bind fun a => (O.mul u p).bind fun b => O.sub a b).bind fun p => angLoop u ks p
def odd15 : List Nat := [4624633867356078080, 4623507967449235456, 4622382067542392832, 4621256167635550208, 4619567317775286272, 4617315517961601024, 4613937818241073152, 4607182418800017408]
def eight : Nat := 4620693217682128896
def angIt : Nat → Nat → Option Nat
  | 0, t => some t
  | n + 1, t => (angStep O t).bind fun t => angIt n t
def angO (y x : Nat) : Option Nat :=
  (O.wid y).bind fun ya => (O.wid x).bind fun xa =>
  (O.quo (absB ya) (absB xa)).bind fun t0 => (if isGt (absB ya) (absB xa) then O.quo (absB xa) (absB ya) else some t0).bind fun t =>
  (angIt O 3 t).bind fun t =>
  (O.mul t t).bind fun u => (angLoop O u odd15 0).bind fun p => (O.mul t p).bind fun r => (O.mul eight r).bind fun r => (O.quo r turn).bind fun an =>
  (if isGt (absB ya) (absB xa) then O.sub quart an else some an).bind fun an =>
  (if single.order x 0 == some .lt then O.sub half an else some an).bind fun an =>
  O.nar (if single.order y 0 == some .lt then negB an else an)
def e3 : Nat := 4562254508917369340
def k10000 : Nat := 4666723447345250304
def toI (x : Nat) : Option Int := floatToIntVal .f64 x .i64
def c15 : Nat := 4609434218613702656
def c075 : Nat := 4604930618986332160
def down : Nat → Nat → Nat → Option (Nat × Nat)
  | 0, _, _ => none
  | n + 1, x, e => if isGe x c15 then (O.quo x two).bind fun x => (O.add e one).bind fun e => down n x e else some (x, e)
def up : Nat → Nat → Nat → Option (Nat × Nat)
  | 0, _, _ => none
  | n + 1, x, e => if isLt x c075 then (O.mul x two).bind fun x => (O.sub e one).bind fun e => up n x e else some (x, e)
def odd25 : List Nat := [4627730092099895296, 4627167142146473984, 4626604192193052672, 4626041242239631360, 4625478292286210048, 4624633867356078080, 4623507967449235456, 4622382067542392832, 4621256167635550208, 4619567317775286272, 4617315517961601024, 4613937818241073152, 4607182418800017408]
def logLoop (u : Nat) : List Nat → Nat → Option Nat
  | [], q => some q
  | k :: ks, q => ((O.quo one k).bind fun a => (O.mul u q).bind fun b => O.add a b).bind fun q => logLoop u ks q
def ln2 : Nat := 4604418534313441775
def logO (x : Nat) : Option Nat :=
  (down O 64 x 0).bind fun d => (up O 64 d.1 d.2).bind fun d =>
  (O.sub d.1 one).bind fun a => (O.add d.1 one).bind fun b => (O.quo a b).bind fun s => (O.mul s s).bind fun u => (logLoop O u odd25 0).bind fun q =>
  (O.mul s q).bind fun r => (O.mul two r).bind fun r => (O.mul d.2 ln2).bind fun l => O.add r l
def c43 : Nat := 4631308968768463603
def tenO (x : Nat) : Option Int := (O.wid x).bind fun y => (logO O y).bind fun l => (O.mul l c43).bind fun m => (O.add m half).bind fun h => toI (floorB h)
/-- the counters of the sine's loop -/
def kV (j : Nat) : Nat := (kList ++ [0]).getD j 0
theorem kV_next : ∀ j, j < 8 → floatBits .sub .f64 (kV j) one = some (kV (j + 1)) := by decide +kernel
theorem kV_ge : ∀ j, j < 8 → (FloatKind.f64.format.order (kV j) one == some .gt || FloatKind.f64.format.order (kV j) one == some .eq) = true := by decide +kernel
theorem kV_end : (FloatKind.f64.format.order (kV 8) one == some .gt || FloatKind.f64.format.order (kV 8) one == some .eq) = false := by decide +kernel
theorem kV_drop {j : Nat} (h : j < 8) : kList.drop j = kV j :: kList.drop (j + 1) := by
  have : ∀ j, j < 8 → kList.drop j = kV j :: kList.drop (j + 1) := by decide
  exact this j h
/-- the counters of the angle's loop, and of the logarithm's -/
def kW (j : Nat) : Nat := (odd15 ++ [13830554455654793216]).getD j 0
theorem kW_next : ∀ j, j < 8 → floatBits .sub .f64 (kW j) two = some (kW (j + 1)) := by decide +kernel
theorem kW_ge : ∀ j, j < 8 → (FloatKind.f64.format.order (kW j) one == some .gt || FloatKind.f64.format.order (kW j) one == some .eq) = true := by decide +kernel
theorem kW_end : (FloatKind.f64.format.order (kW 8) one == some .gt || FloatKind.f64.format.order (kW 8) one == some .eq) = false := by decide +kernel
theorem kW_drop {j : Nat} (h : j < 8) : odd15.drop j = kW j :: odd15.drop (j + 1) := by
  have : ∀ j, j < 8 → odd15.drop j = kW j :: odd15.drop (j + 1) := by decide
  exact this j h
def kX (j : Nat) : Nat := (odd25 ++ [13830554455654793216]).getD j 0
theorem kX_next : ∀ j, j < 13 → floatBits .sub .f64 (kX j) two = some (kX (j + 1)) := by decide +kernel
theorem kX_ge : ∀ j, j < 13 → (FloatKind.f64.format.order (kX j) one == some .gt || FloatKind.f64.format.order (kX j) one == some .eq) = true := by decide +kernel
theorem kX_end : (FloatKind.f64.format.order (kX 13) one == some .gt || FloatKind.f64.format.order (kX 13) one == some .eq) = false := by decide +kernel
theorem kX_drop {j : Nat} (h : j < 13) : odd25.drop j = kX j :: odd25.drop (j + 1) := by
  have : ∀ j, j < 13 → odd25.drop j = kX j :: odd25.drop (j + 1) := by decide
  exact this j h
end Cir
end Go.Proofs.YtnjipckpkcandaaDoor
