/- Gains and plans of rows, in plain numbers. -/
import Derived.Test.YtbbcddbdinmaaaaDot
import Derived.Test.YtbbcddbdinmaaaaTabR
import Derived.Test.YtbbcddbdinmaaaaNegF
namespace Go.Proofs.Ytbbcddbdinmaaaa
open Go.RowKit

def rowL (V m : Nat) (ns : List Nat) (i : Nat) : List Nat := upV V m ns [] i V
theorem rowL_len (V m : Nat) (ns : List Nat) (i : Nat) : (rowL V m ns i).length = V := upV_len _ _ _ _ _ _
def gainO (gs xs : List Nat) : Option Nat := if (allFin xs && finO (dotO gs xs)) = true then dotO gs xs else none
def leftF (V m : Nat) (ns bs xs : List Nat) (i : Nat) : Option Nat := fop .sub .f32 (absK .f32 (bs.getD i 0)) (dotO (rowL V m ns i) xs)
def leftL (V m : Nat) (ns bs xs : List Nat) (k : Nat) : List (Option Nat) := (List.range k).map (leftF V m ns bs xs)
theorem leftL_succ (V m : Nat) (ns bs xs : List Nat) (k : Nat) : leftL V m ns bs xs (k + 1) = leftL V m ns bs xs k ++ [leftF V m ns bs xs k] := by unfold leftL; rw [List.range_succ, List.map_append]; rfl
def geO (near : Nat) (o : Option Nat) : Bool := !(ford .f32 o (absK .f32 (Op.negFloat .f32 near)) == some .lt)
def leftB (V m : Nat) (ns bs xs : List Nat) : Bool := allFin xs && (leftL V m ns bs xs m).all finO
def planO (V m : Nat) (ns bs xs : List Nat) (near : Nat) : Bool := leftB V m ns bs xs && (xs.all (fun b => geO near (absK .f32 b)) && (leftL V m ns bs xs m).all (geO near))
theorem allFin_map {zs : List Nat} {os : List (Option Nat)} (h : zs.map (absK .f32) = os) : allFin zs = os.all finO := by
  rw [← h, List.all_map]; rfl
theorem allGe_map {zs : List Nat} {os : List (Option Nat)} {near : Nat} (h : zs.map (absK .f32) = os) : zs.all (fun b => geO near (absK .f32 b)) = os.all (geO near) := by
  rw [← h, List.all_map]; rfl
theorem gainO_no1 {gs xs : List Nat} (h : allFin xs = false) : gainO gs xs = none := by unfold gainO; rw [h]; rfl
theorem gainO_no2 {gs xs : List Nat} (h : finO (dotO gs xs) = false) : gainO gs xs = none := by unfold gainO; rw [h, Bool.and_false]; rfl
theorem gainO_yes {gs xs : List Nat} {r : Nat} (h1 : allFin xs = true) (h : absK .f32 r = dotO gs xs) (h2 : finO (absK .f32 r) = true) : gainO gs xs = some r := by
  unfold gainO
  rw [h1, ← h, h2, if_pos (show (true && true) = true from rfl)]
  obtain ⟨a, ha⟩ := fin_some h2
  rw [ha, (absK_some ha).1]
/-- a number that is at least another one: the program's and the reference's test -/
theorem ge_iff {x near : Nat} (hx : finO (absK .f32 x) = true) (hn : finO (absK .f32 near) = true) :
    geO near (absK .f32 x) = (FloatKind.f32.format.order x (Op.negFloat .f32 near) == some .gt || FloatKind.f32.format.order x (Op.negFloat .f32 near) == some .eq) := by
  unfold geO
  rw [← ford_abs]
  obtain ⟨a, ha⟩ := fin_some hx
  obtain ⟨c, hc⟩ := fin_some hn
  obtain ⟨o, ho⟩ := order_num (absK_some ha).2 (show nanK .f32 (Op.negFloat .f32 near) = false by rw [nanK_neg]; exact (absK_some hc).2)
  rw [ho]
  cases o <;> rfl
end Go.Proofs.Ytbbcddbdinmaaaa
