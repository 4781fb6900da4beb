/- Lines of three floats each. -/
import Derived.Test.YtbbcddbdinmaaaaCorV
import Derived.Test.YtbbcddbdinmaaaaAppK
namespace Go.Proofs.Ytbbcddbdinmaaaa
open Go.RowKit

def triV (ns bs : List Nat) (i : Nat) : List Value := [.float .f32 (laA ns i), .float .f32 (laB ns i), .float .f32 (laC bs i)]
def linV (ns bs : List Nat) (k : Nat) : List Value := (List.range k).flatMap (triV ns bs)
theorem linV_succ (ns bs : List Nat) (k : Nat) : linV ns bs (k + 1) = linV ns bs k ++ triV ns bs k := by
  unfold linV; rw [List.range_succ, List.flatMap_append]; simp
theorem linV_len (ns bs : List Nat) : ∀ k, (linV ns bs k).length = k * 3
  | 0 => by simp [linV]
  | k + 1 => by rw [linV_succ, List.length_append, linV_len ns bs k]; simp [triV]; omega
theorem linV_get (ns bs : List Nat) {i j : Nat} (hj : j < 3) : ∀ k, i < k → (linV ns bs k)[i * 3 + j]? = (triV ns bs i)[j]?
  | 0, h => absurd h (by omega)
  | k + 1, h => by
    rw [linV_succ]
    by_cases hi : i < k
    · rw [List.getElem?_append_left (by rw [linV_len]; omega)]
      exact linV_get ns bs hj k hi
    · have e : i = k := by omega
      subst e
      rw [List.getElem?_append_right (by rw [linV_len]; omega), linV_len]
      congr 1
      omega
theorem info3 : (Try.prog.info? 96).map (fun i => (i.zero, i.size, i.bytes)) = some (some (.agg #[.float .f32 0, .float .f32 0, .float .f32 0]), 3, 12) := by kernel_rfl
/-- lines that can be read -/
def LinAt (w : World) (ad : Addr) (ns bs : List Nat) (L : Nat) : Prop := ad.block < w.heap.size ∧ ∀ i, i < L → w.cell? (ad.add (i * 3)) = some (.float .f32 (laA ns i)) ∧ w.cell? (ad.add (i * 3 + 1)) = some (.float .f32 (laB ns i)) ∧ w.cell? (ad.add (i * 3 + 2)) = some (.float .f32 (laC bs i))
end Go.Proofs.Ytbbcddbdinmaaaa
