/- 'make' of a slice of values of one cell each. -/
import Derived.Test.YtigaopfhjimpmaaMem
namespace Go.Proofs.Ytigaopfhjimpmaa
open Go.RowKit

/-- 'make' of a slice of values of one cell each -/
theorem wp_make_valsV {P : Program} (w : World) {ops : Array Oper} {rest : List Oper} {o : Oper} {a : Act} {Q : Exit → Act → World → Prop}
    (hg : o.guard = none) (l c : Operand) (t : TypeId) (hop : o.op = Op.makeSlice t l c) (z : Value) (b : Nat) (hzc : z.cells = #[z]) (hb : b ≤ 8)
    (T : TypeId) (h1 : P.underlying t = some (.slice T)) (hinfo : (P.info? T).map (fun i => (i.zero, i.size, i.bytes)) = some (some z, 1, b))
    (kl kc : IntKind) (L C : Int) (n : Nat) (hl : a.eval l = .int kl L) (hc : a.eval c = .int kc C) (hL : L = (n : Int)) (hC : C = (n : Int)) (hn : n ≤ 1048576)
    (hK : ∀ (w' : World) (g : Nat), OwnC T w.heap.size 1 w' (some ⟨g, 0, none⟩) n n (List.replicate n z) → Below w.heap.size w w' → wpList P ops Q rest (a.put o.dst (.slice (some ⟨g, 0, none⟩) n n)) w') :
    wpList P ops Q (o :: rest) a w := by
  obtain ⟨i0, hi, hz0, hz1, hz2⟩ := info_parts hinfo
  have hmul : n * b ≤ 1048576 * 8 := Nat.mul_le_mul hn hb
  have hmul2 : b * n ≤ 8 * 1048576 := Nat.mul_le_mul hb hn
  refine wpList_make_full w hg l c t hop w.heap.size T i0 _ 1 h1 hi hz0 hz1 kl kc L C n hl hc hL hC (by rw [hz2]; omega) (by simp [maxLen]; omega) (Nat.le_refl _) ?_
  intro w' h2 h3
  refine hK w' w.heap.size ?_ (Upd.ext ((Upd.refl _ _).grown h3 (by intro k hk; cases hk)))
  have e : (madeCells z.cells (n * 1)).toList = List.replicate n z := by
    rw [hzc]
    show (madeCells #[z] (n * 1)).toList = _
    rw [toList_madeCells_one]; simp
  rw [← e]
  exact h2
theorem infoBV : (Try.prog.info? 4).map (fun i => (i.zero, i.size, i.bytes)) = some (some (.bool false), 1, 1) := by kernel_rfl
end Go.Proofs.Ytigaopfhjimpmaa
