/- Arguments opened: slices of floats, rows by value. -/
import Derived.Test.YtbbcddbdinmaaaaOpen
import Derived.Test.YtbbcddbdinmaaaaFltMem
import Derived.Deep.Slices
import Derived.Laws.Cover2
import Derived.Deep.Fields
import Derived.ChangeSame
import Derived.Lib.SmallJoins
namespace Go.Proofs.Ytbbcddbdinmaaaa
open Go.ChangeShapes Go.WideShapes Go.ChangeAt Go.RowKit Go.Deep Go.Joins

section
variable {H : Type} {enc : TypeId × Value → H} {P : Program} {w : World} {base : Nat} {spare : Nat → Bool} {held : Bool}
theorem trod_float {t : TypeId} {k : FloatKind} {fuel : Nat} {cs : List Value} {x : DataW H × List MemPlace} (ht : P.underlying t = some (.float k)) (h : DataW.trod enc P w base spare held fuel t cs = some x) :
    ∃ b, cs = [.float k b] ∧ x = (.lit (.float k b), []) ∧ (Lit.float k b).wf = true := by
  cases fuel with
  | zero => simp [DataW.trod] at h
  | succ n =>
    simp only [DataW.trod, ht] at h
    split at h <;> simp_all
end

/-- a slice of floats, out of its reading -/
theorem flts_of_trod {H : Type} {enc : TypeId × Value → H} {W : World} {fuel : Nat} {v : Value} {y : DataW H × List MemPlace}
    (h : DataW.trod enc Try.prog W 0 (fun _ => true) true fuel 22 [v] = some y) :
    ∃ (A : Option Addr) (n c : Nat) (xs : List Nat), v = .slice A n c ∧ FltsAt W A n xs ∧ n ≤ maxLen := by
  rcases open_slice Try.underlying22 h with ⟨hcs, _⟩ | ⟨a, len, cap, m, f, D, Pl, hcs, _, hl, hm, hmm, _, hi⟩
  · simp at hcs
    exact ⟨none, 0, 0, [], hcs, .nil_, Nat.zero_le _⟩
  · simp at hcs
    simp at hmm
    subst hmm
    have hC : Try.prog.cellsOf 34 = 1 := by kernel_rfl
    have key : ∀ i, i < m → ∃ x : Nat, W.cell? (a.add i) = some (.float .f32 x) := by
      intro i hic
      obtain ⟨cs', hc, ht⟩ := hi i hic
      rw [hC, Nat.mul_one] at hc
      obtain ⟨b, rfl, _, _⟩ := trod_float Try.underlying34 ht
      exact ⟨b, cell_of_cells?_one hc⟩
    have : ∃ xs : List Nat, xs.length = len ∧ ∀ i, i < len → W.cell? (a.add i) = some (.float .f32 (xs.getD i 0)) := by
      have go : ∀ l, l ≤ len → ∃ xs : List Nat, xs.length = l ∧ ∀ i, i < l → W.cell? (a.add i) = some (.float .f32 (xs.getD i 0)) := by
        intro l
        induction l with
        | zero => exact fun _ => ⟨[], rfl, fun i hi => by omega⟩
        | succ l ih =>
          intro hle
          obtain ⟨xs, hx, hxs⟩ := ih (by omega)
          obtain ⟨x, hk⟩ := key l (by omega)
          refine ⟨xs ++ [x], by simp [hx], fun i hil => ?_⟩
          by_cases hi2 : i < l
          · have e : (xs ++ [x]).getD i 0 = xs.getD i 0 := by simp [List.getD, List.getElem?_append_left (show i < xs.length by omega)]
            rw [e]; exact hxs i hi2
          · have hil2 : i = l := by omega
            subst hil2
            have e : (xs ++ [x]).getD i 0 = x := by simp [List.getD, hx, List.getElem?_append_right]
            rw [e]; exact hk
      exact go len (Nat.le_refl _)
    obtain ⟨xs, hx, hxs⟩ := this
    refine ⟨some a, len, m, xs, hcs, ⟨hx, fun hn => ⟨a, rfl, ?_, fun j hj => hxs j hj⟩⟩, by omega⟩
    have := block_of_cell (hxs 0 hn)
    rwa [block_add] at this
set_option maxRecDepth 100000 in
theorem arg_rows {H : Type} {enc : TypeId × Value → H} {W : World} {v : Value} {d : DataW H} {p : List MemPlace} {r : Reach} {b0 : Nat}
    (hv : Value.okWide Try.prog W r b0 39 v) (h : DataW.Trod enc Try.prog W 0 (fun _ => true) true 39 v d p) :
    ∃ (u : Int) (A : Option Addr) (n c : Nat) (ns : List Nat) (B : Option Addr) (m d : Nat) (bs : List Nat) (G : Option Addr) (q g : Nat) (gs : List Nat), v = .agg #[.int .i64 u, .slice A n c, .slice B m d, .slice G q g] ∧ (Lit.int .i64 u).wf = true ∧ FltsAt W A n ns ∧ FltsAt W B m bs ∧ FltsAt W G q gs ∧ n ≤ maxLen ∧ m ≤ maxLen ∧ q ≤ maxLen := by
  obtain ⟨c0, c1, c2, c3, y0, y1, y2, y3, m, rfl, _, _, hy0, hy1, hy2, hy3⟩ := open_agg4 Try.underlying39 (by kernel_rfl) (by kernel_rfl) hv h
  obtain ⟨x0, r0, _, w0⟩ := DataW.trod_int Try.underlying2 hy0
  injection r0 with r0 _
  subst r0
  obtain ⟨A, n, c, xs, rfl, h1, h3⟩ := flts_of_trod hy1
  obtain ⟨B, n2, c2, ys, rfl, h4, h6⟩ := flts_of_trod hy2
  obtain ⟨G, n3, c3, zs, rfl, h7, h9⟩ := flts_of_trod hy3
  exact ⟨x0, A, n, c, xs, B, n2, c2, ys, G, n3, c3, zs, rfl, w0, h1, h4, h7, h3, h6, h9⟩
/-- a slice of ints, out of its reading -/
theorem ints_of_trod {H : Type} {enc : TypeId × Value → H} {W : World} {fuel : Nat} {v : Value} {y : DataW H × List MemPlace}
    (h : DataW.trod enc Try.prog W 0 (fun _ => true) true fuel 23 [v] = some y) :
    ∃ (A : Option Addr) (n c : Nat) (xs : List Int), v = .slice A n c ∧ IntsAt W A n xs ∧ n ≤ maxLen := by
  rcases open_ints Try.underlying23 Try.underlying2 (by kernel_rfl) h with ⟨hcs, _⟩ | ⟨x, l, c, zs, hcs, _, hl, hm, hz, _, hcell, hwz⟩
  · simp at hcs
    exact ⟨none, 0, 0, [], hcs, .nil_, Nat.zero_le _⟩
  · simp at hcs
    simp at hz
    have hlen : (zs.take l).length = l := by simp; omega
    refine ⟨some x, l, c, zs.take l, hcs, ⟨hlen, fun hn => ?_⟩, by omega⟩
    refine ⟨x, rfl, ?_, fun j hj => ?_⟩
    · have := block_of_cell (hcell 0 (by omega))
      rwa [block_add] at this
    · rw [hcell j (by omega)]
      simp [List.getD, List.getElem?_take, hj]
set_option maxRecDepth 100000 in
theorem arg_table {H : Type} {enc : TypeId × Value → H} {W : World} {v : Value} {d : DataW H} {p : List MemPlace} {r : Reach} {b0 : Nat}
    (hv : Value.okWide Try.prog W r b0 25 v) (h : DataW.Trod enc Try.prog W 0 (fun _ => true) true 25 v d p) :
    ∃ (u : Int) (A : Option Addr) (n c : Nat) (ns : List Nat) (B : Option Addr) (m d : Nat) (bs : List Int), v = .agg #[.int .i64 u, .slice A n c, .slice B m d] ∧ (Lit.int .i64 u).wf = true ∧ FltsAt W A n ns ∧ IntsAt W B m bs ∧ n ≤ maxLen ∧ m ≤ maxLen := by
  obtain ⟨c0, c1, c2, y0, y1, y2, m, rfl, _, _, hy0, hy1, hy2⟩ := open_agg3 Try.underlying25 (by kernel_rfl) (by kernel_rfl) hv h
  obtain ⟨x0, r0, _, w0⟩ := DataW.trod_int Try.underlying2 hy0
  injection r0 with r0 _
  subst r0
  obtain ⟨A, n, c, xs, rfl, h1, h3⟩ := flts_of_trod hy1
  obtain ⟨B, n2, c2, ys, rfl, h4, h6⟩ := ints_of_trod hy2
  exact ⟨x0, A, n, c, xs, B, n2, c2, ys, rfl, w0, h1, h4, h3, h6⟩
end Go.Proofs.Ytbbcddbdinmaaaa
