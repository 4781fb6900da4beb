/- Arguments opened: nets by value, slices of arcs. -/
import Derived.Test.YtigaopfhjimpmaaOpen
import Derived.Test.YtigaopfhjimpmaaNetMem
import Derived.Deep.Slices
import Derived.Deep.Fields
import Derived.ChangeSame
import Derived.Lib.SmallJoins
namespace Go.Proofs.Ytigaopfhjimpmaa
open Go.ChangeShapes Go.WideShapes Go.ChangeAt Go.RowKit Go.Deep Go.Joins

section
variable {H : Type} {enc : TypeId × Value → H} {P : Program} {w : World} {base : Nat} {spare : Nat → Bool} {held : Bool}
theorem open_slice_fields {t e : TypeId} {fs : Array Field} {fuel : Nat} {cs : List Value} {x : DataW H × List MemPlace} (ht : P.underlying t = some (.slice e)) (he : P.underlying e = some (.struct fs))
    (hone : oneCellFields P fs = true) (hC : P.cellsOf e = fs.size) (h : DataW.trod enc P w base spare held fuel t cs = some x) :
    (cs = [.slice none 0 0] ∧ x = (.nil, [])) ∨
    ∃ (a : Addr) (len cap m : Nat) (D : Nat → DataW H) (Pl : Nat → List MemPlace), cs = [.slice (some a) len cap] ∧ base ≤ a.block ∧ len ≤ cap ∧ cap ≤ maxLen ∧ m = (if spare a.block then cap else len) ∧
      x = (.slice ((List.range len).map D) ((List.range (m - len)).map fun j => D (len + j)), MemPlace.row a (m * fs.size) ++ (List.range m).flatMap Pl) ∧
      ∀ i, i < m → ∃ (ys : List (DataW H × List MemPlace)) (n : Nat), D i = .agg (ys.map (·.1)) ∧ Pl i = ys.flatMap (·.2) ∧ ys.length = fs.size ∧
        ∀ (j : Nat) (f : Field), fs[j]? = some f → ∃ (v : Value) (y : DataW H × List MemPlace), w.cell? (a.add (i * fs.size + j)) = some v ∧ ys[j]? = some y ∧ DataW.trod enc P w base spare held n f.type [v] = some y := by
  rcases open_slice ht h with h0 | ⟨a, len, cap, m, n, D, Pl, hcs, hb, hl, hm, hmm, hx, hi⟩
  · exact .inl h0
  · refine .inr ⟨a, len, cap, m, D, Pl, hcs, hb, hl, hm, hmm, by rw [hC] at hx; exact hx, fun i him => ?_⟩
    obtain ⟨cs', hc, ht'⟩ := hi i him
    rw [hC] at hc
    obtain ⟨ys, n', hn', hy, hlen, hyl, hf⟩ := DataW.trod_struct he ht'
    obtain ⟨_, hcl, hat⟩ := World.cells?_some hc
    simp only [Prod.mk.injEq] at hy
    refine ⟨ys, n', hy.1, hy.2, hyl, fun j f hj => ?_⟩
    obtain ⟨ho, hk⟩ := hone_of hone j f hj
    have hjl : j < fs.size := (Array.getElem?_eq_some_iff.1 hj).1
    have hcell := hat j hjl
    have hv : cs'[j]? = some (cs'[j]'(by omega)) := List.getElem?_eq_getElem (by omega)
    have h1 := hf j f hj
    rw [ho, hk] at h1
    have hone' : (cs'.drop j).take 1 = [cs'[j]'(by omega)] := by
      rw [List.drop_eq_getElem_cons (by omega)]
      rfl
    rw [hone'] at h1
    have hys : ys[j]? = some (ys[j]'(by omega)) := List.getElem?_eq_getElem (by omega)
    refine ⟨_, _, ?_, hys, h1.trans hys⟩
    rw [← Go.Deep.add_add, hcell, hv]
end

def FitA (xs : List ArcR) : Prop := ∀ a ∈ xs, (Lit.int .i64 a.fr).wf = true ∧ (Lit.int .i64 a.to_).wf = true ∧ (Lit.int .i64 a.room).wf = true ∧ (Lit.int .i64 a.cost).wf = true

theorem add_off (ad : Addr) (k i : Nat) (hi : 0 < i) : ad.add (k + i) = ⟨(ad.add k).block, (ad.add k).off + i, none⟩ := by
  unfold Addr.add
  rw [if_neg (by omega)]
  split
  · rename_i h; subst h; simp
  · simp [Nat.add_assoc]

set_option maxRecDepth 100000 in
/-- a slice of arcs, out of its reading -/
theorem arcs_of_trod {H : Type} {enc : TypeId × Value → H} {W : World} {fuel : Nat} {v : Value} {y : DataW H × List MemPlace}
    (h : DataW.trod enc Try.prog W 0 (fun _ => true) true fuel 22 [v] = some y) :
    ∃ (A : Option Addr) (n c : Nat) (xs : List ArcR), v = .slice A n c ∧ ArcsAt W A n xs ∧ FitA xs ∧ n ≤ maxLen := by
  rcases open_slice_fields Try.underlying22 Try.underlying71 (by kernel_rfl) (by kernel_rfl) h with ⟨hcs, _⟩ | ⟨a, len, cap, m, D, Pl, hcs, _, hl, hm, hmm, _, hi⟩
  · simp at hcs
    exact ⟨none, 0, 0, [], hcs, .nil_, (fun n hn => nomatch hn), Nat.zero_le _⟩
  · simp at hcs
    simp at hmm
    subst hmm
    have key : ∀ i, i < m → ∃ x : ArcR, ArcCells W (a.add (i * 4)) x ∧ (Lit.int .i64 x.fr).wf = true ∧ (Lit.int .i64 x.to_).wf = true ∧ (Lit.int .i64 x.room).wf = true ∧ (Lit.int .i64 x.cost).wf = true := by
      intro i hic
      obtain ⟨ys, n, _, _, _, hf⟩ := hi i hic
      obtain ⟨v0, y0, e0, _, t0⟩ := hf 0 _ rfl
      obtain ⟨v1, y1, e1, _, t1⟩ := hf 1 _ rfl
      obtain ⟨v2, y2, e2, _, t2⟩ := hf 2 _ rfl
      obtain ⟨v3, y3, e3, _, t3⟩ := hf 3 _ rfl
      obtain ⟨x0, r0, _, w0⟩ := DataW.trod_int Try.underlying2 t0
      obtain ⟨x1, r1, _, w1⟩ := DataW.trod_int Try.underlying2 t1
      obtain ⟨x2, r2, _, w2⟩ := DataW.trod_int Try.underlying2 t2
      obtain ⟨x3, r3, _, w3⟩ := DataW.trod_int Try.underlying2 t3
      injection r0 with r0 _
      injection r1 with r1 _
      injection r2 with r2 _
      injection r3 with r3 _
      subst r0 r1 r2 r3
      refine ⟨⟨x0, x1, x2, x3⟩, ⟨e0, ?_, ?_, ?_⟩, w0, w1, w2, w3⟩
      · rw [← e1, ← add_off a (i * 4) 1 (by omega)]; rfl
      · rw [← e2, ← add_off a (i * 4) 2 (by omega)]; rfl
      · rw [← e3, ← add_off a (i * 4) 3 (by omega)]; rfl
    have : ∃ xs : List ArcR, xs.length = len ∧ ∀ i, i < len → ArcCells W (a.add (i * 4)) (xs.getD i default) ∧ (Lit.int .i64 (xs.getD i default).fr).wf = true ∧ (Lit.int .i64 (xs.getD i default).to_).wf = true ∧ (Lit.int .i64 (xs.getD i default).room).wf = true ∧ (Lit.int .i64 (xs.getD i default).cost).wf = true := by
      have go : ∀ l, l ≤ len → ∃ xs : List ArcR, xs.length = l ∧ ∀ i, i < l → ArcCells W (a.add (i * 4)) (xs.getD i default) ∧ (Lit.int .i64 (xs.getD i default).fr).wf = true ∧ (Lit.int .i64 (xs.getD i default).to_).wf = true ∧ (Lit.int .i64 (xs.getD i default).room).wf = true ∧ (Lit.int .i64 (xs.getD i default).cost).wf = true := by
        intro l
        induction l with
        | zero => exact fun _ => ⟨[], rfl, fun i hi => by omega⟩
        | succ l ih =>
          intro hle
          obtain ⟨xs, hx, hxs⟩ := ih (by omega)
          obtain ⟨x, hk⟩ := key l (by omega)
          refine ⟨xs ++ [x], by simp [hx], fun i hil => ?_⟩
          by_cases hi2 : i < l
          · have e : (xs ++ [x]).getD i default = xs.getD i default := by simp [List.getD, List.getElem?_append_left (show i < xs.length by omega)]
            rw [e]; exact hxs i hi2
          · have hil2 : i = l := by omega
            subst hil2
            have e : (xs ++ [x]).getD i default = x := by simp [List.getD, hx, List.getElem?_append_right]
            rw [e]; exact hk
      exact go len (Nat.le_refl _)
    obtain ⟨xs, hx, hxs⟩ := this
    refine ⟨some a, len, m, xs, hcs, ⟨hx, fun hn => ⟨a, rfl, ?_, fun j hj => (hxs j hj).1⟩⟩, ?_, by omega⟩
    · have := block_of_cell (hxs 0 hn).1.1
      rwa [block_add] at this
    · intro x hxm
      obtain ⟨i, hi, rfl⟩ := List.mem_iff_getElem.1 hxm
      have := (hxs i (by omega)).2
      simpa [List.getD, List.getElem?_eq_getElem hi] using this

set_option maxRecDepth 100000 in
theorem arg_net {H : Type} {enc : TypeId × Value → H} {W : World} {v : Value} {d : DataW H} {p : List MemPlace} {r : Reach} {b0 : Nat}
    (hv : Value.okWide Try.prog W r b0 24 v) (h : DataW.Trod enc Try.prog W 0 (fun _ => true) true 24 v d p) :
    ∃ (nodes : Int) (A : Option Addr) (n c : Nat) (xs : List ArcR), v = .agg #[.int .i64 nodes, .slice A n c] ∧ (Lit.int .i64 nodes).wf = true ∧ ArcsAt W A n xs ∧ FitA xs ∧ n ≤ maxLen := by
  obtain ⟨c0, c1, y0, y1, m, rfl, _, _, hy0, hy1⟩ := open_agg2 Try.underlying24 (by kernel_rfl) (by kernel_rfl) hv h
  obtain ⟨x0, r0, _, w0⟩ := DataW.trod_int Try.underlying2 hy0
  injection r0 with r0 _
  subst r0
  obtain ⟨A, n, c, xs, rfl, h1, h2, h3⟩ := arcs_of_trod hy1
  exact ⟨x0, A, n, c, xs, rfl, w0, h1, h2, h3⟩
set_option maxRecDepth 100000 in
theorem arg_arcs {H : Type} {enc : TypeId × Value → H} {W : World} {v : Value} {d : DataW H} {p : List MemPlace} {r : Reach} {b0 : Nat}
    (hv : Value.okWide Try.prog W r b0 22 v) (h : DataW.Trod enc Try.prog W 0 (fun _ => true) true 22 v d p) :
    ∃ (A : Option Addr) (n c : Nat) (xs : List ArcR), v = .slice A n c ∧ ArcsAt W A n xs ∧ FitA xs ∧ n ≤ maxLen := by
  obtain ⟨a0, len0, cap0, rfl⟩ := okWide_slice Try.underlying22 hv
  obtain ⟨fuel, hf⟩ := h
  exact arcs_of_trod (by simpa [Value.cells] using hf)
end Go.Proofs.Ytigaopfhjimpmaa
