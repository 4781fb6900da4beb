/- What SolveTable hands back; how many pivots. -/
import Derived.Test.YtbbcddbdinmaaaaPivR
namespace Go.Proofs.Ytbbcddbdinmaaaa
open Go.RowKit

def solOk (v : Int) (ns : List Nat) (bs : List Int) (most : Int) (near : Nat) : Bool := tblB v ns bs && (inB most 0 64 && leastO (absK .f32 near))
def solR (v : Int) (ns : List Nat) (bs : List Int) (most : Int) (near : Nat) : Option (List Nat × List Int × Nat) :=
  if solOk v ns bs most near = true then
    match solveT v.toNat near most.toNat 0 ns bs with
    | some (a, b, cnt, col) => if col < 0 then some (a, b, cnt) else none
    | none => none
  else none
def sV (v : Int) (o : Option (List Nat × List Int × Nat)) : Int := match o with | some _ => v | none => 0
def sN (o : Option (List Nat × List Int × Nat)) : List Nat := match o with | some x => x.1 | none => []
def sQ (o : Option (List Nat × List Int × Nat)) : List Int := match o with | some x => x.2.1 | none => []
def sC (o : Option (List Nat × List Int × Nat)) : Int := match o with | some x => (x.2.2 : Int) | none => 0
theorem solR_no {v : Int} {ns : List Nat} {bs : List Int} {most : Int} {near : Nat} (h : solOk v ns bs most near = false) : solR v ns bs most near = none := by unfold solR; rw [if_neg (by rw [h]; decide)]
theorem solR_none {V M near : Nat} {ns : List Nat} {bs : List Int} (h : solveT V near M 0 ns bs = none) : solR V ns bs M near = none := by
  unfold solR
  split
  · simp only [Int.toNat_natCast]; rw [h]
  · rfl
theorem solR_some {V M near cnt : Nat} {col : Int} {ns a : List Nat} {bs b : List Int} (hok : solOk V ns bs M near = true) (h : solveT V near M 0 ns bs = some (a, b, cnt, col)) : solR V ns bs M near = if col < 0 then some (a, b, cnt) else none := by
  unfold solR; rw [if_pos hok]; simp only [Int.toNat_natCast]; rw [h]
theorem pivT_inv {V r c : Nat} {ns ns' : List Nat} {bs bs' : List Int} (h : pivT V ns bs r c = some (ns', bs')) : basOk ((V : Int) + bs'.length - 1) bs' = true := by
  unfold pivT at h
  split at h
  · cases h
  · split at h
    · rename_i h2
      injection h with h
      injection h with h3 h4
      subst h3 h4
      rw [Bool.and_eq_true] at h2
      rw [List.length_set]
      exact h2.2
    · cases h
/-- what holds of a table all the way -/
def TabOk (V : Nat) (ns : List Nat) (bs : List Int) : Prop := ns.length = (bs.length + 1) * (V + bs.length + 1) ∧ basOk ((V : Int) + bs.length - 1) bs = true
theorem solveT_inv {V near : Nat} : ∀ {fuel count : Nat} {ns ns' : List Nat} {bs bs' : List Int} {cnt : Nat} {col : Int}, TabOk V ns bs → solveT V near fuel count ns bs = some (ns', bs', cnt, col) →
    TabOk V ns' bs' ∧ bs'.length = bs.length ∧ (col = -1 ∨ ∃ c : Nat, col = c ∧ c < V + bs.length) := by
  intro fuel
  induction fuel with
  | zero =>
    intro count ns ns' bs bs' cnt col hok h
    unfold solveT at h
    split at h
    · injection h with h; injection h with h1 h; injection h with h2 h; injection h with h3 h4
      subst h1 h2 h4
      exact ⟨hok, rfl, .inl rfl⟩
    · cases h
  | succ f ih =>
    intro count ns ns' bs bs' cnt col hok h
    rcases firstI_bd (gainB ns bs.length (V + bs.length + 1) near) (V + bs.length + 1 - 1) with he | ⟨c, he, hc⟩
    · have he' : enterT ns bs.length (V + bs.length + 1) near < 0 := by show firstI _ _ < 0; rw [he]; decide
      rw [solveT_end he'] at h
      injection h with h; injection h with h1 h; injection h with h2 h; injection h with h3 h4
      subst h1 h2 h4
      exact ⟨hok, rfl, .inl rfl⟩
    · rcases leaveUp_bd ns bs (V + bs.length + 1) near c bs.length with hl | ⟨r, hl, hr⟩
      · have hl' : leaveT ns bs (V + bs.length + 1) near c < 0 := by show (leaveUp _ _ _ _ _ _).1 < 0; rw [hl]; decide
        rw [solveT_free he hl'] at h
        injection h with h; injection h with h1 h; injection h with h2 h; injection h with h3 h4
        subst h1 h2 h4
        exact ⟨hok, rfl, .inr ⟨c, rfl, by omega⟩⟩
      · cases hp : pivT V ns bs r c with
        | none => rw [solveT_stop he hl hp] at h; cases h
        | some o =>
          obtain ⟨a, b⟩ := o
          rw [solveT_go he hl hp] at h
          obtain ⟨h1, h2, -⟩ := pivT_len hp
          have := ih (show TabOk V a b from ⟨by rw [h1, h2], pivT_inv hp⟩) h
          rw [h2] at this
          exact this
theorem tab_ok {V : Nat} {ns : List Nat} {bs : List Int} (h : tblB V ns bs = true) : TabOk V ns bs := by
  obtain ⟨V', e, -, -, h1, -, h2⟩ := tbl_bd h
  have e : V = V' := by omega
  subst e
  exact ⟨h1, h2⟩
theorem sv_len (v : Int) (ns : List Nat) (bs : List Int) (most : Int) (near : Nat) : (sN (solR v ns bs most near)).length ≤ 200 ∧ (sQ (solR v ns bs most near)).length ≤ 200 := by
  unfold solR
  split
  · rename_i h
    unfold solOk at h
    rw [Bool.and_eq_true] at h
    obtain ⟨V, rfl, hV, hm, hl, -, -⟩ := tbl_bd h.1
    cases hp : solveT (V : Int).toNat near most.toNat 0 ns bs with
    | none => simp [sN, sQ]
    | some o =>
      obtain ⟨a, b, cnt, col⟩ := o
      obtain ⟨⟨h1, -⟩, h2, -⟩ := solveT_inv (tab_ok h.1) hp
      have h3 : (bs.length + 1) * (V + bs.length + 1) ≤ 9 * 17 := Nat.mul_le_mul (by omega) (by omega)
      rw [h2] at h1
      dsimp only
      split
      · exact ⟨by show a.length ≤ 200; omega, by show b.length ≤ 200; omega⟩
      · simp [sN, sQ]
  · simp [sN, sQ]
/-- what hands back a table, a number and whether there is one -/
def RetTib (v : Int) (nums : List Nat) (bas : List Int) (x : Int) (b : Bool) (w : World) (e : Ending) (w' : World) : Prop :=
  ∃ (N : Option Addr) (nn cn : Nat) (Q : Option Addr) (qn cq : Nat), e = .returned (.tuple #[.agg #[.int .i64 v, .slice N nn cn, .slice Q qn cq], .int .i64 x, .bool b]) ∧ OwnF 34 w.heap.size w' N nn cn nums ∧ OwnI 2 w.heap.size w' Q qn cq bas ∧ Below w.heap.size w w'
theorem nilTib (w w' : World) (b : Bool) (hb : Below w.heap.size w w') : RetTib 0 [] [] 0 b w (.returned (.tuple #[.agg #[.int .i64 0, .slice none 0 0, .slice none 0 0], .int .i64 0, .bool b])) w' :=
  ⟨none, 0, 0, none, 0, 0, rfl, OwnF.nil_ _ _ _, OwnI.nil_ _ _ _, hb⟩
theorem zero_set {base g : Nat} {w w' : World} (hb : Below base w w') (hg : base ≤ g) (x0 x1 x2 : Value) : Below base w (((w'.setCell ⟨g, 0, none⟩ x0).setCell ⟨g, 1, none⟩ x1).setCell ⟨g, 2, none⟩ x2) :=
  ((hb.setCell (p := ⟨g, 0, none⟩) hg _).setCell (p := ⟨g, 1, none⟩) hg _).setCell (p := ⟨g, 2, none⟩) hg _
theorem isMost_any (x : Int) (w : World) : Calls Try.prog 52 #[.int .i64 x] w fun e w' => e = .returned (.bool (inB x 0 64)) ∧ w = w' := by
  go_enter Try.func52, Try.ntmps52
  go_wp2_with fail
  refine (within_any x 0 64 _).mono ?_
  rintro e w1 ⟨rfl, rfl⟩
  go_wp2_with fail
  go_ret
  exact ⟨rfl, rfl⟩
theorem l02Most_any (x : Int) (w : World) : Calls Try.prog 49 #[.int .i64 x] w fun e w' => e = .returned (.bool (inB x 0 64)) ∧ w = w' := by
  go_enter Try.func49, Try.ntmps49
  go_wp2_with fail
  refine (l00In_any x 0 64 _).mono ?_
  rintro e w1 ⟨rfl, rfl⟩
  go_wp2_with fail
  go_ret
  exact ⟨rfl, rfl⟩
end Go.Proofs.Ytbbcddbdinmaaaa
