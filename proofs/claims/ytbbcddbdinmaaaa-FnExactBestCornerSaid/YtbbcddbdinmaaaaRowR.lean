/- What SolveRows hands back (printed by gen_rowsol.py). -/
import Derived.Test.YtbbcddbdinmaaaaRowSol
namespace Go.Proofs.Ytbbcddbdinmaaaa
open Go.RowKit

def srA (v : Int) (o : Option (List Nat × List Int)) : List Nat := match o with | some (a, b) => planT v.toNat a b | none => []
def srB (v : Int) (o : Option (List Nat × List Int)) : List Nat := match o with | some (a, b) => pricesUp v.toNat b.length a b.length | none => []
/-- what the reference's 'l02Best' hands back -/
def RetSdS (v : Int) (o : Option (List Nat × List Int)) (w : World) (e : Ending) (w' : World) : Prop :=
  Below w.heap.size w w' ∧ match o with
    | some (a, b) => ∃ (N : Option Addr) (nn cn : Nat) (Q : Option Addr) (qn cq : Nat), e = .returned (.tuple #[.agg #[.int .i64 v, .slice N nn cn, .slice Q qn cq], .bool true]) ∧ OwnF 34 w.heap.size w' N nn cn a ∧ OwnI 2 w.heap.size w' Q qn cq b
    | none => ∃ (x : Int) (N : Option Addr) (nn cn : Nat) (Q : Option Addr) (qn cq : Nat), e = .returned (.tuple #[.agg #[.int .i64 x, .slice N nn cn, .slice Q qn cq], .bool false])
/-- what hands back two lists and whether there are such -/
def RetFFb (z1 z2 : List Nat) (b : Bool) (w : World) (e : Ending) (w' : World) : Prop :=
  ∃ (N : Option Addr) (nn cn : Nat) (Q : Option Addr) (qn cq : Nat), e = .returned (.tuple #[.slice N nn cn, .slice Q qn cq, .bool b]) ∧ OwnF 34 w.heap.size w' N nn cn z1 ∧ OwnF 34 w.heap.size w' Q qn cq z2 ∧ Sep N Q ∧ Below w.heap.size w w'
theorem nilFFb (w w' : World) (b : Bool) (hb : Below w.heap.size w w') : RetFFb [] [] b w (.returned (.tuple #[.slice none 0 0, .slice none 0 0, .bool b])) w' :=
  ⟨none, 0, 0, none, 0, 0, rfl, OwnF.nil_ _ _ _, OwnF.nil_ _ _ _, fun _ _ h => (Option.some_ne_none _ h.symm).elim, hb⟩
theorem sepFF {T T' base n c m d : Nat} {w w' : World} {A B : Option Addr} {xs ys : List Nat} (h1 : OwnF T base w A n c xs) (h2 : OwnF T' w.heap.size w' B m d ys) : Sep A B := by
  intro a b ha hb
  have := (h1.lt ha).2
  have := (h2.lt hb).1
  omega
theorem bestS_inv {v : Int} {M near : Nat} {ns bs gs a : List Nat} {b : List Int} (h : bestS v ns bs gs M near = some (a, b)) : ∃ V : Nat, v = V ∧ (1 ≤ V ∧ V ≤ 8) ∧ (1 ≤ bs.length ∧ bs.length ≤ 8) ∧ TabOk V a b ∧ b.length = bs.length := by
  unfold bestS at h
  cases hr : rowS v ns bs gs M near with
  | none => rw [hr] at h; cases h
  | some s =>
    obtain ⟨a', b', cnt, col⟩ := s
    rw [hr] at h
    dsimp only at h
    split at h
    · injection h with h; injection h with h1 h2
      subst h1 h2
      cases hk : rowOk v ns bs gs M near
      · rw [rowS_no hk] at hr; cases hr
      · unfold rowOk at hk
        rw [Bool.and_eq_true] at hk
        obtain ⟨V, rfl, hV, hm, -, -⟩ := rows_bd hk.1
        obtain ⟨-, h3, h4, -⟩ := rowS_inv hr
        exact ⟨V, rfl, hV, hm, h3, h4⟩
    · cases h
theorem sr_len (v : Int) (ns bs gs : List Nat) (most : Int) (near : Nat) : (srA v (bestS v ns bs gs most near)).length ≤ 200 ∧ (srB v (bestS v ns bs gs most near)).length ≤ 200 := by
  cases hb : bestS v ns bs gs most near with
  | none => simp [srA, srB]
  | some s =>
    obtain ⟨a, b⟩ := s
    by_cases h0 : 0 ≤ most
    · obtain ⟨M, rfl⟩ := Int.eq_ofNat_of_zero_le h0
      obtain ⟨V, rfl, hV, hm, h3, h4⟩ := bestS_inv hb
      refine ⟨?_, ?_⟩
      · show (planT _ a b).length ≤ 200
        unfold planT; rw [plUp_len]; simp only [Int.toNat_natCast]; omega
      · show (pricesUp _ _ a _).length ≤ 200
        rw [pricesUp_len]; omega
    · have : rowOk v ns bs gs most near = false := by
        unfold rowOk
        cases hi : inB most 0 64
        · simp
        · exact absurd (inB_iff.1 hi).1 h0
      rw [bestS_no (rowS_no this)] at hb
      cases hb
end Go.Proofs.Ytbbcddbdinmaaaa
