/- The table of rows, in plain lists. -/
import Derived.Test.YtbbcddbdinmaaaaRowsF
namespace Go.Proofs.Ytbbcddbdinmaaaa
open Go.RowKit

def oneF : Nat := 1065353216
def negF (b : Nat) : Nat := Op.negFloat .f32 b
def cellV (V m : Nat) (ns gs : List Nat) (i k : Nat) : Nat := if i < m then ns.getD (i * V + k) 0 else negF (gs.getD k 0)
def cellU (i k : Nat) : Nat := if k = i then oneF else 0
def cellL (m : Nat) (bs : List Nat) (i : Nat) : Nat := if i < m then bs.getD i 0 else 0
def upV (V m : Nat) (ns gs : List Nat) (i k : Nat) : List Nat := (List.range k).map (cellV V m ns gs i)
def upU (i k : Nat) : List Nat := (List.range k).map (cellU i)
theorem upV_succ (V m : Nat) (ns gs : List Nat) (i k : Nat) : upV V m ns gs i (k + 1) = upV V m ns gs i k ++ [cellV V m ns gs i k] := by simp [upV, List.range_succ]
theorem upU_succ (i k : Nat) : upU i (k + 1) = upU i k ++ [cellU i k] := by simp [upU, List.range_succ]
theorem upV_len (V m : Nat) (ns gs : List Nat) (i k : Nat) : (upV V m ns gs i k).length = k := by simp [upV]
theorem upU_len (i k : Nat) : (upU i k).length = k := by simp [upU]
def rowT (V m : Nat) (ns bs gs : List Nat) (i : Nat) : List Nat := upV V m ns gs i V ++ upU i m ++ [cellL m bs i]
def tabT (V m : Nat) (ns bs gs : List Nat) : Nat → List Nat
  | 0 => []
  | i + 1 => tabT V m ns bs gs i ++ rowT V m ns bs gs i
theorem tabT_len (V m : Nat) (ns bs gs : List Nat) : ∀ i, (tabT V m ns bs gs i).length = i * (V + m + 1)
  | 0 => by simp [tabT]
  | i + 1 => by
    rw [tabT, List.length_append, tabT_len V m ns bs gs i, rowT, List.length_append, List.length_append, upV_len, upU_len, List.length_singleton, Nat.succ_mul]
theorem tabT_le {V m : Nat} {ns bs gs : List Nat} {i : Nat} (hV : V ≤ 8) (hm : m ≤ 8) (hi : i ≤ 9) : (tabT V m ns bs gs i).length ≤ 153 := by
  rw [tabT_len]
  calc i * (V + m + 1) ≤ 9 * 17 := Nat.mul_le_mul hi (by omega)
    _ = 153 := rfl
theorem run_neg_f {P : Program} (w : World) (b : Nat) : (Op.unary .neg (.float .f32 b)).run P w = .ok (.float .f32 (Op.negFloat .f32 b)) w := by simp [Op.unary]
theorem own_neF {T base n c : Nat} {w : World} {A O : Option Addr} {zs : List Nat} {T' base' size m d : Nat} {us : List Value} (h : OwnF T base w A n c zs) (hO : OwnC T' base' size w O m d us) (hne : T ≠ T') : Sep A O := by
  intro a o ha ho e
  rcases h.2 with ⟨h1, _⟩ | ⟨g, cap, cur, h1, _, h3, _⟩
  · injection h1 with h1; rw [h1] at ha; cases ha
  · injection h1 with h1; rw [h1] at ha; injection ha with ha; subst ha
    rcases hO.2 with ⟨k1, _⟩ | ⟨g', cap', cur', k1, _, k3, _⟩
    · injection k1 with k1; rw [k1] at ho; cases ho
    · injection k1 with k1; rw [k1] at ho; injection ho with ho; subst ho
      have e' : g = g' := e
      subst e'
      rw [h3] at k3
      injection k3 with k3
      injection k3 with _ k4
      exact hne k4
/-- the table that is being made, in memory -/
structure TabSt (gO : Nat) (V : Int) (w : World) (N : Option Addr) (nn cn : Nat) (nums : List Nat) (Q : Option Addr) (qn cq : Nat) (bas : List Int) : Prop where
  k : Blk w gO 27 #[.int .i64 V, .slice N nn cn, .slice Q qn cq]
  oN : OwnF 34 (gO + 1) w N nn cn nums
  oQ : OwnI 2 (gO + 1) w Q qn cq bas
section tabst
variable {gO : Nat} {V : Int} {w w' : World} {N : Option Addr} {nn cn : Nat} {nums : List Nat} {Q : Option Addr} {qn cq : Nat} {bas : List Int}
theorem TabSt.drewN (h : TabSt gO V w N nn cn nums Q qn cq bas) (q : Nat) : TabSt gO V (w.drewN q) N nn cn nums Q qn cq bas := ⟨h.k, h.oN, h.oQ⟩
theorem TabSt.alloc (h : TabSt gO V w N nn cn nums Q qn cq bas) (o : Obj) : TabSt gO V (w.alloc o) N nn cn nums Q qn cq bas := ⟨h.k.alloc o, h.oN.alloc o, h.oQ.alloc o⟩
theorem TabSt.below (h : TabSt gO V w N nn cn nums Q qn cq bas) (hb : Below w.heap.size w w') : TabSt gO V w' N nn cn nums Q qn cq bas := ⟨h.k.ext hb, h.oN.below hb, h.oQ.below hb⟩
/-- the numbers grown, and the box told so -/
theorem TabSt.numsTo (h : TabSt gO V w N nn cn nums Q qn cq bas) {N' : Option Addr} {nn' cn' : Nat} {nums' : List Nat} (o : OwnF 34 (gO + 1) w' N' nn' cn' nums') (u : Upd (blk N) w w') :
    TabSt gO V (w'.setCell ⟨gO, 1, none⟩ (.slice N' nn' cn')) N' nn' cn' nums' Q qn cq bas := by
  have hk : Blk w' gO 27 #[.int .i64 V, .slice N nn cn, .slice Q qn cq] := h.k.upd u (fun ⟨ad, h1, h2⟩ => by have := (h.oN.lt h1).1; omega)
  have hq : OwnI 2 (gO + 1) w' Q qn cq bas := h.oQ.sep u ((own_neF h.oN (show OwnC 2 (gO + 1) 1 w Q qn cq (bas.map (Value.int .i64)) from h.oQ) (by decide)).symm)
  exact ⟨hk.set 1 _, o.far (p := ⟨gO, 1, none⟩) (fun ad ha => by have := (o.lt ha).1; show ad.block ≠ gO; omega) _, hq.far (p := ⟨gO, 1, none⟩) (fun ad ha => by have := (hq.lt ha).1; show ad.block ≠ gO; omega) _⟩
theorem TabSt.basTo (h : TabSt gO V w N nn cn nums Q qn cq bas) {Q' : Option Addr} {qn' cq' : Nat} {bas' : List Int} (o : OwnI 2 (gO + 1) w' Q' qn' cq' bas') (u : Upd (blk Q) w w') :
    TabSt gO V (w'.setCell ⟨gO, 2, none⟩ (.slice Q' qn' cq')) N nn cn nums Q' qn' cq' bas' := by
  have hk : Blk w' gO 27 #[.int .i64 V, .slice N nn cn, .slice Q qn cq] := h.k.upd u (fun ⟨ad, h1, h2⟩ => by have := (h.oQ.lt h1).1; omega)
  have hn : OwnF 34 (gO + 1) w' N nn cn nums := h.oN.sep u (own_neF h.oN (show OwnC 2 (gO + 1) 1 w Q qn cq (bas.map (Value.int .i64)) from h.oQ) (by decide))
  exact ⟨hk.set 2 _, hn.far (p := ⟨gO, 2, none⟩) (fun ad ha => by have := (hn.lt ha).1; show ad.block ≠ gO; omega) _, o.far (p := ⟨gO, 2, none⟩) (fun ad ha => by have := (o.lt ha).1; show ad.block ≠ gO; omega) _⟩
theorem TabSt.boxFree (h : TabSt gO V w N nn cn nums Q qn cq bas) (u : Upd (blk N) w w') (i : Nat) : w'.cell? ⟨gO, i, none⟩ = (#[Value.int .i64 V, .slice N nn cn, .slice Q qn cq])[i]? ∧ w'.frozen? ⟨gO, i, none⟩ = false := by
  have hk : Blk w' gO 27 #[.int .i64 V, .slice N nn cn, .slice Q qn cq] := h.k.upd u (fun ⟨ad, h1, h2⟩ => by have := (h.oN.lt h1).1; omega)
  exact ⟨hk.cell i, hk.free i⟩
theorem TabSt.boxFreeQ (h : TabSt gO V w N nn cn nums Q qn cq bas) (u : Upd (blk Q) w w') (i : Nat) : w'.cell? ⟨gO, i, none⟩ = (#[Value.int .i64 V, .slice N nn cn, .slice Q qn cq])[i]? ∧ w'.frozen? ⟨gO, i, none⟩ = false := by
  have hk : Blk w' gO 27 #[.int .i64 V, .slice N nn cn, .slice Q qn cq] := h.k.upd u (fun ⟨ad, h1, h2⟩ => by have := (h.oQ.lt h1).1; omega)
  exact ⟨hk.cell i, hk.free i⟩
end tabst
/-- an append leaves what lies below the rows -/
theorem below_app {B base T size n c : Nat} {w w' a : World} {A : Option Addr} {vs : List Value} (hb : Below B a w) (hB : B ≤ w.heap.size) (hu : Upd (blk A) w w') (ho : OwnC T base size w A n c vs) (hbase : B ≤ base) : Below B a w' :=
  hb.trans (hu.toBelow hB fun k hk ⟨x, h1, h2⟩ => by have := (OwnC.lt ho h1).1; omega)
theorem updGF {w w' : World} {A : Option Addr} {n c : Nat} (hg : w.grownBy w' (Value.slice A n c).ownBlock) : Upd (blk A) w w' := (Upd.refl _ _).grown hg (by
  intro k hk
  cases A with
  | none => cases hk
  | some ad => injection hk with hk; exact .inl ⟨ad, rfl, hk⟩)
theorem own_snocF {T base n c : Nat} {w : World} {A : Option Addr} {zs : List Nat} {x : Nat} (h : w.ownsRow base T 1 (.slice A n c) n (zs.map (Value.float .f32) ++ [.float .f32 x])) : OwnF T base w A n c (zs ++ [x]) := by
  unfold OwnF
  rw [List.map_append]
  exact h
theorem own_snocI {T base n c : Nat} {w : World} {A : Option Addr} {zs : List Int} {x : Int} (h : w.ownsRow base T 1 (.slice A n c) n (zs.map (Value.int .i64) ++ [.int .i64 x])) : OwnI T base w A n c (zs ++ [x]) := by
  unfold OwnI
  rw [List.map_append]
  exact h
end Go.Proofs.Ytbbcddbdinmaaaa
