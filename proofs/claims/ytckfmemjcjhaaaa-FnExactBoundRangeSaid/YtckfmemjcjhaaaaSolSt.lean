/- The state of pivots in a row. -/
import Derived.Test.YtckfmemjcjhaaaaSolPlain
import Derived.Test.YtckfmemjcjhaaaaPivS
namespace Go.Proofs.Ytckfmemjcjhaaaa
open Go.RowKit

/-- the state of the pivots: the box of the table, the box of the result, the table's own lists -/
structure SolSt (base gT gR V m n : Nat) (w0 w : World) (A : Option Addr) (c : Nat) (ns : List Nat) (B : Option Addr) (d : Nat) (bs : List Int) : Prop where
  kt : Blk w gT 27 #[.int .i64 V, .slice A n c, .slice B m d]
  kr : Blk w gR 27 #[.int .i64 0, .slice none 0 0, .slice none 0 0]
  oN : OwnF 34 base w A n c ns
  oB : OwnI 2 base w B m d bs
  bl : Below w0.heap.size w0 w
theorem SolSt.ext {base gT gR V m n : Nat} {w0 w w' : World} {A : Option Addr} {c : Nat} {ns : List Nat} {B : Option Addr} {d : Nat} {bs : List Int} (h : SolSt base gT gR V m n w0 w A c ns B d bs) (hb : Below w.heap.size w w') : SolSt base gT gR V m n w0 w' A c ns B d bs :=
  ⟨h.kt.ext hb, h.kr.ext hb, h.oN.below hb, h.oB.below hb, below_ext h.bl h.bl.size hb⟩
theorem own_pos_ne {T T' base n c gO : Nat} {w : World} {A : Option Addr} {zs : List Nat} {cs : Array Value} (h : OwnF T base w A n c zs) (hp : 0 < n) (hk : Blk w gO T' cs) (hne : T ≠ T') : ∀ ad, A = some ad → ad.block ≠ gO := by
  obtain ⟨g, rfl, _⟩ := h.pos hp
  intro ad e
  injection e with e
  subst e
  exact own_ne_blk h hk hne
theorem own_pos_neI {T T' base n c gO : Nat} {w : World} {A : Option Addr} {zs : List Int} {cs : Array Value} (h : OwnI T base w A n c zs) (hp : 0 < n) (hk : Blk w gO T' cs) (hne : T ≠ T') : ∀ ad, A = some ad → ad.block ≠ gO := by
  obtain ⟨g, rfl, _⟩ := h.pos hp
  intro ad e
  injection e with e
  subst e
  exact own_ne_blkI h hk hne
theorem SolSt.next {base gT gR V m n : Nat} {w0 w w4 : World} {A : Option Addr} {c : Nat} {ns : List Nat} {B : Option Addr} {d : Nat} {bs : List Int} (h : SolSt base gT gR V m n w0 w A c ns B d bs) (b4 : Below w.heap.size w w4) {A4 : Option Addr} {c4 : Nat} {ns4 : List Nat} {B4 : Option Addr} {d4 : Nat} {bs4 : List Int}
    (o4 : OwnF 34 w.heap.size w4 A4 n c4 ns4) (q4 : OwnI 2 w.heap.size w4 B4 m d4 bs4) (hn : 0 < n) (hm : 0 < m) (hbase : base ≤ w.heap.size) (hgT : w0.heap.size ≤ gT) (hgn : gT ≠ gR) :
    SolSt base gT gR V m n w0 ((((w4.alloc (.cells #[.int .i64 V, .slice A4 n c4, .slice B4 m d4] 27)).setCell ⟨gT, 0, none⟩ (.int .i64 V)).setCell ⟨gT, 1, none⟩ (.slice A4 n c4)).setCell ⟨gT, 2, none⟩ (.slice B4 m d4)) A4 c4 ns4 B4 d4 bs4 := by
  have kt := (h.kt.ext b4).alloc (.cells #[.int .i64 V, .slice A4 n c4, .slice B4 m d4] 27)
  have kr := (h.kr.ext b4).alloc (.cells #[.int .i64 V, .slice A4 n c4, .slice B4 m d4] 27)
  have oN := (OwnF.low o4 hbase).alloc (.cells #[.int .i64 V, .slice A4 n c4, .slice B4 m d4] 27)
  have oB := (OwnI.low q4 hbase).alloc (.cells #[.int .i64 V, .slice A4 n c4, .slice B4 m d4] 27)
  have hN := own_pos_ne oN hn kt (by decide)
  have hB := own_pos_neI oB hm kt (by decide)
  have bl0 := below_ext h.bl h.bl.size b4
  have bl := bl0.alloc bl0.size (.cells #[.int .i64 V, .slice A4 n c4, .slice B4 m d4] 27)
  exact ⟨((kt.set 0 _).set 1 _).set 2 _, ((kr.far (p := ⟨gT, 0, none⟩) (Ne.symm hgn) _).far (p := ⟨gT, 1, none⟩) (Ne.symm hgn) _).far (p := ⟨gT, 2, none⟩) (Ne.symm hgn) _,
    ((oN.far (p := ⟨gT, 0, none⟩) hN _).far (p := ⟨gT, 1, none⟩) hN _).far (p := ⟨gT, 2, none⟩) hN _, ((oB.far (p := ⟨gT, 0, none⟩) hB _).far (p := ⟨gT, 1, none⟩) hB _).far (p := ⟨gT, 2, none⟩) hB _,
    ((bl.setCell (p := ⟨gT, 0, none⟩) hgT _).setCell (p := ⟨gT, 1, none⟩) hgT _).setCell (p := ⟨gT, 2, none⟩) hgT _⟩
/-- the result's box filled -/
theorem SolSt.fill {base gT gR V m n : Nat} {w0 w : World} {A : Option Addr} {c : Nat} {ns : List Nat} {B : Option Addr} {d : Nat} {bs : List Int} (h : SolSt base gT gR V m n w0 w A c ns B d bs) (hn : 0 < n) (hm : 0 < m) (hgR : w0.heap.size ≤ gR) (x0 x1 x2 : Value) :
    OwnF 34 base (((w.setCell ⟨gR, 0, none⟩ x0).setCell ⟨gR, 1, none⟩ x1).setCell ⟨gR, 2, none⟩ x2) A n c ns ∧ OwnI 2 base (((w.setCell ⟨gR, 0, none⟩ x0).setCell ⟨gR, 1, none⟩ x1).setCell ⟨gR, 2, none⟩ x2) B m d bs ∧ Below w0.heap.size w0 (((w.setCell ⟨gR, 0, none⟩ x0).setCell ⟨gR, 1, none⟩ x1).setCell ⟨gR, 2, none⟩ x2) := by
  have hN := own_pos_ne h.oN hn h.kr (by decide)
  have hB := own_pos_neI h.oB hm h.kr (by decide)
  exact ⟨((h.oN.far (p := ⟨gR, 0, none⟩) hN _).far (p := ⟨gR, 1, none⟩) hN _).far (p := ⟨gR, 2, none⟩) hN _, ((h.oB.far (p := ⟨gR, 0, none⟩) hB _).far (p := ⟨gR, 1, none⟩) hB _).far (p := ⟨gR, 2, none⟩) hB _,
    ((h.bl.setCell (p := ⟨gR, 0, none⟩) hgR _).setCell (p := ⟨gR, 1, none⟩) hgR _).setCell (p := ⟨gR, 2, none⟩) hgR _⟩
theorem enterT_bd (ns : List Nat) (m W near : Nat) : enterT ns m W near = -1 ∨ ∃ k : Nat, enterT ns m W near = k ∧ k < W - 1 := firstI_bd _ _
theorem leaveT_bd (ns : List Nat) (bs : List Int) (W near c : Nat) : leaveT ns bs W near c = -1 ∨ ∃ k : Nat, leaveT ns bs W near c = k ∧ k < bs.length := leaveUp_bd _ _ _ _ _ _
end Go.Proofs.Ytckfmemjcjhaaaa
