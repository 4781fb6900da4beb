/- Rows of ints as results: what the laws do to them. -/
import Derived.Test.YtmkgccbpppcmoaaWay
import Derived.Test.YtmkgccbpppcmoaaMark
import Derived.Test.YtmkgccbpppcmoaaNetMark
namespace Go.Proofs.Ytmkgccbpppcmoaa
open Go.RowKit

/-- the blocks of rows -/
def RB (O : Option Addr) (vs : List Value) (k : Nat) : Prop := blk O k ∨ ∃ (j : Nat) (A : Option Addr) (n c : Nat), vs[j]? = some (.slice A n c) ∧ blk A k
structure RowsO (T TS base : Nat) (w : World) (O : Option Addr) (c : Nat) (vs : List Value) (rows : List (List Int)) : Prop where
  own : OwnC TS base 1 w O vs.length c vs
  rows : RowsAt T base w vs rows
  sep : RowsSep vs
section rowso
variable {T TS base : Nat} {w w' : World} {O : Option Addr} {c : Nat} {vs : List Value} {rows : List (List Int)} {S : Nat → Prop}
theorem RowsAt.own_at (h : RowsAt T base w vs rows) {j : Nat} {A : Option Addr} {n c : Nat} (hj : vs[j]? = some (.slice A n c)) : j < rows.length ∧ n = (rows.getD j []).length ∧ OwnI T base w A n c (rows.getD j []) := by
  have hl : j < vs.length := (List.getElem?_eq_some_iff.1 hj).1
  rw [h.1] at hl
  obtain ⟨B, d, h1, h2⟩ := h.2 j hl
  rw [hj] at h1
  injection h1 with h1
  injection h1 with e1 e2 e3
  subst e1; subst e2; subst e3
  exact ⟨hl, rfl, h2⟩
theorem RowsO.lt (h : RowsO T TS base w O c vs rows) {k : Nat} (hk : RB O vs k) : base ≤ k ∧ k < w.heap.size := by
  rcases hk with ⟨ad, h1, h2⟩ | ⟨j, A, n, d, h1, ad, h2, h3⟩
  · have := OwnC.lt h.own h1
    omega
  · have := (h.rows.own_at h1).2.2.lt h2
    omega
theorem RowsO.keep (h : RowsO T TS base w O c vs rows) (hk : ∀ k, RB O vs k → k < w.heap.size → w'.heap[k]? = w.heap[k]?) : RowsO T TS base w' O c vs rows := by
  refine ⟨OwnC.keep h.own (fun ad ha hlt => hk _ (.inl ⟨ad, ha, rfl⟩) hlt), ⟨h.rows.1, fun j hj => ?_⟩, h.sep⟩
  obtain ⟨A, d, h1, h2⟩ := h.rows.2 j hj
  exact ⟨A, d, h1, h2.keep fun ad ha hlt => hk _ (.inr ⟨j, A, _, d, h1, ad, ha, rfl⟩) hlt⟩
theorem RowsO.upd (h : RowsO T TS base w O c vs rows) (u : Upd S w w') (hS : ∀ k, RB O vs k → ¬ S k) : RowsO T TS base w' O c vs rows := h.keep fun k h1 h2 => u.block k h2 (hS k h1)
theorem RowsO.below (h : RowsO T TS base w O c vs rows) (hb : Below w.heap.size w w') : RowsO T TS base w' O c vs rows := h.keep fun k _ h2 => hb.block k h2
theorem RowsO.alloc (h : RowsO T TS base w O c vs rows) (o : Obj) : RowsO T TS base (w.alloc o) O c vs rows := h.keep fun k _ h2 => Below.heap_alloc w o k h2
theorem RowsO.drewN (h : RowsO T TS base w O c vs rows) (m : Nat) : RowsO T TS base (w.drewN m) O c vs rows := h.keep fun _ _ _ => rfl
theorem RowsO.low {base' : Nat} (h : RowsO T TS base w O c vs rows) (hb : base' ≤ base) : RowsO T TS base' w O c vs rows := ⟨OwnC.low h.own hb, h.rows.low hb, h.sep⟩
theorem sepXR {X : Option Addr} (h1 : ∀ ad, X = some ad → ad.block < base) (h2 : RowsO T TS base w O c vs rows) : ∀ k, RB O vs k → ¬ blk X k := fun k hk ⟨ad, ha, e⟩ => by
  have := h1 ad ha
  have := (h2.lt hk).1
  omega
theorem sepRX {X : Option Addr} (h2 : RowsO T TS base w O c vs rows) (h1 : ∀ ad, X = some ad → w.heap.size ≤ ad.block) : ∀ k, RB O vs k → ¬ blk X k := fun k hk ⟨ad, ha, e⟩ => by
  have := h1 ad ha
  have := (h2.lt hk).2
  omega
theorem sepRR {T' TS' c' : Nat} {O' : Option Addr} {vs' : List Value} {rows' : List (List Int)} (h : RowsO T TS base w O c vs rows) (h2 : RowsO T' TS' w.heap.size w' O' c' vs' rows') : ∀ k, RB O vs k → ¬ RB O' vs' k := fun k hk hk' => by
  have := (h.lt hk).2
  have := (h2.lt hk').1
  omega
theorem below_rows {B : Nat} {a : World} (hb : Below B a w) (hB : B ≤ w.heap.size) (u : Upd (RB O vs) w w') (h : RowsO T TS base w O c vs rows) (hbase : B ≤ base) : Below B a w' :=
  hb.trans (u.toBelow hB fun k hk h1 => by have := (h.lt h1).1; omega)
theorem RowsO.mark (hne : T ≠ TS) {rows' : List (List Int)} {A : Option Addr} {n d j : Nat} (h : RowsO T TS base w O c vs rows) (hj : vs[j]? = some (.slice A n d)) (u : Upd (blk A) w w') {zs : List Int} (o : OwnI T base w' A n d zs) (hl : rows'.length = rows.length) (h1 : rows'.getD j [] = zs) (h2 : ∀ i, i ≠ j → rows'.getD i [] = rows.getD i []) : RowsO T TS base w' O c vs rows' := by
  obtain ⟨hjl, hn, ho⟩ := h.rows.own_at hj
  refine ⟨OwnC.sep h.own u ((own_ne ho h.own hne).symm), ⟨by rw [hl]; exact h.rows.1, fun i hi => ?_⟩, h.sep⟩
  by_cases e : i = j
  · subst e
    rw [h1]
    have : zs.length = n := o.len
    rw [this]
    exact ⟨A, d, hj, o⟩
  · rw [h2 i e]
    obtain ⟨B, d2, h3, h4⟩ := h.rows.2 i (by rw [← hl]; exact hi)
    refine ⟨B, d2, h3, OwnI.sep h4 u ?_⟩
    by_cases hlt : i < j
    · exact h.sep i j B A _ _ _ _ hlt h3 hj
    · exact (h.sep j i A B _ _ _ _ (by omega) hj h3).symm
end rowso
/-- where the numbers of the row i begin -/
def offR (k : Int) (rows : List (List Int)) : Nat → Int
  | 0 => k
  | i + 1 => offR k rows i + ((rows.getD i []).length : Int)
theorem offR_mono (k : Int) (rows : List (List Int)) : ∀ i, k ≤ offR k rows i
  | 0 => Int.le_refl _
  | i + 1 => by have := offR_mono k rows i; unfold offR; omega
theorem offR_le (k : Int) (rows : List (List Int)) : ∀ (d i : Nat), offR k rows i ≤ offR k rows (i + d)
  | 0, i => Int.le_refl _
  | d + 1, i => by
    have := offR_le k rows d i
    rw [show i + (d + 1) = (i + d) + 1 from rfl, offR]
    omega
theorem offR_bd {k : Int} {rows : List (List Int)} {m : Nat} (h : ∀ i, (rows.getD i []).length ≤ m) : ∀ i, offR k rows i ≤ k + m * i
  | 0 => by unfold offR; omega
  | i + 1 => by
    have := offR_bd (k := k) h i
    have := h i
    unfold offR
    rw [show ((i + 1 : Nat) : Int) = (i : Int) + 1 by omega, Int.mul_add]
    omega
/-- the first j rows are marked -/
def rowsM (k : Int) (rows : List (List Int)) (j : Nat) : List (List Int) := (List.range rows.length).map fun i => if i < j then seqI (offR k rows i) (rows.getD i []).length else rows.getD i []
theorem rowsM_len (k : Int) (rows : List (List Int)) (j : Nat) : (rowsM k rows j).length = rows.length := by simp [rowsM]
theorem rowsM_get (k : Int) (rows : List (List Int)) (j i : Nat) (h : i < rows.length) : (rowsM k rows j).getD i [] = if i < j then seqI (offR k rows i) (rows.getD i []).length else rows.getD i [] := by simp [rowsM, List.getD, h]
theorem rowsM_out (k : Int) (rows : List (List Int)) (j i : Nat) (h : ¬ i < rows.length) : (rowsM k rows j).getD i [] = [] := by simp [rowsM, List.getD, h]
theorem rowsM_zero (k : Int) (rows : List (List Int)) : rowsM k rows 0 = rows := by
  apply List.ext_getElem?
  intro i
  by_cases h : i < rows.length
  · simp [rowsM, h, List.getD, List.getElem?_eq_getElem h]
  · rw [List.getElem?_eq_none (by rw [rowsM_len]; omega), List.getElem?_eq_none (by omega)]
theorem rowsM_glen (k : Int) (rows : List (List Int)) (j i : Nat) : ((rowsM k rows j).getD i []).length = (rows.getD i []).length := by
  by_cases h : i < rows.length
  · rw [rowsM_get k rows j i h]
    split
    · rw [seqI_len]
    · rfl
  · rw [rowsM_out k rows j i h]
    simp [List.getD, List.getElem?_eq_none (show rows.length ≤ i by omega)]

set_option maxHeartbeats 1600000 in
theorem eqInt64SS_same (T TS base base' : Nat) (O O' : Option Addr) (c c' : Nat) (vs vs' : List Value) (rows : List (List Int)) (w : World) (h : RowsO T TS base w O c vs rows) (h' : RowsO T TS base' w O' c' vs' rows) (hn : vs.length ≤ 1048576) (hrl : ∀ i, (rows.getD i []).length ≤ 1048576) :
    Calls Try.prog 18 #[.slice O vs.length c, .slice O' vs'.length c'] w (RetV (.bool true) w) := by
  have hll : vs'.length = vs.length := by rw [h.rows.1, h'.rows.1]
  have HRL := Lib.hid hrl
  rw [hll]
  have HVR := Lib.hid h.rows.1
  have HH := Lib.hid h
  have HH' := Lib.hid h'
  have HLL := Lib.hid hll
  clear h h' hll
  generalize hnv : vs.length = n at *
  have HNV := Lib.hid hnv
  clear hnv
  go_enter Try.func18, Try.ntmps18
  go_wp2_with fail
  go_loopg [5] n (fun r iv wi => ∃ k : Nat, r = n - k ∧ k ≤ n ∧ iv = .int .i64 k ∧ Drew w wi)
  case atStart => exact ⟨0, rfl, Nat.zero_le _, rfl, Drew.refl _⟩
  case round =>
    obtain ⟨k, hr, hk, rfl, q, rfl⟩ := hrel
    have HR := Lib.hid hr
    clear hr
    have hd2 : Drew w (w.drewN q) := ⟨q, rfl⟩
    have HO := Lib.hid (HH.out.drewN q)
    have HO' := Lib.hid (HH'.out.drewN q)
    generalize w.drewN q = W at *
    by_cases hlt : k < n
    · have hlt' : (k : Int) < (n : Int) := by omega
      obtain ⟨g, rfl, _⟩ := OwnC.pos HO.out.own (by have := HNV.out; omega)
      obtain ⟨g', rfl, _⟩ := OwnC.pos HO'.out.own (by have := HNV.out; have := HLL.out; omega)
      obtain ⟨A, d, h1, h2⟩ := HO.out.rows.2 k (by have := HVR.out; omega)
      obtain ⟨B, d', h3, h4⟩ := HO'.out.rows.2 k (by have := HVR.out; omega)
      have c1 := OwnC.cell HO.out.own (j := k) (by have := HNV.out; omega)
      have c2 := OwnC.cell HO'.out.own (j := k) (by have := HNV.out; have := HLL.out; omega)
      rw [h1] at c1
      rw [h3] at c2
      have hm := HRL.out k
      generalize rows.getD k [] = zs at *
      have HQ := Lib.hid (fun (p : Nat) => show Calls Try.prog 11 #[.slice A zs.length d, .slice B zs.length d'] (W.drewN p) fun e w'' => e = .returned (.bool true) ∧ ∃ m, w'' = W.drewN m from
        quiet_drew ((eqInt64S_any A B zs.length d zs.length d' zs zs (W.drewN p) (h2.drewN p).ints (h4.drewN p).ints (by unfold maxLen; omega)).mono fun e w' ⟨e1, e2⟩ => ⟨by rw [e1, decide_eq_true rfl], e2⟩))
      clear h1 h3
      generalize zs.length = z at *
      go_wp2_with fail
      go_quiet ((go_at_call 11; exact HQ.out _))
      go_wp2_with fail
      go_roundg (n - (k + 1))
      case measure => rw [HR.out]; omega
      case rel => exact ⟨k + 1, rfl, by omega, by go_num, hd2.step _⟩
    · go_wp2_with fail
      go_ret
      exact ⟨rfl, hd2.below⟩
set_option maxHeartbeats 1600000 in
theorem markInt64SS_any (T TS base : Nat) (hne : T ≠ TS) (O : Option Addr) (c : Nat) (vs : List Value) (rows : List (List Int)) (k : Int) (w : World) (h : RowsO T TS base w O c vs rows) (hk : 0 ≤ k) (hn : vs.length ≤ 1048576) (hb : offR k rows rows.length ≤ 4611686018427387904) :
    Calls Try.prog 21 #[.slice O vs.length c, .int .i64 k] w fun e w' => e = .returned (.int .i64 (offR k rows rows.length)) ∧ RowsO T TS base w' O c vs (rowsM k rows rows.length) ∧ Upd (RB O vs) w w' := by
  have HVR := Lib.hid h.rows.1
  have h0 : RowsO T TS base w O c vs (rowsM k rows 0) := by rw [rowsM_zero]; exact h
  have HNE := Lib.hid hne
  clear h hne
  generalize hnv : vs.length = n at *
  have HNV := Lib.hid hnv
  have HRN := Lib.hid (show rows.length = n from HVR.out.symm)
  rw [HRN.out] at hb ⊢
  clear hnv
  have HOB := Lib.hid (fun j (hj : j ≤ n) => show k ≤ offR k rows j ∧ offR k rows j ≤ 4611686018427387904 from ⟨offR_mono k rows j, by have := offR_le k rows (n - j) j; rw [show j + (n - j) = n by omega] at this; omega⟩)
  go_enter Try.func21, Try.ntmps21
  go_wp2_with fail
  go_loopg [1, 5] n (fun r kk i wr => ∃ j : Nat, r = n - j ∧ j ≤ n ∧ i = .int .i64 j ∧ kk = .int .i64 (offR k rows j) ∧ RowsO T TS base wr O c vs (rowsM k rows j) ∧ Upd (RB O vs) w wr)
  case atStart => exact ⟨0, by omega, by omega, rfl, rfl, h0, Upd.refl _ _⟩
  case round =>
    clear h0
    obtain ⟨j, hr, hj, rfl, rfl, ho, hu⟩ := hrel
    have HR := Lib.hid hr
    clear hr
    by_cases hlt : j < n
    · have hlt' : (j : Int) < (n : Int) := by omega
      obtain ⟨g, rfl, _⟩ := OwnC.pos ho.own (by have := HNV.out; omega)
      obtain ⟨A, d, h1, h2⟩ := ho.rows.2 j (by rw [rowsM_len, HRN.out]; exact hlt)
      have hget : (rowsM k rows j).getD j [] = rows.getD j [] := by rw [rowsM_get k rows j j (by rw [HRN.out]; exact hlt), if_neg (by omega)]
      rw [hget] at h1 h2
      have c1 := OwnC.cell ho.own (j := j) (by have := HNV.out; omega)
      rw [h1] at c1
      have H1 := Lib.hid h1
      have HO := Lib.hid ho
      obtain ⟨b1, b2⟩ := HOB.out j hj
      obtain ⟨b3, b4⟩ := HOB.out (j + 1) (by omega)
      have HST := Lib.hid (show offR k rows (j + 1) = offR k rows j + ((rows.getD j []).length : Int) from rfl)
      have hst2 : offR k rows j + ((rows.getD j []).length : Int) ≤ 4611686018427387904 := by rw [← HST.out]; exact b4
      have HM := Lib.hid (markInt64S_any T base A (rows.getD j []).length d (rows.getD j []) (offR k rows j) wr h2 (by omega) hst2)
      have HFIN := Lib.hid (fun (w' : World) (o : OwnI T base w' A (rows.getD j []).length d (seqI (offR k rows j) (rows.getD j []).length)) (u : Upd (blk A) wr w') => show RowsO T TS base w' (some ⟨g, 0, none⟩) c vs (rowsM k rows (j + 1)) from by
        refine RowsO.mark HNE.out HO.out H1.out u o (by rw [rowsM_len, rowsM_len]) ?_ ?_
        · rw [rowsM_get k rows (j + 1) j (by rw [HRN.out]; exact hlt), if_pos (by omega)]
        · intro i hi
          by_cases hil : i < rows.length
          · rw [rowsM_get k rows (j + 1) i hil, rowsM_get k rows j i hil]
            by_cases hij : i < j
            · rw [if_pos (by omega), if_pos hij]
            · rw [if_neg (by omega), if_neg hij]
          · rw [rowsM_out k rows (j + 1) i hil, rowsM_out k rows j i hil])
      clear ho h1 h2 hget b3 b4
      generalize hof : offR k rows j = off at *
      generalize hln : (rows.getD j []).length = ln at *
      clear hof hln
      go_wp2_with fail
      refine HM.out.mono ?_
      rintro e w1 ⟨rfl, o1, u1⟩
      have hu2 := hu.then u1 (fun b _ hb => .inr ⟨j, A, _, d, H1.out, hb⟩)
      have ho2 := HFIN.out w1 o1 u1
      clear o1 u1 c1
      go_wp2_with fail
      go_roundg (n - (j + 1))
      case measure => rw [HR.out]; omega
      case rel => exact ⟨j + 1, rfl, by omega, by go_num, by rw [HST.out], ho2, hu2⟩
    · obtain rfl : j = n := by omega
      generalize hof : offR k rows j = off at *
      go_wp2_with fail
      go_ret
      exact ⟨by rw [hof]; rfl, ho, hu⟩
set_option maxHeartbeats 1600000 in
theorem heldInt64SS_any (T TS base : Nat) (O : Option Addr) (c : Nat) (vs : List Value) (rows : List (List Int)) (k : Int) (w : World) (h : RowsO T TS base w O c vs (rowsM k rows rows.length)) (hk : 0 ≤ k) (hn : vs.length ≤ 1048576) (hb : offR k rows rows.length ≤ 4611686018427387904) :
    Calls Try.prog 22 #[.slice O vs.length c, .int .i64 k] w fun e w' => e = .returned (.int .i64 (offR k rows rows.length)) ∧ w = w' := by
  have HVR := Lib.hid h.rows.1
  have HO := Lib.hid h
  clear h
  generalize hnv : vs.length = n at *
  have HNV := Lib.hid hnv
  have HRN := Lib.hid (show rows.length = n from by have := HVR.out; rw [rowsM_len] at this; exact this.symm)
  rw [HRN.out] at hb HO ⊢
  clear hnv
  have HOB := Lib.hid (fun j (hj : j ≤ n) => show k ≤ offR k rows j ∧ offR k rows j ≤ 4611686018427387904 from ⟨offR_mono k rows j, by have := offR_le k rows (n - j) j; rw [show j + (n - j) = n by omega] at this; omega⟩)
  go_enter Try.func22, Try.ntmps22
  go_wp2_with fail
  go_loop [1, 5] (fun kk i => ∃ j : Nat, j ≤ n ∧ i = .int .i64 j ∧ kk = .int .i64 (offR k rows j)) (fun _ i => n - (intOf i).toNat)
  case atStart => exact ⟨0, by omega, rfl, rfl⟩
  case round =>
    obtain ⟨j, hj, rfl, rfl⟩ := hrel
    by_cases hlt : j < n
    · have hlt' : (j : Int) < (n : Int) := by omega
      obtain ⟨g, rfl, _⟩ := OwnC.pos HO.out.own (by have := HNV.out; omega)
      obtain ⟨A, d, h1, h2⟩ := HO.out.rows.2 j (by rw [rowsM_len, HRN.out]; exact hlt)
      rw [rowsM_get k rows n j (by rw [HRN.out]; exact hlt), if_pos hlt, seqI_len] at h1 h2
      have c1 := OwnC.cell HO.out.own (j := j) (by have := HNV.out; omega)
      rw [h1] at c1
      obtain ⟨b1, b2⟩ := HOB.out j hj
      obtain ⟨b3, b4⟩ := HOB.out (j + 1) (by omega)
      have HST := Lib.hid (show offR k rows (j + 1) = offR k rows j + ((rows.getD j []).length : Int) from rfl)
      have hst2 : offR k rows j + ((rows.getD j []).length : Int) ≤ 4611686018427387904 := by rw [← HST.out]; exact b4
      have HM := Lib.hid (heldInt64S_any A (rows.getD j []).length d (offR k rows j) w h2.ints (by omega) hst2)
      clear h1 h2 b3 b4
      generalize hof : offR k rows j = off at *
      generalize hln : (rows.getD j []).length = ln at *
      clear hof hln
      have hnn : ¬ (off + (ln : Int)) < 0 := by omega
      go_wp2_with fail
      refine HM.out.mono ?_
      rintro e w1 ⟨rfl, rfl⟩
      go_wp2_with fail
      go_round
      case rel => exact ⟨j + 1, by omega, by go_num, by rw [HST.out]⟩
      case measure => simp [intOf]; omega
    · obtain rfl : j = n := by omega
      generalize hof : offR k rows j = off at *
      go_wp2_with fail
      go_ret
      exact ⟨rfl, rfl⟩
/-- ways are few and short -/
theorem wayF_small {xs : List ArcR} {fr to_ : Int} : ∀ (a : Nat) (rs : List Int) (out out' : List (List Int)), (∀ i, (out.getD i []).length ≤ 48) → waysF xs fr to_ a rs out = some out' → ∀ i, (out'.getD i []).length ≤ 48
  | 0, rs, out, out', h, hw => by
    unfold waysF at hw
    injection hw with hw; subst hw; exact h
  | a + 1, rs, out, out', h, hw => by
    unfold waysF at hw
    split at hw
    · cases hw
    · rename_i rs' wy hwy
      refine wayF_small a _ _ _ (fun i => ?_) hw
      have hl := (wayF_len _ _ _ _ _ _ hwy).2.1
      by_cases hi : i < out.length
      · rw [show (out ++ [wy]).getD i [] = out.getD i [] by simp [List.getD, List.getElem?_append_left hi]]
        exact h i
      · by_cases hi2 : i = out.length
        · subst hi2
          rw [show (out ++ [wy]).getD out.length [] = wy by simp [List.getD]]
          simpa using hl
        · rw [show (out ++ [wy]).getD i [] = [] by simp [List.getD, List.getElem?_eq_none (show (out ++ [wy]).length ≤ i by simp; omega)]]
          simp
theorem wayV_small (nodes : Int) (xs : List ArcR) (fl : List Int) (a b : Int) : (wayV nodes xs fl a b).length ≤ 48 ∧ ∀ i, ((wayV nodes xs fl a b).getD i []).length ≤ 48 := by
  cases h : wayO nodes xs fl a b with
  | none => rw [(way_none h).2]; simp [List.getD]
  | some out =>
    rw [(way_some h).2]
    unfold wayO at h
    split at h
    · rename_i hh
      have h2 := inB_iff.1 hh.2
      have h3 := waysF_len _ _ _ _ h
      refine ⟨by simp at h3; omega, wayF_small _ _ _ _ (fun i => by simp [List.getD]) h⟩
    · cases h
end Go.Proofs.Ytmkgccbpppcmoaa
