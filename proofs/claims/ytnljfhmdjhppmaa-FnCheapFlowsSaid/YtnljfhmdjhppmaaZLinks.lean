/- Left over arcs: links. -/
import Derived.Test.YtnljfhmdjhppmaaZFlow
import Derived.Test.YtnljfhmdjhppmaaJ2
import Derived.Test.YtnljfhmdjhppmaaZNetMark
import Derived.StillTailTactics
namespace Go.Proofs.Ytnljfhmdjhppmaa
open Go.RowKit

/-- a left over arc -/
structure LinkR where
  arc : Nat
  back : Bool
  fr : Int
  to_ : Int
  room : Int
  cost : Int
deriving DecidableEq
instance : Inhabited LinkR := ⟨⟨0, false, 0, 0, 0, 0⟩⟩
def LinkR.by_ (l : LinkR) : Int := if l.back then -1 else 1
/-- the cells of a link of the program -/
def LinkR.cells (l : LinkR) : List Value := [.int .i64 l.arc, .int .i64 l.by_, .int .i64 l.fr, .int .i64 l.to_, .int .i64 l.room, .int .i64 l.cost]
/-- the cells of a left over arc of the reference -/
def LinkR.cellsS (l : LinkR) : List Value := [.int .i64 l.fr, .int .i64 l.to_, .int .i64 l.room, .int .i64 l.cost, .int .i64 l.arc, .bool l.back]

/-- elements of s cells each -/
def flatV {α : Type} (f : α → List Value) (xs : List α) : List Value := xs.flatMap f
theorem flatV_len {α : Type} (f : α → List Value) (s : Nat) (hf : ∀ a, (f a).length = s) (xs : List α) : (flatV f xs).length = xs.length * s := by
  induction xs with
  | nil => simp [flatV]
  | cons x xs ih => simp only [flatV, List.flatMap_cons, List.length_append, List.length_cons] at *; rw [ih, hf, Nat.succ_mul]; omega
theorem flatV_get {α : Type} (f : α → List Value) (s : Nat) (hf : ∀ a, (f a).length = s) (d : α) : ∀ (xs : List α) (k i : Nat), k < xs.length → i < s → (flatV f xs)[k * s + i]? = (f (xs.getD k d))[i]?
  | [], k, i, h, _ => by simp at h
  | x :: xs, 0, i, _, hi => by
    simp only [flatV, List.flatMap_cons]
    rw [List.getElem?_append_left (by rw [hf]; omega)]
    simp
  | x :: xs, k + 1, i, h, hi => by
    have := flatV_get f s hf d xs k i (by simpa using h) hi
    simp only [flatV, List.flatMap_cons]
    rw [List.getElem?_append_right (by rw [hf, Nat.succ_mul]; omega), hf]
    rw [show (k + 1) * s + i - s = k * s + i by rw [Nat.succ_mul]; omega]
    simpa [flatV] using this
theorem flatV_append {α : Type} (f : α → List Value) (xs ys : List α) : flatV f xs ++ flatV f ys = flatV f (xs ++ ys) := by simp [flatV]
theorem flatV_one {α : Type} (f : α → List Value) (x : α) : flatV f [x] = f x := by simp [flatV]

def linksOf (i : Nat) (a : ArcR) (y : Int) : List LinkR := (if y < a.room then [⟨i, false, a.fr, a.to_, a.room - y, a.cost⟩] else []) ++ (if 0 < y then [⟨i, true, a.to_, a.fr, y, -a.cost⟩] else [])
/-- the links of the first k arcs -/
def linksTo (xs : List ArcR) (fl : List Int) (k : Nat) : List LinkR := (List.range k).flatMap fun i => linksOf i (xs.getD i default) (fl.getD i 0)
theorem linksTo_succ (xs : List ArcR) (fl : List Int) (k : Nat) : linksTo xs fl (k + 1) = linksTo xs fl k ++ linksOf k (xs.getD k default) (fl.getD k 0) := by
  unfold linksTo
  rw [List.range_succ, List.flatMap_append]; simp
theorem linksOf_len (i : Nat) (a : ArcR) (y : Int) : (linksOf i a y).length ≤ 2 := by
  unfold linksOf
  split <;> split <;> simp
theorem linksTo_len (xs : List ArcR) (fl : List Int) : ∀ k, (linksTo xs fl k).length ≤ 2 * k
  | 0 => by simp [linksTo]
  | k + 1 => by
    have := linksTo_len xs fl k
    have := linksOf_len k (xs.getD k default) (fl.getD k 0)
    rw [linksTo_succ, List.length_append]; omega
theorem linksOf_yy {i : Nat} {a : ArcR} {y : Int} (h1 : y < a.room) (h2 : 0 < y) : linksOf i a y = [⟨i, false, a.fr, a.to_, a.room - y, a.cost⟩] ++ [⟨i, true, a.to_, a.fr, y, -a.cost⟩] := by unfold linksOf; rw [if_pos h1, if_pos h2]
theorem linksOf_yn {i : Nat} {a : ArcR} {y : Int} (h1 : y < a.room) (h2 : ¬ 0 < y) : linksOf i a y = [⟨i, false, a.fr, a.to_, a.room - y, a.cost⟩] := by unfold linksOf; rw [if_pos h1, if_neg h2]; rfl
theorem linksOf_ny {i : Nat} {a : ArcR} {y : Int} (h1 : ¬ y < a.room) (h2 : 0 < y) : linksOf i a y = [⟨i, true, a.to_, a.fr, y, -a.cost⟩] := by unfold linksOf; rw [if_neg h1, if_pos h2]; rfl
theorem linksOf_nn {i : Nat} {a : ArcR} {y : Int} (h1 : ¬ y < a.room) (h2 : ¬ 0 < y) : linksOf i a y = [] := by unfold linksOf; rw [if_neg h1, if_neg h2]; rfl

/-- cells of one new block, as the source of an append -/
theorem src_one {w : World} {T : Nat} {cs : Array Value} (m : Nat) (hm : 0 < m) : 0 < m → ∃ bd, some (⟨w.heap.size, 0, none⟩ : Addr) = some bd ∧ ∀ j u, cs.toList[j]? = some u → (w.alloc (.cells cs T)).cell? (bd.add j) = some u := by
  intro _
  refine ⟨_, rfl, fun j u hj => ?_⟩
  have := (Blk.new w T cs).cell j
  have e : (⟨w.heap.size, 0, none⟩ : Addr).add j = ⟨w.heap.size, j, none⟩ := by
    unfold Addr.add
    split
    · rename_i h; rw [h]
    · simp
  rw [e, this, ← Array.getElem?_toList, hj]

theorem keepFar {w w' : World} {row : Option Nat} {a : Addr} {v : Value} (hg : w.grownBy w' row) (h : w.cell? a = some v) (hne : some a.block ≠ row) : w'.cell? a = some v :=
  (hg.cell_far a (World.block_lt_of_cell? w _ h) hne).trans h
theorem ne_own {A : Option Addr} {n c b : Nat} (h : ∀ ad, A = some ad → ad.block ≠ b) : some b ≠ (Value.slice A n c).ownBlock := by
  cases A with
  | none => intro h2; cases h2
  | some ad => intro h2; injection h2 with h2; exact h ad rfl h2.symm
theorem below_grown {B base T size n c : Nat} {a w w' : World} {A : Option Addr} {vs : List Value} (hb : Below B a w) (hB : B ≤ w.heap.size) (hg : w.grownBy w' (Value.slice A n c).ownBlock) (ho : OwnC T base size w A n c vs) (hbase : B ≤ base) : Below B a w' := by
  refine below_blkC hb hB ((Upd.refl _ _).grown hg ?_) ho hbase
  intro k hk
  cases A with
  | none => cases hk
  | some ad => injection hk with hk; exact .inl ⟨ad, rfl, hk⟩

theorem infoLk : (Try.prog.info? 103).map (fun i => (i.zero, i.size, i.bytes)) = some (some (.agg #[.int .i64 0, .int .i64 0, .int .i64 0, .int .i64 0, .int .i64 0, .int .i64 0]), 6, 48) := by kernel_rfl
set_option maxRecDepth 100000 in
set_option maxHeartbeats 3200000 in
theorem netLinks_any (nodes : Int) (A : Option Addr) (n c : Nat) (xs : List ArcR) (B : Option Addr) (d : Nat) (fl : List Int) (w : World) (h : ArcsAt w A n xs) (hn : n ≤ 48) (hy : IntsAt w B n fl)
    (hf : ∀ k, k < n → (0 ≤ fl.getD k 0 ∧ fl.getD k 0 ≤ 1000000) ∧ (0 ≤ (xs.getD k default).room ∧ (xs.getD k default).room ≤ 1000000) ∧ (-1000 ≤ (xs.getD k default).cost ∧ (xs.getD k default).cost ≤ 1000)) :
    Calls Try.prog 48 #[.agg #[.int .i64 nodes, .slice A n c], .slice B n d] w fun e w' => ∃ (L : Option Addr) (m q : Nat), e = .returned (.slice L m q) ∧ m = (linksTo xs fl n).length ∧ OwnC 103 w.heap.size 6 w' L m q (flatV LinkR.cells (linksTo xs fl n)) ∧ Below w.heap.size w w' := by
  have HF := Lib.hid hf
  obtain ⟨i0, hi0, hz0, hz1, hz2⟩ := info_parts infoLk
  have hW : Below w.heap.size w (w.alloc (.cells #[.int .i64 nodes, .slice A n c] 26)) := (Below.refl _ _).alloc (Nat.le_refl _) _
  have h3 := h.alloc (.cells #[.int .i64 nodes, .slice A n c] 26)
  have hy3 := hy.alloc (.cells #[.int .i64 nodes, .slice A n c] 26)
  clear hf h hy
  go_enter Try.func48, Try.ntmps48
  go_wp2_with fail
  generalize w.alloc (.cells #[.int .i64 nodes, .slice A n c] 26) = W at *
  go_loopg [5, 11] n (fun r ov i wr => ∃ (k : Nat) (L : Option Addr) (m q : Nat), r = n - k ∧ k ≤ n ∧ i = .int .i64 k ∧ ov = .slice L m q ∧ m ≤ 2 * k ∧ Hid (m = (linksTo xs fl k).length) ∧ OwnC 103 W.heap.size 6 wr L m q (flatV LinkR.cells (linksTo xs fl k)) ∧ Below W.heap.size W wr)
  case atStart => exact ⟨0, none, 0, 0, by omega, by omega, rfl, rfl, by omega, Lib.hid rfl, OwnC.nil_ _ _ _ _, Below.refl _ _⟩
  case round =>
    obtain ⟨k, L, m, q, hr, hk, rfl, rfl, hm2, hm, hown, hd⟩ := hrel
    have HR := Lib.hid hr
    clear hr
    by_cases hlt : k < n
    · obtain ⟨ad, rfl, had, c0, c1, c2, c3⟩ := (h3.below hd).at_ hlt
      obtain ⟨⟨y0, y1⟩, ⟨r0, r1⟩, ⟨q0, q1⟩⟩ := HF.out k hlt
      have HS := Lib.hid (linksTo_succ xs fl k)
      have hyc := fun (w4 : World) (hh : Below W.heap.size W w4) => (hy3.below hh).at_ hlt
      generalize xs.getD k default = x at *
      generalize fl.getD k 0 = y at *
      obtain ⟨f, t, r, q'⟩ := x
      obtain ⟨bd, rfl, hbdlt, _⟩ := hy3.at_ hlt
      have HYC := Lib.hid (fun (w4 : World) (hh : Below W.heap.size W w4) => show w4.cell? (bd.add k) = some (.int .i64 y) by
        obtain ⟨bd', e, _, hc⟩ := hyc w4 hh
        injection e with e
        subst e
        exact hc)
      clear hyc
      have ka := Blk.new wr 80 #[.int .i64 f, .int .i64 t, .int .i64 r, .int .i64 q']
      have o1 := OwnC.alloc hown (.cells #[.int .i64 f, .int .i64 t, .int .i64 r, .int .i64 q'] 80)
      have hd2 := hd.alloc hd.size (.cells #[.int .i64 f, .int .i64 t, .int .i64 r, .int .i64 q'] 80)
      have hyc := HYC.out _ hd2
      have hgl := wr.heap.size
      have KA := Lib.hid ka
      have e0 := ka.cell 0
      have e1 := ka.cell 1
      have e2 := ka.cell 2
      have e3 := ka.cell 3
      have hsz := ka.lt
      have r0' : 0 ≤ r := r0
      have r1' : r ≤ 1000000 := r1
      have q0' : -1000 ≤ q' := q0
      have q1' : q' ≤ 1000 := q1
      have HAO : ∀ ad, L = some ad → ad.block < wr.heap.size := fun ad ha => (OwnC.lt hown ha).2
      have HAO := Lib.hid HAO
      have HLO := Lib.hid (fun ad (ha : L = some ad) => (OwnC.lt hown ha).1)
      clear ka hd r0 r1 q0 q1 hown hgl
      have HBO := Lib.hid (fun ad (ha : L = some ad) => show ad.block ≠ bd.block by have := HLO.out ad ha; omega)
      by_cases hy1 : y < r
      · by_cases hy2 : 0 < y
        · have HL := Lib.hid (show linksTo xs fl (k + 1) = linksTo xs fl k ++ [⟨k, false, f, t, r - y, q'⟩] ++ [⟨k, true, t, f, y, -q'⟩] by rw [HS.out, linksOf_yy (a := ⟨f, t, r, q'⟩) hy1 hy2, List.append_assoc])
          go_wp2_with fail
          generalize wr.alloc (.cells #[.int .i64 f, .int .i64 t, .int .i64 r, .int .i64 q'] 80) = W1 at *
          go_quiet (fail)
          have hsz2 : wr.heap.size < (W1.drewN nq).heap.size := hsz
          have o2 := OwnC.drewN o1 nq
          have hd3 := below_drewN hd2 nq
          have y2 : (W1.drewN nq).cell? (bd.add k) = some (.int .i64 y) := hyc
          have f0 : (W1.drewN nq).cell? ⟨wr.heap.size, 0, none⟩ = some (.int .i64 f) := e0
          have f1 : (W1.drewN nq).cell? ⟨wr.heap.size, 1, none⟩ = some (.int .i64 t) := e1
          have f2 : (W1.drewN nq).cell? ⟨wr.heap.size, 2, none⟩ = some (.int .i64 r) := e2
          have f3 : (W1.drewN nq).cell? ⟨wr.heap.size, 3, none⟩ = some (.int .i64 q') := e3
          have v1 : IntKind.i64.wrap (r - y) = r - y := IntWalk.i64_in _ (by omega)
          have v2 : IntKind.i64.wrap (-q') = -q' := IntWalk.i64_in _ (by omega)
          have hbs := hd3.size
          have nA : some wr.heap.size ≠ (Value.slice L m q).ownBlock := ne_own fun ad ha => by have := HAO.out ad ha; omega
          have nB : some (bd.add k).block ≠ (Value.slice L m q).ownBlock := ne_own fun ad ha => by have := HBO.out ad ha; rw [block_add]; omega
          clear o1 hd2 hyc e0 e1 e2 e3 hsz
          go_wp2_with fail
          generalize W1.drewN nq = W2 at *
          go_region_held3 (fun w' => w'.cell? ⟨wr.heap.size, 0, none⟩ = some (.int .i64 f) ∧ w'.cell? ⟨wr.heap.size, 1, none⟩ = some (.int .i64 t) ∧ w'.cell? ⟨wr.heap.size, 2, none⟩ = some (.int .i64 r) ∧ w'.cell? ⟨wr.heap.size, 3, none⟩ = some (.int .i64 q') ∧ w'.cell? (bd.add k) = some (.int .i64 y))
            (first
              | go_keep
              | (go_split_ands
                 refine ⟨keepFar hgrow (by assumption) nA, keepFar hgrow (by assumption) nA, keepFar hgrow (by assumption) nA, keepFar hgrow (by assumption) nA, keepFar hgrow (by assumption) nB⟩))
            ((refine step_append_lies _ (by rfl) _ _ _ (by rfl) W.heap.size 103 i0 _ 6 48 Try.underlying69 hi0 hz0 hz1 hz2 rfl (by omega) (.slice L m q) (m) (flatV LinkR.cells (linksTo xs fl k)) (by rfl) ((World.ownsRow.alloc o2 _).drew) ⟨W2.heap.size, 0, none⟩ 1 1 (LinkR.cells ⟨k, false, f, t, r - y, q'⟩) (by rfl) (by rfl) (World.news_of_block (cs := #[.int .i64 k, .int .i64 1, .int .i64 f, .int .i64 t, .int .i64 (r - y), .int .i64 q']) (t := 103) (fr := (0, 0)) (heap_alloc_new W2 _)) (by simp [LinkR.cells, Value.oneCell']) (by omega) (by unfold maxLen; omega) (by omega) (by simp; omega) (W2.heap.size + 1) (by simp) ?_; intro gg5 cap5 w5 hown5 hgrow hat5 hlt5))
          have o5 : OwnC 103 W.heap.size 6 w5 (some ⟨gg5, 0, none⟩) (m + 1) cap5 (flatV LinkR.cells (linksTo xs fl k ++ [⟨k, false, f, t, r - y, q'⟩])) := by
            have h := hown5
            rw [show LinkR.cells ⟨k, false, f, t, r - y, q'⟩ = flatV LinkR.cells [⟨k, false, f, t, r - y, q'⟩] from (flatV_one _ _).symm, flatV_append] at h
            exact h
          have hd5 := below_grown ((hd3.alloc hbs (.cells #[.int .i64 k, .int .i64 1, .int .i64 f, .int .i64 t, .int .i64 (r - y), .int .i64 q'] 103)).drew) (by simp; omega) hgrow (OwnC.drew (OwnC.alloc o2 _)) (Nat.le_refl _)
          go_split_ands
          clear f0 f1 f2 f3 y2
          have hbs2 := hd5.size
          have hge : W.heap.size ≤ gg5 := (OwnC.lt o5 rfl).1
          have hgr : gg5 ≠ wr.heap.size := by
            rcases hat5 with h5 | h5
            · intro e5
              exact nA (by rw [← e5]; exact h5.symm)
            · have : wr.heap.size < W2.heap.size := hsz2
              omega
          have nA2 : some wr.heap.size ≠ (Value.slice (some ⟨gg5, 0, none⟩) (m + 1) cap5).ownBlock := ne_own fun ad ha => by injection ha with ha; subst ha; exact hgr
          have nB2 : some (bd.add k).block ≠ (Value.slice (some ⟨gg5, 0, none⟩) (m + 1) cap5).ownBlock := ne_own fun ad ha => by injection ha with ha; subst ha; rw [block_add]; show gg5 ≠ bd.block; omega
          clear nA nB hat5 hgrow hown5
          go_wp2_with fail
          clear hbs
          have hbs := hbs2
          go_region_held3 (fun w' => w'.cell? ⟨wr.heap.size, 0, none⟩ = some (.int .i64 f) ∧ w'.cell? ⟨wr.heap.size, 1, none⟩ = some (.int .i64 t) ∧ w'.cell? ⟨wr.heap.size, 2, none⟩ = some (.int .i64 r) ∧ w'.cell? ⟨wr.heap.size, 3, none⟩ = some (.int .i64 q') ∧ w'.cell? (bd.add k) = some (.int .i64 y))
            (first
              | go_keep
              | (go_split_ands
                 refine ⟨keepFar hgrow (by assumption) nA2, keepFar hgrow (by assumption) nA2, keepFar hgrow (by assumption) nA2, keepFar hgrow (by assumption) nA2, keepFar hgrow (by assumption) nB2⟩))
            ((refine step_append_lies _ (by rfl) _ _ _ (by rfl) W.heap.size 103 i0 _ 6 48 Try.underlying69 hi0 hz0 hz1 hz2 rfl (by omega) (.slice (some ⟨gg5, 0, none⟩) (m + 1) cap5) (m + 1) (flatV LinkR.cells (linksTo xs fl k ++ [⟨k, false, f, t, r - y, q'⟩])) (by rfl) ((World.ownsRow.alloc o5 _).drew) ⟨w5.heap.size, 0, none⟩ 1 1 (LinkR.cells ⟨k, true, t, f, y, -q'⟩) (by rfl) (by rfl) (World.news_of_block (cs := #[.int .i64 k, .int .i64 (-1), .int .i64 t, .int .i64 f, .int .i64 y, .int .i64 (-q')]) (t := 103) (fr := (0, 0)) (heap_alloc_new w5 _)) (by simp [LinkR.cells, Value.oneCell']) (by omega) (by unfold maxLen; omega) (by omega) (by simp; omega) (w5.heap.size + 1) (by simp) ?_; intro gg6 cap6 w6 hown6 hgrow hat6 hlt6))
          have o6 : OwnC 103 W.heap.size 6 w6 (some ⟨gg6, 0, none⟩) (m + 1 + 1) cap6 (flatV LinkR.cells (linksTo xs fl k ++ [⟨k, false, f, t, r - y, q'⟩] ++ [⟨k, true, t, f, y, -q'⟩])) := by
            have h := hown6
            rw [show LinkR.cells ⟨k, true, t, f, y, -q'⟩ = flatV LinkR.cells [⟨k, true, t, f, y, -q'⟩] from (flatV_one _ _).symm, flatV_append] at h
            exact h
          have hd6 := below_grown ((hd5.alloc hbs (.cells #[.int .i64 k, .int .i64 (-1), .int .i64 t, .int .i64 f, .int .i64 y, .int .i64 (-q')] 103)).drew) (by simp; omega) hgrow (OwnC.drew (OwnC.alloc o5 _)) (Nat.le_refl _)
          go_split_ands
          go_wp2_with fail
          go_roundg (n - (k + 1))
          case measure => rw [HR.out]; omega
          case rel => exact ⟨k + 1, _, _, _, rfl, by omega, by go_num, rfl, by omega, Lib.hid (by rw [HL.out, hm.out]; simp), by rw [HL.out]; exact o6, hd6⟩
        · have HL := Lib.hid (show linksTo xs fl (k + 1) = linksTo xs fl k ++ [⟨k, false, f, t, r - y, q'⟩] by rw [HS.out, linksOf_yn (a := ⟨f, t, r, q'⟩) hy1 hy2])
          go_wp2_with fail
          generalize wr.alloc (.cells #[.int .i64 f, .int .i64 t, .int .i64 r, .int .i64 q'] 80) = W1 at *
          go_quiet (fail)
          have hsz2 : wr.heap.size < (W1.drewN nq).heap.size := hsz
          have o2 := OwnC.drewN o1 nq
          have hd3 := below_drewN hd2 nq
          have y2 : (W1.drewN nq).cell? (bd.add k) = some (.int .i64 y) := hyc
          have f0 : (W1.drewN nq).cell? ⟨wr.heap.size, 0, none⟩ = some (.int .i64 f) := e0
          have f1 : (W1.drewN nq).cell? ⟨wr.heap.size, 1, none⟩ = some (.int .i64 t) := e1
          have f2 : (W1.drewN nq).cell? ⟨wr.heap.size, 2, none⟩ = some (.int .i64 r) := e2
          have f3 : (W1.drewN nq).cell? ⟨wr.heap.size, 3, none⟩ = some (.int .i64 q') := e3
          have v1 : IntKind.i64.wrap (r - y) = r - y := IntWalk.i64_in _ (by omega)
          have v2 : IntKind.i64.wrap (-q') = -q' := IntWalk.i64_in _ (by omega)
          have hbs := hd3.size
          have nA : some wr.heap.size ≠ (Value.slice L m q).ownBlock := ne_own fun ad ha => by have := HAO.out ad ha; omega
          have nB : some (bd.add k).block ≠ (Value.slice L m q).ownBlock := ne_own fun ad ha => by have := HBO.out ad ha; rw [block_add]; omega
          clear o1 hd2 hyc e0 e1 e2 e3 hsz
          go_wp2_with fail
          generalize W1.drewN nq = W2 at *
          go_region_held3 (fun w' => w'.cell? ⟨wr.heap.size, 0, none⟩ = some (.int .i64 f) ∧ w'.cell? ⟨wr.heap.size, 1, none⟩ = some (.int .i64 t) ∧ w'.cell? ⟨wr.heap.size, 2, none⟩ = some (.int .i64 r) ∧ w'.cell? ⟨wr.heap.size, 3, none⟩ = some (.int .i64 q') ∧ w'.cell? (bd.add k) = some (.int .i64 y))
            (first
              | go_keep
              | (go_split_ands
                 refine ⟨keepFar hgrow (by assumption) nA, keepFar hgrow (by assumption) nA, keepFar hgrow (by assumption) nA, keepFar hgrow (by assumption) nA, keepFar hgrow (by assumption) nB⟩))
            ((refine step_append_lies _ (by rfl) _ _ _ (by rfl) W.heap.size 103 i0 _ 6 48 Try.underlying69 hi0 hz0 hz1 hz2 rfl (by omega) (.slice L m q) (m) (flatV LinkR.cells (linksTo xs fl k)) (by rfl) ((World.ownsRow.alloc o2 _).drew) ⟨W2.heap.size, 0, none⟩ 1 1 (LinkR.cells ⟨k, false, f, t, r - y, q'⟩) (by rfl) (by rfl) (World.news_of_block (cs := #[.int .i64 k, .int .i64 1, .int .i64 f, .int .i64 t, .int .i64 (r - y), .int .i64 q']) (t := 103) (fr := (0, 0)) (heap_alloc_new W2 _)) (by simp [LinkR.cells, Value.oneCell']) (by omega) (by unfold maxLen; omega) (by omega) (by simp; omega) (W2.heap.size + 1) (by simp) ?_; intro gg5 cap5 w5 hown5 hgrow hat5 hlt5))
          have o5 : OwnC 103 W.heap.size 6 w5 (some ⟨gg5, 0, none⟩) (m + 1) cap5 (flatV LinkR.cells (linksTo xs fl k ++ [⟨k, false, f, t, r - y, q'⟩])) := by
            have h := hown5
            rw [show LinkR.cells ⟨k, false, f, t, r - y, q'⟩ = flatV LinkR.cells [⟨k, false, f, t, r - y, q'⟩] from (flatV_one _ _).symm, flatV_append] at h
            exact h
          have hd5 := below_grown ((hd3.alloc hbs (.cells #[.int .i64 k, .int .i64 1, .int .i64 f, .int .i64 t, .int .i64 (r - y), .int .i64 q'] 103)).drew) (by simp; omega) hgrow (OwnC.drew (OwnC.alloc o2 _)) (Nat.le_refl _)
          go_split_ands
          clear f0 f1 f2 f3 y2 hgrow hown5
          go_wp2_with fail
          go_roundg (n - (k + 1))
          case measure => rw [HR.out]; omega
          case rel => exact ⟨k + 1, _, _, _, rfl, by omega, by go_num, rfl, by omega, Lib.hid (by rw [HL.out, hm.out]; simp), by rw [HL.out]; exact o5, hd5⟩
      · by_cases hy2 : 0 < y
        · have HL := Lib.hid (show linksTo xs fl (k + 1) = linksTo xs fl k ++ [⟨k, true, t, f, y, -q'⟩] by rw [HS.out, linksOf_ny (a := ⟨f, t, r, q'⟩) hy1 hy2])
          go_wp2_with fail
          generalize wr.alloc (.cells #[.int .i64 f, .int .i64 t, .int .i64 r, .int .i64 q'] 80) = W1 at *
          go_quiet (fail)
          have hsz2 : wr.heap.size < (W1.drewN nq).heap.size := hsz
          have o2 := OwnC.drewN o1 nq
          have hd3 := below_drewN hd2 nq
          have y2 : (W1.drewN nq).cell? (bd.add k) = some (.int .i64 y) := hyc
          have f0 : (W1.drewN nq).cell? ⟨wr.heap.size, 0, none⟩ = some (.int .i64 f) := e0
          have f1 : (W1.drewN nq).cell? ⟨wr.heap.size, 1, none⟩ = some (.int .i64 t) := e1
          have f2 : (W1.drewN nq).cell? ⟨wr.heap.size, 2, none⟩ = some (.int .i64 r) := e2
          have f3 : (W1.drewN nq).cell? ⟨wr.heap.size, 3, none⟩ = some (.int .i64 q') := e3
          have v1 : IntKind.i64.wrap (r - y) = r - y := IntWalk.i64_in _ (by omega)
          have v2 : IntKind.i64.wrap (-q') = -q' := IntWalk.i64_in _ (by omega)
          have hbs := hd3.size
          have nA : some wr.heap.size ≠ (Value.slice L m q).ownBlock := ne_own fun ad ha => by have := HAO.out ad ha; omega
          have nB : some (bd.add k).block ≠ (Value.slice L m q).ownBlock := ne_own fun ad ha => by have := HBO.out ad ha; rw [block_add]; omega
          clear o1 hd2 hyc e0 e1 e2 e3 hsz
          go_wp2_with fail
          generalize W1.drewN nq = W2 at *
          go_region_held3 (fun w' => w'.cell? ⟨wr.heap.size, 0, none⟩ = some (.int .i64 f) ∧ w'.cell? ⟨wr.heap.size, 1, none⟩ = some (.int .i64 t) ∧ w'.cell? ⟨wr.heap.size, 2, none⟩ = some (.int .i64 r) ∧ w'.cell? ⟨wr.heap.size, 3, none⟩ = some (.int .i64 q') ∧ w'.cell? (bd.add k) = some (.int .i64 y))
            (first
              | go_keep
              | (go_split_ands
                 refine ⟨keepFar hgrow (by assumption) nA, keepFar hgrow (by assumption) nA, keepFar hgrow (by assumption) nA, keepFar hgrow (by assumption) nA, keepFar hgrow (by assumption) nB⟩))
            ((refine step_append_lies _ (by rfl) _ _ _ (by rfl) W.heap.size 103 i0 _ 6 48 Try.underlying69 hi0 hz0 hz1 hz2 rfl (by omega) (.slice L m q) (m) (flatV LinkR.cells (linksTo xs fl k)) (by rfl) ((World.ownsRow.alloc o2 _).drew) ⟨W2.heap.size, 0, none⟩ 1 1 (LinkR.cells ⟨k, true, t, f, y, -q'⟩) (by rfl) (by rfl) (World.news_of_block (cs := #[.int .i64 k, .int .i64 (-1), .int .i64 t, .int .i64 f, .int .i64 y, .int .i64 (-q')]) (t := 103) (fr := (0, 0)) (heap_alloc_new W2 _)) (by simp [LinkR.cells, Value.oneCell']) (by omega) (by unfold maxLen; omega) (by omega) (by simp; omega) (W2.heap.size + 1) (by simp) ?_; intro gg5 cap5 w5 hown5 hgrow hat5 hlt5))
          have o5 : OwnC 103 W.heap.size 6 w5 (some ⟨gg5, 0, none⟩) (m + 1) cap5 (flatV LinkR.cells (linksTo xs fl k ++ [⟨k, true, t, f, y, -q'⟩])) := by
            have h := hown5
            rw [show LinkR.cells ⟨k, true, t, f, y, -q'⟩ = flatV LinkR.cells [⟨k, true, t, f, y, -q'⟩] from (flatV_one _ _).symm, flatV_append] at h
            exact h
          have hd5 := below_grown ((hd3.alloc hbs (.cells #[.int .i64 k, .int .i64 (-1), .int .i64 t, .int .i64 f, .int .i64 y, .int .i64 (-q')] 103)).drew) (by simp; omega) hgrow (OwnC.drew (OwnC.alloc o2 _)) (Nat.le_refl _)
          go_split_ands
          clear f0 f1 f2 f3 y2 hgrow hown5
          go_wp2_with fail
          go_roundg (n - (k + 1))
          case measure => rw [HR.out]; omega
          case rel => exact ⟨k + 1, _, _, _, rfl, by omega, by go_num, rfl, by omega, Lib.hid (by rw [HL.out, hm.out]; simp), by rw [HL.out]; exact o5, hd5⟩
        · have HL := Lib.hid (show linksTo xs fl (k + 1) = linksTo xs fl k by rw [HS.out, linksOf_nn (a := ⟨f, t, r, q'⟩) hy1 hy2, List.append_nil])
          go_wp2_with fail
          generalize wr.alloc (.cells #[.int .i64 f, .int .i64 t, .int .i64 r, .int .i64 q'] 80) = W1 at *
          go_quiet (fail)
          go_wp2_with fail
          go_roundg (n - (k + 1))
          case measure => rw [HR.out]; omega
          case rel => exact ⟨k + 1, _, _, _, rfl, by omega, by go_num, rfl, by omega, Lib.hid (by rw [HL.out, hm.out]), by rw [HL.out]; exact OwnC.drewN o1 _, below_drewN hd2 _⟩
    · have e : k = n := by omega
      subst e
      go_wp2_with fail
      go_ret
      exact ⟨L, m, q, rfl, hm.out, OwnC.low hown hW.size, below_ext hW hW.size hd⟩
end Go.Proofs.Ytnljfhmdjhppmaa
