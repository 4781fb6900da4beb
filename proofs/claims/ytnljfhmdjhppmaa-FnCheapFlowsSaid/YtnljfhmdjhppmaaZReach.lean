/- Which nodes are reached: the walk of the program. -/
import Derived.Test.YtnljfhmdjhppmaaJ3
import Derived.Test.YtnljfhmdjhppmaaZLefts
import Derived.RegionTactic
namespace Go.Proofs.Ytnljfhmdjhppmaa
open Go.RowKit

def zero6 : List Value := [.int .i64 0, .int .i64 0, .int .i64 0, .int .i64 0, .int .i64 0, .int .i64 0]
/-- the last link of a node -/
def lastC (ls : List LinkR) (b : Int) : List Value := if b < 0 then zero6 else LinkR.cells (ls.getD b.toNat default)
theorem lastC_len (ls : List LinkR) (b : Int) : (lastC ls b).length = 6 := by unfold lastC; split <;> rfl
def reachV (b : Int) : Value := .bool (b != -2)
theorem flatV_set6 {α : Type} (f : α → List Value) : ∀ (xs : List α) (k : Nat) (a : α) (c0 c1 c2 c3 c4 c5 : Value), (∀ a, (f a).length = 6) → f a = [c0, c1, c2, c3, c4, c5] → k < xs.length →
    ((((((flatV f xs).set (k * 6) c0).set (k * 6 + 1) c1).set (k * 6 + 2) c2).set (k * 6 + 3) c3).set (k * 6 + 4) c4).set (k * 6 + 5) c5 = flatV f (xs.set k a)
  | [], k, a, _, _, _, _, _, _, _, _, h => by simp at h
  | x :: xs, 0, a, c0, c1, c2, c3, c4, c5, hf, ha, _ => by
    have hx := hf x
    match hm : f x, hx with
    | [y0, y1, y2, y3, y4, y5], _ => simp [flatV, hm, ha]
  | x :: xs, k + 1, a, c0, c1, c2, c3, c4, c5, hf, ha, h => by
    have ih := flatV_set6 f xs k a c0 c1 c2 c3 c4 c5 hf ha (by simpa using h)
    have hx := hf x
    match hm : f x, hx with
    | [y0, y1, y2, y3, y4, y5], _ =>
      simp only [flatV, List.flatMap_cons, hm, List.cons_append, List.nil_append, List.set_cons_succ] at ih ⊢
      rw [← ih]
      rw [show (k + 1) * 6 = k * 6 + 1 + 1 + 1 + 1 + 1 + 1 from by omega]
      simp only [List.set_cons_succ]
theorem ints_getD {T base : Nat} {w : World} {ad : Addr} {n c : Nat} {zs : List Int} {x : Int} (h : OwnI T base w (some ad) n c zs) (i : Nat) (hi : i < n) (hx : w.cell? (ad.add i) = some (.int .i64 x)) : zs.getD i 0 = x := by
  have := (ints_cell h.ints hi).symm.trans hx
  injection this with this
  injection this
/-- the cells of the j-th link of a slice of links -/
theorem link_cells {T base g m q : Nat} {w : World} {ls : List LinkR} (h : OwnC T base 6 w (some ⟨g, 0, none⟩) m q (flatV LinkR.cells ls)) {j : Nat} (hj : j < m) :
    w.cell? ⟨g, j * 6, none⟩ = some (.int .i64 (ls.getD j default).arc) ∧ w.cell? ⟨g, j * 6 + 1, none⟩ = some (.int .i64 (ls.getD j default).by_) ∧ w.cell? ⟨g, j * 6 + 2, none⟩ = some (.int .i64 (ls.getD j default).fr) ∧
    w.cell? ⟨g, j * 6 + 3, none⟩ = some (.int .i64 (ls.getD j default).to_) ∧ w.cell? ⟨g, j * 6 + 4, none⟩ = some (.int .i64 (ls.getD j default).room) ∧ w.cell? ⟨g, j * 6 + 5, none⟩ = some (.int .i64 (ls.getD j default).cost) := by
  have hl : ls.length = m := by
    have := OwnC.len h
    rw [flatV_len LinkR.cells 6 (fun _ => rfl)] at this
    omega
  have key : ∀ i, i < 6 → w.cell? ⟨g, j * 6 + i, none⟩ = (ls.getD j default).cells[i]? := fun i hi => by
    rw [OwnC.cell h (by omega), flatV_get LinkR.cells 6 (fun _ => rfl) default ls j i (by omega) hi]
  exact ⟨key 0 (by omega), key 1 (by omega), key 2 (by omega), key 3 (by omega), key 4 (by omega), key 5 (by omega)⟩

theorem bools_rep (N : Nat) : (madeCells (Value.bool false).cells (N * 1)).toList = List.replicate N (.bool false) := by
  show (madeCells #[Value.bool false] (N * 1)).toList = _
  rw [toList_madeCells_one]; simp
theorem reachV_get {by_ : List Int} {v N : Nat} (hl : by_.length = N) (h : v < N) : (by_.map reachV)[v]? = some (.bool (by_.getD v 0 != -2)) := by
  rw [List.getElem?_map, List.getElem?_eq_getElem (by omega)]
  simp [reachV, List.getD, List.getElem?_eq_getElem (show v < by_.length by omega)]
theorem reachV_set {by_ : List Int} {v k : Nat} : (by_.map reachV).set v (.bool true) = (by_.set v (k : Int)).map reachV := by
  rw [List.map_set]
  congr 1
theorem zero6_rep (N : Nat) : (madeCells (Value.agg #[.int .i64 0, .int .i64 0, .int .i64 0, .int .i64 0, .int .i64 0, .int .i64 0]).cells (N * 6)).toList = flatV (fun _ => zero6) (List.replicate N (0 : Int)) := by
  apply List.ext_getElem?
  intro j
  by_cases hj : j < N * 6
  · have hk : j / 6 < N := by omega
    have := flatV_get (fun _ => zero6) 6 (fun _ => rfl) (0 : Int) (List.replicate N 0) (j / 6) (j % 6) (by simpa using hk) (by omega)
    rw [show j / 6 * 6 + j % 6 = j from by omega] at this
    rw [this]
    rw [Array.getElem?_toList]
    simp only [madeCells, Value.cells, Array.getElem?_map, Array.getElem?_range]
    rw [if_pos hj]
    have : j % 6 = 0 ∨ j % 6 = 1 ∨ j % 6 = 2 ∨ j % 6 = 3 ∨ j % 6 = 4 ∨ j % 6 = 5 := by omega
    rcases this with h | h | h | h | h | h <;> simp [h, zero6]
  · rw [List.getElem?_eq_none (by simp [size_madeCells]; omega), List.getElem?_eq_none (by rw [flatV_len _ 6 (fun _ => rfl)]; simp; omega)]
theorem flatV_congr {α β : Type} {f : α → List Value} {g : β → List Value} {xs : List α} {ys : List β} (h : xs.map f = ys.map g) : flatV f xs = flatV g ys := by
  unfold flatV; rw [List.flatMap_def, List.flatMap_def, h]
theorem last_start (ls : List LinkR) (N f : Nat) (hf : f < N) : flatV (fun _ => zero6) (List.replicate N (0 : Int)) = flatV (lastC ls) (bfsTo ls N f 0).1 := by
  apply flatV_congr
  apply List.ext_getElem (by simp [bfsTo])
  intro j h1 h2
  simp only [bfsTo, List.getElem_map, List.getElem_replicate, List.getElem_set]
  split <;> simp [lastC]
theorem reach_start (ls : List LinkR) (N f : Nat) (hf : f < N) : (List.replicate N (Value.bool false)).set f (.bool true) = (bfsTo ls N f 0).1.map reachV := by
  apply List.ext_getElem (by simp [bfsTo])
  intro j h1 h2
  simp only [bfsTo, List.getElem_map, List.getElem_replicate, List.getElem_set]
  split <;> simp [reachV]

theorem last_cell {T base g N v : Nat} {w : World} {ls : List LinkR} {by_ : List Int} (h : OwnC T base 6 w (some ⟨g, 0, none⟩) N N (flatV (lastC ls) by_)) (hl : by_.length = N) (hv : v < N) (i : Nat) (hi : i < 6) :
    w.cell? ⟨g, v * 6 + i, none⟩ = some ((lastC ls (by_.getD v 0))[i]'(by rw [lastC_len]; exact hi)) := by
  rw [OwnC.cell h (by omega), flatV_get (lastC ls) 6 (lastC_len ls) 0 by_ v i (by omega) hi, List.getElem?_eq_getElem (by rw [lastC_len]; exact hi)]
theorem infoB1 : (Try.prog.info? 4).map (fun i => (i.zero, i.size, i.bytes)) = some (some (.bool false), 1, 1) := by kernel_rfl
set_option maxRecDepth 100000 in
set_option maxHeartbeats 3200000 in
theorem netReach_any (N : Nat) (V : Value) (L : Option Addr) (m q : Nat) (ls : List LinkR) (F : Nat) (base : Nat) (w : World) (hN1 : 1 ≤ N) (hN : N ≤ 16) (hF : F < N) (hls : LinksOk ls N) (hm : ls.length = m) (hm2 : m ≤ 96)
    (hown : OwnC 103 base 6 w L m q (flatV LinkR.cells ls)) :
    Calls Try.prog 76 #[.agg #[.int .i64 N, V], .slice L m q, .int .i64 F] w fun e w' => ∃ (g1 g2 : Nat), e = .returned (.tuple #[.slice (some ⟨g1, 0, none⟩) N N, .slice (some ⟨g2, 0, none⟩) N N]) ∧ OwnC 103 w.heap.size 6 w' (some ⟨g1, 0, none⟩) N N (flatV (lastC ls) (reachL ls N F)) ∧ OwnC 4 w.heap.size 1 w' (some ⟨g2, 0, none⟩) N N ((reachL ls N F).map reachV) ∧ g1 ≠ g2 ∧ Below w.heap.size w w' := by
  have HLS := Lib.hid hls
  have HM := Lib.hid hm
  obtain ⟨i0, hi0, hz0, hz1, hz2⟩ := info_parts infoLk
  obtain ⟨j0, hj0, hw0, hw1, hw2⟩ := info_parts infoB1
  have hmk1 := fun (w : World) => run_make (P := Try.prog) w 69 103 i0 _ Try.underlying69 hi0 hz0 .i64 .i64 (N : Int) (N : Int) (by omega) (Int.le_refl _) (by rw [hz2]; omega) (by omega)
  have hmk2 := fun (w : World) => run_make (P := Try.prog) w 68 4 j0 _ Try.underlying68 hj0 hw0 .i64 .i64 (N : Int) (N : Int) (by omega) (Int.le_refl _) (by rw [hw2]; omega) (by omega)
  simp only [Int.toNat_natCast, hz1, hw1] at hmk1 hmk2
  have hW : Below w.heap.size w (w.alloc (.cells #[.int .i64 N, V] 26)) := (Below.refl _ _).alloc (Nat.le_refl _) _
  have hB := Blk.new w 26 #[.int .i64 N, V]
  have hown2 := OwnC.alloc hown (.cells #[.int .i64 N, V] 26)
  have p0 := hB.cell 0
  have HB := Lib.hid hB
  clear hls hm hown hB
  go_enter Try.func76, Try.ntmps76
  go_wp2_with fail
  generalize w.alloc (.cells #[.int .i64 N, V] 26) = W at *
  have z1 := zero6_rep N
  have z2 := bools_rep N
  generalize madeCells (Value.agg #[.int .i64 0, .int .i64 0, .int .i64 0, .int .i64 0, .int .i64 0, .int .i64 0]).cells (N * 6) = M1 at *
  generalize madeCells (Value.bool false).cells (N * 1) = M2 at *
  have pa := (HB.out.alloc (.cells M1 103)).cell 0
  have pb := (HB.out.alloc (.cells M2 4)).cell 0
  go_cut [8, 9] (fun s8 s9 wx => ∃ (g1 g2 : Nat), s8 = .slice (some ⟨g1, 0, none⟩) N N ∧ s9 = .slice (some ⟨g2, 0, none⟩) N N ∧ OwnC 103 W.heap.size 6 wx (some ⟨g1, 0, none⟩) N N M1.toList ∧ OwnC 4 W.heap.size 1 wx (some ⟨g2, 0, none⟩) N N M2.toList ∧ g1 ≠ g2 ∧ Below W.heap.size W wx)
  case first =>
    go_region
    all_goals
      go_wp2_with fail
      go_meet
      have hx : M1.size = N * 6 := by have := congrArg List.length z1; rw [flatV_len _ 6 (fun _ => rfl)] at this; simpa using this
      have hy : M2.size = N * 1 := by have := congrArg List.length z2; simpa using this
      first
        | exact ⟨W.heap.size, W.heap.size + 1, rfl, rfl, OwnC.drew (OwnC.alloc (World.ownsRow_lit (e := 103) (base := W.heap.size) (size := 6) W M1 N (Nat.le_refl _) (by unfold maxLen; omega) hx) _), OwnC.drew (by have h := World.ownsRow_lit (e := 4) (base := W.heap.size) (size := 1) (W.alloc (.cells M1 103)) M2 N (by simp) (by unfold maxLen; omega) hy; rw [World.size_alloc] at h; exact h), by omega, (((Below.refl _ _).alloc (Nat.le_refl _) _).alloc (by simp) _).drew⟩
        | exact ⟨W.heap.size + 1, W.heap.size, rfl, rfl, OwnC.drew (by have h := World.ownsRow_lit (e := 103) (base := W.heap.size) (size := 6) (W.alloc (.cells M2 4)) M1 N (by simp) (by unfold maxLen; omega) hx; rw [World.size_alloc] at h; exact h), OwnC.drew (OwnC.alloc (World.ownsRow_lit (e := 4) (base := W.heap.size) (size := 1) W M2 N (Nat.le_refl _) (by unfold maxLen; omega) hy) _), by omega, (((Below.refl _ _).alloc (Nat.le_refl _) _).alloc (by simp) _).drew⟩
  case rest =>
    obtain ⟨g1, g2, rfl, rfl, ol, ob, hg12, hbW⟩ := hcut
    rw [z1, last_start ls N F hF] at ol
    rw [z2] at ob
    have hset := OwnC.set ob F (.bool true)
    have hfr := OwnC.free ob F
    have hcF := OwnC.cell ob (j := F) (by omega)
    rw [reach_start ls N F hF] at hset
    have hFN : (F : Int) < (N : Int) := by omega
    have hl1 := (OwnC.lt ol rfl).1
    have hb1 := (OwnC.lt ob rfl).1
    have ol2 := OwnC.far ol (p := ⟨g2, F, none⟩) (fun ad ha => by injection ha with ha; subst ha; exact hg12) (.bool true)
    have hbW2 := hbW.setCell (p := ⟨g2, F, none⟩) hb1 (.bool true)
    have hown3 := OwnC.below hown2 hbW2
    simp [hF] at hcF
    clear ol ob hbW pa pb p0 hmk1 hmk2
    go_wp2_with fail
    have h1 := (OwnC.lt ol2 rfl).2
    have h2 := (OwnC.lt hset rfl).2
    have he : OwnI 2 W.heap.size ((wc.setCell ⟨g2, F, none⟩ (.bool true)).alloc (.cells #[.int .i64 F] 2)) (some ⟨(wc.setCell ⟨g2, F, none⟩ (.bool true)).heap.size, 0, none⟩) 1 1 (bfsTo ls N F 0).2 := World.ownsRow_lit (e := 2) (base := W.heap.size) (size := 1) (wc.setCell ⟨g2, F, none⟩ (.bool true)) #[.int .i64 F] 1 hbW2.size (by simp [maxLen]) rfl
    have hb3 := hbW2.alloc hbW2.size (.cells #[.int .i64 F] 2)
    replace ol2 := OwnC.alloc ol2 (.cells #[.int .i64 F] 2)
    replace hset := OwnC.alloc hset (.cells #[.int .i64 F] 2)
    have hq0 : ∀ ad : Addr, some (⟨(wc.setCell ⟨g2, F, none⟩ (.bool true)).heap.size, 0, none⟩ : Addr) = some ad → ad.block ≠ g1 ∧ ad.block ≠ g2 := by
      intro ad ha
      injection ha with ha
      subst ha
      have h1' : g1 < (wc.setCell ⟨g2, F, none⟩ (.bool true)).heap.size := h1
      have h2' : g2 < (wc.setCell ⟨g2, F, none⟩ (.bool true)).heap.size := h2
      exact ⟨by show (wc.setCell ⟨g2, F, none⟩ (.bool true)).heap.size ≠ g1; omega, by show (wc.setCell ⟨g2, F, none⟩ (.bool true)).heap.size ≠ g2; omega⟩
    have hszw : (wc.setCell ⟨g2, F, none⟩ (.bool true)).heap.size = wc.heap.size := by simp
    rw [hszw] at he hq0
    generalize (wc.setCell ⟨g2, F, none⟩ (.bool true)).alloc (.cells #[.int .i64 F] 2) = w5 at *
    clear hfr hcF hbW2 hszw h1 h2 z1 z2 hown3
    go_loopg [10, 11] N (fun r qv iv wr => ∃ (i : Nat) (Q : Option Addr) (qn qc : Nat), r = N - i ∧ i ≤ qn ∧ qn ≤ N ∧ iv = .int .i64 i ∧ qv = .slice Q qn qc ∧ OwnI 2 W.heap.size wr Q qn qc (bfsTo ls N F i).2 ∧ OwnC 103 W.heap.size 6 wr (some ⟨g1, 0, none⟩) N N (flatV (lastC ls) (bfsTo ls N F i).1) ∧ OwnC 4 W.heap.size 1 wr (some ⟨g2, 0, none⟩) N N ((bfsTo ls N F i).1.map reachV) ∧ (∀ ad, Q = some ad → ad.block ≠ g1 ∧ ad.block ≠ g2) ∧ Below W.heap.size W wr)
    case atStart => exact ⟨0, _, 1, 1, rfl, by omega, by omega, rfl, rfl, he, ol2, hset, hq0, hb3⟩
    case round =>
      clear he ol2 hset hq0 hb3
      obtain ⟨i, Q, qn, qc, hr, hi, hqN, rfl, rfl, oq, ol, ob, hQ, hb⟩ := hrel
      have HR := Lib.hid hr
      clear hr
      have HQL := Lib.hid (OwnI.len oq)
      by_cases hlt : i < qn
      · have hok := bfs_ok HLS.out hF i
        have HST := Lib.hid (bfs_step (ls := ls) (N := N) (f := F) (i := i) (by rw [HQL.out]; exact hlt))
        generalize bfsTo ls N F i = st at *
        have hu := hok.qin i (by rw [HQL.out]; exact hlt)
        have HSC := Lib.hid (bfs_scan HLS.out hok (by rw [HQL.out]; exact hlt) _ rfl)
        generalize st.2.getD i 0 = u at *
        have HBL := Lib.hid (fun k (hk : k ≤ ls.length) => (HSC.out k hk).1)
        clear hok
        go_wp2_with fail
        obtain ⟨wo, rfl⟩ : ∃ wo : World, wo = wr := ⟨_, rfl⟩
        go_loopg [10, 33] m (fun r qv kv wi => ∃ (k : Nat) (Q : Option Addr) (qn qc : Nat), r = m - k ∧ k ≤ m ∧ i + 1 ≤ qn ∧ qn ≤ N ∧ kv = .int .i64 k ∧ qv = .slice Q qn qc ∧ OwnI 2 W.heap.size wi Q qn qc (scanTo ls u st k).2 ∧ OwnC 103 W.heap.size 6 wi (some ⟨g1, 0, none⟩) N N (flatV (lastC ls) (scanTo ls u st k).1) ∧ OwnC 4 W.heap.size 1 wi (some ⟨g2, 0, none⟩) N N ((scanTo ls u st k).1.map reachV) ∧ (∀ ad, Q = some ad → ad.block ≠ g1 ∧ ad.block ≠ g2) ∧ Below W.heap.size W wi)
        case atStart => exact ⟨0, Q, qn, qc, rfl, by omega, by omega, hqN, rfl, rfl, oq, ol, ob, hQ, hb⟩
        case round =>
          clear oq ol ob hQ hb hqN hlt hi HQL
          obtain ⟨k, Q, qn, qc, hr, hk, hi, hqN, rfl, rfl, oq, ol, ob, hQ, hb⟩ := hrel
          have HR2 := Lib.hid hr
          clear hr
          by_cases hlk : k < m
          · obtain ⟨hok, hi', hu'⟩ := HSC.out k (by rw [HM.out]; omega)
            have hlk2 := HLS.out k (by rw [HM.out]; exact hlk)
            have hown4 := OwnC.below hown2 hb
            obtain ⟨gL, rfl, _, hgLlt, _⟩ := OwnC.pos hown4 (by omega)
            obtain ⟨c0, c1, c2, c3, c4, c5⟩ := link_cells hown4 hlk
            have HY := Lib.hid (@scan_yes ls u st k)
            have HN1 := Lib.hid (@scan_no1 ls u st k)
            have HN2 := Lib.hid (@scan_no2 ls u st k)
            have HBLN := Lib.hid hok.len
            have HDL := Lib.hid (show ls.getD k default = ls.getD k default from rfl)
            generalize hl : ls.getD k default = l at *
            have HL := Lib.hid hl
            clear hl HDL
            obtain ⟨la, lb, lf, lt, lr, lc⟩ := l
            obtain ⟨⟨a0, a1⟩, ⟨b0, b1⟩⟩ := hlk2
            have b0' : 0 ≤ lt := b0
            have b1' : lt < N := b1
            obtain ⟨t, rfl⟩ := Int.eq_ofNat_of_zero_le b0'
            have htN : t < N := by omega
            have hcq := OwnI.ints oq
            obtain ⟨qd, rfl, _, hcu⟩ := hcq.at_ (k := i) (by omega)
            have hu2 : (scanTo ls u st k).2.getD i 0 = u := hu'
            rw [hu2] at hcu
            have hcb := OwnC.cell ob (j := t) (by omega)
            rw [reachV_get HBLN.out htN] at hcb
            clear hok hi' hu' hu2 hcq a0 a1 b0 b1 b0'
            have HBY := Lib.hid (show (⟨la, lb, lf, t, lr, lc⟩ : LinkR).by_ = (⟨la, lb, lf, t, lr, lc⟩ : LinkR).by_ from rfl)
            have HCL := Lib.hid (show LinkR.cells ⟨la, lb, lf, t, lr, lc⟩ = [.int .i64 la, .int .i64 (⟨la, lb, lf, t, lr, lc⟩ : LinkR).by_, .int .i64 lf, .int .i64 t, .int .i64 lr, .int .i64 lc] from rfl)
            generalize (⟨la, lb, lf, t, lr, lc⟩ : LinkR).by_ = lby at *
            have ka := Blk.new wr 103 #[.int .i64 la, .int .i64 lby, .int .i64 lf, .int .i64 t, .int .i64 lr, .int .i64 lc]
            have oq1 := OwnI.alloc oq (.cells #[.int .i64 la, .int .i64 lby, .int .i64 lf, .int .i64 t, .int .i64 lr, .int .i64 lc] 103)
            have ol1 := OwnC.alloc ol (.cells #[.int .i64 la, .int .i64 lby, .int .i64 lf, .int .i64 t, .int .i64 lr, .int .i64 lc] 103)
            have ob1 := OwnC.alloc ob (.cells #[.int .i64 la, .int .i64 lby, .int .i64 lf, .int .i64 t, .int .i64 lr, .int .i64 lc] 103)
            have hb1 := hb.alloc hb.size (.cells #[.int .i64 la, .int .i64 lby, .int .i64 lf, .int .i64 t, .int .i64 lr, .int .i64 lc] 103)
            have e0 := ka.cell 0
            have e1 := ka.cell 1
            have e2 := ka.cell 2
            have e3 := ka.cell 3
            have e4 := ka.cell 4
            have e5 := ka.cell 5
            have u1 := ints_cell oq1.ints (k := i) (by omega)
            have u2 := OwnC.cell ob1 (j := t) (by omega)
            rw [ints_getD oq i (by omega) hcu] at u1
            rw [reachV_get HBLN.out htN] at u2
            have KA := Lib.hid ka
            have hsz := ka.lt
            have hnq := (OwnI.lt oq rfl).2
            have hn1 := (OwnC.lt ol rfl).2
            have hn2 := (OwnC.lt ob rfl).2
            clear ka hb oq ol ob hown4
            by_cases hfu : lf = u
            · have hfb : (lf == u) = true := by rw [beq_iff_eq]; exact hfu
              by_cases hby : (scanTo ls u st k).1.getD t 0 = -2
              · have hrb : ((scanTo ls u st k).1.getD t 0 != -2) = false := by rw [hby]; rfl
                have HE := Lib.hid (HY.out hfu hby)
                have HBL2 := Lib.hid (show qn + 1 ≤ N by
                  have h1 := HBL.out (k + 1) (by rw [HM.out]; omega)
                  have h2 := h1.cnt
                  rw [HE.out] at h2
                  have h3 := OwnI.len oq1
                  simp only [List.length_append, List.length_singleton] at h2
                  omega)
                rw [hrb] at u2 hcb
                clear hfu hby
                go_wp2_with fail
                generalize hW1 : wr.alloc (.cells #[.int .i64 la, .int .i64 lby, .int .i64 lf, .int .i64 t, .int .i64 lr, .int .i64 lc] 103) = W1 at *
                have hszq : W1.heap.size = wr.heap.size + 1 := by rw [← hW1]; simp
                have HSZ := Lib.hid hszq
                clear hW1 hszq
                go_quiet (fail)
                have KA2 := KA.out.drewN nq
                have fb := OwnC.free ob1 t
                have u3 : (W1.drewN nq).cell? ⟨g2, t, none⟩ = some (.bool false) := u2
                have x3 := KA2.cell 3
                have fb3 : (W1.drewN nq).frozen? ⟨g2, t, none⟩ = false := fb
                have hne1 : wr.heap.size ≠ g1 := by omega
                have hne2 : wr.heap.size ≠ g2 := by omega
                have hb1l := (OwnC.lt ob1 rfl).1
                have hl1l := (OwnC.lt ol1 rfl).1
                have KA3 := Lib.hid (Blk.far KA2 (p := ⟨g2, t, none⟩) hne2 (.bool true))
                have ol3 := OwnC.far (OwnC.drewN ol1 nq) (p := ⟨g2, t, none⟩) (fun ad ha => by injection ha with ha; subst ha; exact hg12) (.bool true)
                have ob3 := OwnC.set (OwnC.drewN ob1 nq) t (.bool true)
                rw [reachV_set (k := k)] at ob3
                have oq3 := OwnI.far (OwnI.drewN oq1 nq) (p := ⟨g2, t, none⟩) (fun ad ha => (hQ ad ha).2) (.bool true)
                have hb3 := (below_drewN hb1 nq).setCell (p := ⟨g2, t, none⟩) hb1l (.bool true)
                have hs3 : wr.heap.size < ((W1.drewN nq).setCell ⟨g2, t, none⟩ (.bool true)).heap.size := KA3.out.lt
                clear u1 u2 hcb hcu e0 e1 e2 e3 e4 e5 oq1 ol1 ob1 hb1 KA HSZ KA2 fb
                go_upto_region 12 with (fail)
                generalize (W1.drewN nq).setCell ⟨g2, t, none⟩ (.bool true) = W3 at *
                clear x3 u3 fb3
                have y0 : W3.cell? ⟨wr.heap.size, 0, none⟩ = some (.int .i64 la) := KA3.out.cell 0
                have y1 : W3.cell? ⟨wr.heap.size, 1, none⟩ = some (.int .i64 lby) := KA3.out.cell 1
                have y2 : W3.cell? ⟨wr.heap.size, 2, none⟩ = some (.int .i64 lf) := KA3.out.cell 2
                have y3 : W3.cell? ⟨wr.heap.size, 3, none⟩ = some (.int .i64 t) := KA3.out.cell 3
                have y4 : W3.cell? ⟨wr.heap.size, 4, none⟩ = some (.int .i64 lr) := KA3.out.cell 4
                have y5 : W3.cell? ⟨wr.heap.size, 5, none⟩ = some (.int .i64 lc) := KA3.out.cell 5
                have z0 : W3.frozen? ⟨g1, t * 6, none⟩ = false := OwnC.free ol3 (t * 6)
                obtain ⟨v0, k0⟩ : ∃ v, W3.cell? ⟨g1, t * 6, none⟩ = some v := ⟨_, last_cell ol3 HBLN.out htN 0 (by omega)⟩
                have z1 : W3.frozen? ⟨g1, t * 6 + 1, none⟩ = false := OwnC.free ol3 (t * 6 + 1)
                obtain ⟨v1, k1⟩ : ∃ v, W3.cell? ⟨g1, t * 6 + 1, none⟩ = some v := ⟨_, last_cell ol3 HBLN.out htN 1 (by omega)⟩
                have z2 : W3.frozen? ⟨g1, t * 6 + 2, none⟩ = false := OwnC.free ol3 (t * 6 + 2)
                obtain ⟨v2, k2⟩ : ∃ v, W3.cell? ⟨g1, t * 6 + 2, none⟩ = some v := ⟨_, last_cell ol3 HBLN.out htN 2 (by omega)⟩
                have z3 : W3.frozen? ⟨g1, t * 6 + 3, none⟩ = false := OwnC.free ol3 (t * 6 + 3)
                obtain ⟨v3, k3⟩ : ∃ v, W3.cell? ⟨g1, t * 6 + 3, none⟩ = some v := ⟨_, last_cell ol3 HBLN.out htN 3 (by omega)⟩
                have z4 : W3.frozen? ⟨g1, t * 6 + 4, none⟩ = false := OwnC.free ol3 (t * 6 + 4)
                obtain ⟨v4, k4⟩ : ∃ v, W3.cell? ⟨g1, t * 6 + 4, none⟩ = some v := ⟨_, last_cell ol3 HBLN.out htN 4 (by omega)⟩
                have z5 : W3.frozen? ⟨g1, t * 6 + 5, none⟩ = false := OwnC.free ol3 (t * 6 + 5)
                obtain ⟨v5, k5⟩ : ∃ v, W3.cell? ⟨g1, t * 6 + 5, none⟩ = some v := ⟨_, last_cell ol3 HBLN.out htN 5 (by omega)⟩
                have KA4 := Lib.hid (Blk.far (Blk.far (Blk.far (Blk.far (Blk.far (Blk.far KA3.out (p := ⟨g1, t * 6, none⟩) hne1 (.int .i64 la)) (p := ⟨g1, t * 6 + 1, none⟩) hne1 (.int .i64 lby)) (p := ⟨g1, t * 6 + 2, none⟩) hne1 (.int .i64 lf)) (p := ⟨g1, t * 6 + 3, none⟩) hne1 (.int .i64 t)) (p := ⟨g1, t * 6 + 4, none⟩) hne1 (.int .i64 lr)) (p := ⟨g1, t * 6 + 5, none⟩) hne1 (.int .i64 lc))
                have oq4 := (OwnI.far (OwnI.far (OwnI.far (OwnI.far (OwnI.far (OwnI.far oq3 (p := ⟨g1, t * 6, none⟩) (fun ad ha => (hQ ad ha).1) (.int .i64 la)) (p := ⟨g1, t * 6 + 1, none⟩) (fun ad ha => (hQ ad ha).1) (.int .i64 lby)) (p := ⟨g1, t * 6 + 2, none⟩) (fun ad ha => (hQ ad ha).1) (.int .i64 lf)) (p := ⟨g1, t * 6 + 3, none⟩) (fun ad ha => (hQ ad ha).1) (.int .i64 t)) (p := ⟨g1, t * 6 + 4, none⟩) (fun ad ha => (hQ ad ha).1) (.int .i64 lr)) (p := ⟨g1, t * 6 + 5, none⟩) (fun ad ha => (hQ ad ha).1) (.int .i64 lc))
                have ob4 := (OwnC.far (OwnC.far (OwnC.far (OwnC.far (OwnC.far (OwnC.far ob3 (p := ⟨g1, t * 6, none⟩) (fun ad ha => by injection ha with ha; subst ha; exact fun e => hg12 e.symm) (.int .i64 la)) (p := ⟨g1, t * 6 + 1, none⟩) (fun ad ha => by injection ha with ha; subst ha; exact fun e => hg12 e.symm) (.int .i64 lby)) (p := ⟨g1, t * 6 + 2, none⟩) (fun ad ha => by injection ha with ha; subst ha; exact fun e => hg12 e.symm) (.int .i64 lf)) (p := ⟨g1, t * 6 + 3, none⟩) (fun ad ha => by injection ha with ha; subst ha; exact fun e => hg12 e.symm) (.int .i64 t)) (p := ⟨g1, t * 6 + 4, none⟩) (fun ad ha => by injection ha with ha; subst ha; exact fun e => hg12 e.symm) (.int .i64 lr)) (p := ⟨g1, t * 6 + 5, none⟩) (fun ad ha => by injection ha with ha; subst ha; exact fun e => hg12 e.symm) (.int .i64 lc))
                have hb4 := (Below.setCell (Below.setCell (Below.setCell (Below.setCell (Below.setCell (Below.setCell hb3 (p := ⟨g1, t * 6, none⟩) hl1l (.int .i64 la)) (p := ⟨g1, t * 6 + 1, none⟩) hl1l (.int .i64 lby)) (p := ⟨g1, t * 6 + 2, none⟩) hl1l (.int .i64 lf)) (p := ⟨g1, t * 6 + 3, none⟩) hl1l (.int .i64 t)) (p := ⟨g1, t * 6 + 4, none⟩) hl1l (.int .i64 lr)) (p := ⟨g1, t * 6 + 5, none⟩) hl1l (.int .i64 lc))
                have ol4 := (OwnC.set (OwnC.set (OwnC.set (OwnC.set (OwnC.set (OwnC.set ol3 (t * 6) (.int .i64 la)) (t * 6 + 1) (.int .i64 lby)) (t * 6 + 2) (.int .i64 lf)) (t * 6 + 3) (.int .i64 t)) (t * 6 + 4) (.int .i64 lr)) (t * 6 + 5) (.int .i64 lc))
                have HLC := Lib.hid (show lastC ls (k : Int) = [.int .i64 la, .int .i64 lby, .int .i64 lf, .int .i64 t, .int .i64 lr, .int .i64 lc] by unfold lastC; rw [if_neg (by omega), Int.toNat_natCast, HL.out]; exact HCL.out)
                rw [flatV_set6 (lastC ls) _ t (k : Int) _ _ _ _ _ _ (lastC_len ls) HLC.out (by rw [HBLN.out]; exact htN)] at ol4
                clear oq3 ol3 ob3 hb3 KA3
                go_upto_region 13 with (fail)
                generalize ((((((W3.setCell ⟨g1, t * 6, none⟩ (.int .i64 la)).setCell ⟨g1, t * 6 + 1, none⟩ (.int .i64 lby)).setCell ⟨g1, t * 6 + 2, none⟩ (.int .i64 lf)).setCell ⟨g1, t * 6 + 3, none⟩ (.int .i64 t)).setCell ⟨g1, t * 6 + 4, none⟩ (.int .i64 lr)).setCell ⟨g1, t * 6 + 5, none⟩ (.int .i64 lc)) = W4 at *
                clear y0 y1 y2 y3 y4 y5 z0 z1 z2 z3 z4 z5 k0 k1 k2 k3 k4 k5
                have x4 := KA4.out.cell 3
                have hs4 := KA4.out.lt
                have hsz4 := hb4.size
                have hqN2 := HBL2.out
                go_wp2_with (at_builtin; refine wp_append_int _ _ rfl _ _ _ rfl 2 W.heap.size Try.underlying29 info64 (some qd) qn qc _ rfl oq4 rfl (by omega) hsz4 ?_; intro g5 c5 w6 o6 u6 b6 hg6)
                have hnew : ∀ ad, some (⟨g5, 0, none⟩ : Addr) = some ad → ad.block ≠ g1 ∧ ad.block ≠ g2 := by
                  intro ad ha
                  injection ha with ha
                  subst ha
                  rcases hg6 with ⟨x, e1, e2⟩ | h6
                  · have := hQ x e1; rw [e2] at this; exact this
                  · have h7 := (OwnC.lt ol4 rfl).2
                    have h8 := (OwnC.lt ob4 rfl).2
                    have h7' : g1 < W4.heap.size := h7
                    have h8' : g2 < W4.heap.size := h8
                    exact ⟨by show g5 ≠ g1; omega, by show g5 ≠ g2; omega⟩
                have hS1 : Sep (some (⟨g1, 0, none⟩ : Addr)) (some qd) := fun a b ha hb e => by injection ha with ha; injection hb with hb; subst ha hb; exact (hQ _ rfl).1 e.symm
                have hS2 : Sep (some (⟨g2, 0, none⟩ : Addr)) (some qd) := fun a b ha hb e => by injection ha with ha; injection hb with hb; subst ha hb; exact (hQ _ rfl).2 e.symm
                go_wp2_with fail
                go_roundg (m - (k + 1))
                case measure => rw [HR2.out]; omega
                case rel => exact ⟨k + 1, _, qn + 1, c5, rfl, by omega, by omega, hqN2, by go_num, rfl, by rw [HE.out]; exact o6, by rw [HE.out]; exact OwnC.sep ol4 u6 hS1, by rw [HE.out]; exact OwnC.sep ob4 u6 hS2, hnew, hb4.trans b6⟩
              · have hrb : ((scanTo ls u st k).1.getD t 0 != -2) = true := by rw [bne_iff_ne]; exact hby
                have HE := Lib.hid (HN2.out hby)
                rw [hrb] at u2 hcb
                clear hfu hby
                go_wp2_with fail
                generalize wr.alloc (.cells #[.int .i64 la, .int .i64 lby, .int .i64 lf, .int .i64 t, .int .i64 lr, .int .i64 lc] 103) = W1 at *
                go_quiet (fail)
                go_wp2_with fail
                go_roundg (m - (k + 1))
                case measure => rw [HR2.out]; omega
                case rel => exact ⟨k + 1, _, qn, qc, rfl, by omega, hi, hqN, by go_num, rfl, by rw [HE.out]; exact OwnI.drewN oq1 _, by rw [HE.out]; exact OwnC.drewN ol1 _, by rw [HE.out]; exact OwnC.drewN ob1 _, hQ, below_drewN hb1 _⟩
            · have hfb : (lf == u) = false := by rw [beq_eq_false_iff_ne]; exact hfu
              have HE := Lib.hid (HN1.out hfu)
              clear hfu
              go_wp2_with fail
              generalize wr.alloc (.cells #[.int .i64 la, .int .i64 lby, .int .i64 lf, .int .i64 t, .int .i64 lr, .int .i64 lc] 103) = W1 at *
              go_quiet (fail)
              go_wp2_with fail
              go_roundg (m - (k + 1))
              case measure => rw [HR2.out]; omega
              case rel => exact ⟨k + 1, _, qn, qc, rfl, by omega, hi, hqN, by go_num, rfl, by rw [HE.out]; exact OwnI.drewN oq1 _, by rw [HE.out]; exact OwnC.drewN ol1 _, by rw [HE.out]; exact OwnC.drewN ob1 _, hQ, below_drewN hb1 _⟩
          · have e : k = m := by omega
            subst e
            go_wp2_with fail
            go_roundg (N - (i + 1))
            case measure => rw [HR.out]; omega
            case rel => exact ⟨i + 1, Q, qn, qc, rfl, hi, hqN, by go_num, rfl, by rw [HST.out, HM.out]; exact oq, by rw [HST.out, HM.out]; exact ol, by rw [HST.out, HM.out]; exact ob, hQ, hb⟩
      · have e : i = qn := by omega
        have HD := Lib.hid (show bfsTo ls N F N = bfsTo ls N F i from bfs_done (by rw [HQL.out]; exact hlt) (by omega))
        clear e
        go_wp2_with fail
        go_ret2
        exact ⟨g1, g2, rfl, by unfold reachL; rw [HD.out]; exact OwnC.low ol hW.size, by unfold reachL; rw [HD.out]; exact OwnC.low ob hW.size, hg12, below_ext hW hW.size hb⟩
end Go.Proofs.Ytnljfhmdjhppmaa
