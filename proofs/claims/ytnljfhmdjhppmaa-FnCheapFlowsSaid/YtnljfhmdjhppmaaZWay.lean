/- WayOfFlow: the walks (written by gen_way.py). -/
import Derived.Test.YtnljfhmdjhppmaaJ3
import Derived.Test.YtnljfhmdjhppmaaZFlow3
import Derived.Test.YtnljfhmdjhppmaaZGrid
namespace Go.Proofs.Ytnljfhmdjhppmaa
open Go.RowKit

def amW (xs : List ArcR) (fl : List Int) (a : Int) : Int := outTo xs fl a xs.length
def wayO (nodes : Int) (xs : List ArcR) (fl : List Int) (a b : Int) : Option (List (List Int)) :=
  if isFlowB nodes xs fl a b = true ∧ inB (amW xs fl a) 0 48 = true then waysF xs a b (amW xs fl a).toNat fl [] else none
def wayYes (nodes : Int) (xs : List ArcR) (fl : List Int) (a b : Int) : Bool := (wayO nodes xs fl a b).isSome
def wayV (nodes : Int) (xs : List ArcR) (fl : List Int) (a b : Int) : List (List Int) := (wayO nodes xs fl a b).getD []
theorem way_none {nodes : Int} {xs : List ArcR} {fl : List Int} {a b : Int} (h : wayO nodes xs fl a b = none) : wayYes nodes xs fl a b = false ∧ wayV nodes xs fl a b = [] := by
  unfold wayYes wayV; rw [h]; exact ⟨rfl, rfl⟩
theorem way_some {nodes : Int} {xs : List ArcR} {fl : List Int} {a b : Int} {out : List (List Int)} (h : wayO nodes xs fl a b = some out) : wayYes nodes xs fl a b = true ∧ wayV nodes xs fl a b = out := by
  unfold wayYes wayV; rw [h]; exact ⟨rfl, rfl⟩
/-- rows apart from each other -/
def RowsSep (vs : List Value) : Prop := ∀ (j k : Nat) (A B : Option Addr) (n c m d : Nat), j < k → vs[j]? = some (.slice A n c) → vs[k]? = some (.slice B m d) → Sep A B
theorem RowsSep.nil_ : RowsSep [] := fun j k A B n c m d _ h => by simp at h
theorem RowsSep.snoc {T base : Nat} {w : World} {vs : List Value} {rows : List (List Int)} (h : RowsSep vs) (hr : RowsAt T base w vs rows) {A : Option Addr} {n c : Nat} (hA : ∀ ad, A = some ad → w.heap.size ≤ ad.block) : RowsSep (vs ++ [.slice A n c]) := by
  intro j k B D m d p q hjk hj hk
  have hkl : k < vs.length + 1 := by
    have := (List.getElem?_eq_some_iff.1 hk).1
    simpa using this
  by_cases hk2 : k < vs.length
  · rw [List.getElem?_append_left hk2] at hk
    rw [List.getElem?_append_left (by omega)] at hj
    exact h j k B D m d p q hjk hj hk
  · have e : k = vs.length := by omega
    subst e
    rw [List.getElem?_append_left hjk] at hj
    rw [List.getElem?_append_right (Nat.le_refl _)] at hk
    simp at hk
    obtain ⟨e1, e2, e3⟩ := hk
    obtain ⟨B', c', h1, h2⟩ := hr.2 j (by rw [← hr.1]; exact hjk)
    rw [hj] at h1
    injection h1 with h1
    injection h1 with h1 h3 h4
    subst h1
    intro x y hx hy
    have a1 := (h2.lt hx).2
    have a2 := hA y (by rw [e1]; exact hy)
    omega
def RetRB (T TS : Nat) (rows : List (List Int)) (b : Bool) (w : World) (e : Ending) (w' : World) : Prop :=
  ∃ (O : Option Addr) (c : Nat) (vs : List Value), e = .returned (.tuple #[.slice O vs.length c, .bool b]) ∧ OwnC TS w.heap.size 1 w' O vs.length c vs ∧ RowsAt T w.heap.size w' vs rows ∧ RowsSep vs ∧ Below w.heap.size w w'
theorem ret_RBw {O : Option Addr} {n c : Nat} {a b : Bool} (h : a = b) : Ending.returned (.tuple #[.slice O n c, .bool a]) = .returned (.tuple #[.slice O n c, .bool b]) := by rw [h]
theorem infoLW : (Try.prog.info? 29).map (fun i => (i.zero, i.size, i.bytes)) = some (some (.slice none 0 0), 1, 24) := by kernel_rfl
theorem wayF_end {xs : List ArcR} {to_ : Int} {rs wy : List Int} : ∀ f, wayF xs to_ f to_ rs wy = some (rs, wy)
  | 0 => by unfold wayF; rw [if_pos rfl]
  | f + 1 => by unfold wayF; rw [if_pos rfl]
theorem wayF_no {xs : List ArcR} {at_ to_ : Int} {rs wy : List Int} (h : ¬ at_ = to_) (h2 : findW xs rs at_ xs.length 0 = xs.length) : ∀ f, wayF xs to_ f at_ rs wy = none
  | 0 => by unfold wayF; rw [if_neg h]
  | f + 1 => by unfold wayF; rw [if_neg h, if_pos h2]
theorem wayF_zero {xs : List ArcR} {at_ to_ : Int} {rs wy : List Int} (h : ¬ at_ = to_) : wayF xs to_ 0 at_ rs wy = none := by unfold wayF; rw [if_neg h]
theorem wayF_go {xs : List ArcR} {at_ to_ : Int} {rs wy : List Int} {f k : Nat} (h : ¬ at_ = to_) (h2 : findW xs rs at_ xs.length 0 = k) (hk : k < xs.length) : wayF xs to_ (f + 1) at_ rs wy = wayF xs to_ f (xs.getD k default).to_ (rs.set k (rs.getD k 0 - 1)) (wy ++ [(k : Int)]) := by
  rw [wayF, if_neg h, if_neg (by omega), h2]
theorem findW_yes {xs : List ArcR} {rs : List Int} {at_ : Int} {n k : Nat} (hk : k < n) (h1 : (xs.getD k default).fr = at_) (h2 : 0 < rs.getD k 0) : findW xs rs at_ (n - k) k = k := by
  rw [show n - k = (n - (k + 1)) + 1 by omega, findW, if_pos ⟨h1, h2⟩]
theorem findW_no {xs : List ArcR} {rs : List Int} {at_ : Int} {n k : Nat} (hk : k < n) (h : ¬ ((xs.getD k default).fr = at_ ∧ 0 < rs.getD k 0)) : findW xs rs at_ (n - k) k = findW xs rs at_ (n - (k + 1)) (k + 1) := by
  rw [show n - k = (n - (k + 1)) + 1 by omega, findW, if_neg h]
theorem waysF_none {xs : List ArcR} {fr to_ : Int} {a : Nat} {rs : List Int} {out : List (List Int)} (h : wayF xs to_ 48 fr rs [] = none) : waysF xs fr to_ (a + 1) rs out = none := by rw [waysF, h]
theorem waysF_go {xs : List ArcR} {fr to_ : Int} {a : Nat} {rs rs' wy : List Int} {out : List (List Int)} (h : wayF xs to_ 48 fr rs [] = some (rs', wy)) : waysF xs fr to_ (a + 1) rs out = waysF xs fr to_ a rs' (out ++ [wy]) := by rw [waysF, h]
theorem ArcsAt.updW {w w' : World} {A : Option Addr} {n : Nat} {xs : List ArcR} {S : Nat → Prop} (h : ArcsAt w A n xs) (hb : Upd S w w') (hS : ∀ ad, A = some ad → 0 < n → ¬ S ad.block) : ArcsAt w' A n xs := by
  cases n with
  | zero => exact ⟨h.1, fun h0 => absurd h0 (by omega)⟩
  | succ n => exact h.upd hb (fun ad ha => hS ad ha (by omega))
theorem isFlow_bd {nodes : Int} {xs : List ArcR} {fl : List Int} {a b : Int} (h : isFlowB nodes xs fl a b = true) : flowB nodes xs fl = true := by
  cases h2 : flowB nodes xs fl
  · rw [isFlowB_no1 h2] at h; cases h
  · rfl

set_option maxRecDepth 100000 in
set_option maxHeartbeats 6400000 in
theorem implWayOfFlow_r (nodes : Int) (A : Option Addr) (n c : Nat) (xs : List ArcR) (B : Option Addr) (m d : Nat) (fl : List Int) (fr to_ : Int) (w : World) (h : ArcsAt w A n xs) (hn0 : n ≤ maxLen) (hy : IntsAt w B m fl) (hm0 : m ≤ 1048576) :
    Calls Try.prog 23 #[.agg #[.int .i64 nodes, .slice A n c], .slice B m d, .int .i64 fr, .int .i64 to_] w (RetRB 2 29 (wayV nodes xs fl fr to_) (wayYes nodes xs fl fr to_) w) := by
  have HX := Lib.hid h.len
  have HY := Lib.hid hy.len
  have hW : Below w.heap.size w (w.alloc (.cells #[.int .i64 nodes, .slice A n c] 26)) := (Below.refl _ _).alloc (Nat.le_refl _) _
  have h3 := h.alloc (.cells #[.int .i64 nodes, .slice A n c] 26)
  have hy3 := hy.alloc (.cells #[.int .i64 nodes, .slice A n c] 26)
  have KX := Lib.hid (Blk.new w 26 #[.int .i64 nodes, .slice A n c])
  have p0 := KX.out.cell 0
  have p1 := KX.out.cell 1
  have HALT := Lib.hid (fun ad (ha : A = some ad) (hp : 0 < n) => show ad.block < w.heap.size from by
    obtain ⟨ad', e, h1, _⟩ := h.at_ hp
    rw [ha] at e
    injection e with e
    subst e
    exact h1)
  clear h hy
  cases hf : isFlowB nodes xs fl fr to_
  · have HN := Lib.hid (way_none (nodes := nodes) (xs := xs) (fl := fl) (a := fr) (b := to_) (by unfold wayO; rw [if_neg (fun hh => by rw [hf] at hh; cases hh.1)]))
    go_enter Try.func23, Try.ntmps23
    go_wp2_with fail
    generalize w.alloc (.cells #[.int .i64 nodes, .slice A n c] 26) = W at *
    refine (implIsFlow_r nodes A n c xs B m d fl fr to_ _ h3 hn0 hy3 hm0).mono ?_
    rw [hf]
    rintro e w1 ⟨rfl, e1⟩
    go_wp2_with fail
    go_ret2
    exact ⟨none, 0, [], ret_RBw HN.out.1.symm, OwnC.nil_ _ _ _ _, by rw [HN.out.2]; exact RowsAt.nil_, RowsSep.nil_, below_ext hW hW.size e1⟩
  · obtain ⟨hv, hfl, hfb⟩ := flow_bd (isFlow_bd hf)
    obtain ⟨v0, v1, v2, v3⟩ := valid_bd hv
    obtain rfl : m = n := by rw [← HY.out, hfl, HX.out]
    rw [HX.out] at v2
    have HFB := Lib.hid (show ∀ k, k < m → 0 ≤ fl.getD k 0 ∧ fl.getD k 0 ≤ 1000000 from fun k hk => by have := hfb k (by rw [HX.out]; exact hk); omega)
    have HAM := Lib.hid (show amW xs fl fr = outTo xs fl fr m by unfold amW; rw [HX.out])
    clear hfl hfb v3 hv
    cases hi : inB (outTo xs fl fr m) 0 48
    · have HN := Lib.hid (way_none (nodes := nodes) (xs := xs) (fl := fl) (a := fr) (b := to_) (by unfold wayO; rw [HAM.out, if_neg (fun hh => by rw [hi] at hh; cases hh.2)]))
      go_enter Try.func23, Try.ntmps23
      go_wp2_with fail
      generalize w.alloc (.cells #[.int .i64 nodes, .slice A m c] 26) = W at *
      refine (implIsFlow_r nodes A m c xs B m d fl fr to_ _ h3 hn0 hy3 hm0).mono ?_
      rw [hf]
      rintro e w1 ⟨rfl, e1⟩
      have q0 := (KX.out.ext e1).cell 0
      have q1 := (KX.out.ext e1).cell 1
      go_wp2_with fail
      refine (netOut_any nodes A m c xs B d fl fr _ (h3.below e1) v2 (hy3.below e1) HFB.out).mono ?_
      rintro e w2 ⟨rfl, e2⟩
      go_wp2_with fail
      refine (within_any _ _ _ _).mono ?_
      rw [hi]
      rintro e w' ⟨rfl, rfl⟩
      go_wp2_with fail
      go_ret2
      exact ⟨none, 0, [], ret_RBw HN.out.1.symm, OwnC.nil_ _ _ _ _, by rw [HN.out.2]; exact RowsAt.nil_, RowsSep.nil_, below_ext hW hW.size (ext_trans e1 e2)⟩
    · have HWO := Lib.hid (show wayO nodes xs fl fr to_ = waysF xs fr to_ (outTo xs fl fr m).toNat fl [] by unfold wayO; rw [HAM.out, if_pos ⟨hf, hi⟩])
      obtain ⟨a0, a48⟩ := inB_iff.1 hi
      obtain ⟨am, ham⟩ := Int.eq_ofNat_of_zero_le a0
      have HAMN := Lib.hid ham
      rw [ham, Int.toNat_natCast] at HWO
      rw [ham] at hi a48
      clear ham a0 HAM
      go_enter Try.func23, Try.ntmps23
      go_wp2_with fail
      generalize w.alloc (.cells #[.int .i64 nodes, .slice A m c] 26) = W at *
      refine (implIsFlow_r nodes A m c xs B m d fl fr to_ _ h3 hn0 hy3 hm0).mono ?_
      rw [hf]
      rintro e w1 ⟨rfl, e1⟩
      have q0 := (KX.out.ext e1).cell 0
      have q1 := (KX.out.ext e1).cell 1
      go_wp2_with fail
      refine (netOut_any nodes A m c xs B d fl fr _ (h3.below e1) v2 (hy3.below e1) HFB.out).mono ?_
      rw [HAMN.out]
      rintro e w2 ⟨rfl, e2⟩
      have e12 := ext_trans e1 e2
      clear e1 e2 hf
      go_wp2_with fail
      refine (within_any _ _ _ _).mono ?_
      rw [hi]
      rintro e w' ⟨rfl, rfl⟩
      clear p0 p1 q0 q1 hi
      have q2 := (KX.out.ext e12).cell 0
      have q3 := (KX.out.ext e12).cell 1
      go_wp2_with fail
      refine (copyInts_any B m d fl _ (hy3.below e12) (by omega)).mono ?_
      rintro e w3 ⟨R, cR, rfl, oR0, b3⟩
      have q4 := ((KX.out.ext e12).ext b3).cell 0
      have q5 := ((KX.out.ext e12).ext b3).cell 1
      go_wp2_with fail
      refine (netOut_any nodes A m c xs B d fl fr _ ((h3.below e12).below b3) v2 ((hy3.below e12).below b3) HFB.out).mono ?_
      rw [HAMN.out]
      rintro e w4 ⟨rfl, b4⟩
      have b34 := ext_trans b3 b4
      have oR := OwnI.below oR0 b4
      have hWl : w.heap.size < w2.heap.size := by have := KX.out.lt; have := e12.size; omega
      have hRgt : ∀ ad, R = some ad → w.heap.size < ad.block := fun ad ha => by have := (OwnI.lt oR0 ha).1; omega
      have hlowR : w.heap.size ≤ w2.heap.size := by omega
      have hs34 := b4.size
      obtain ⟨bR, hbR⟩ : ∃ b, b = w3.heap.size := ⟨_, rfl⟩
      rw [← hbR] at hs34
      have hwbR : w.heap.size < bR := by have := b3.size; omega
      have oO0 : OwnC 29 bR 1 w4 none 0 0 [] := OwnC.nil_ _ _ _ _
      clear q4 q5
      go_wp2_with fail

      have HKX := Lib.hid (KX.out.ext (ext_trans e12 b34))
      have HAR := Lib.hid ((h3.below e12).below b34)
      have hbW0 := below_ext hW hW.size (ext_trans e12 b34)
      have HR0 := Lib.hid (show RestOk fl m from ⟨HY.out, HFB.out⟩)
      have hRlt : ∀ ad, R = some ad → ad.block < bR := fun ad ha => by rw [hbR]; exact (OwnI.lt oR0 ha).2
      have HRLT := Lib.hid hRlt
      have HRGT := Lib.hid hRgt
      have oR1 := OwnI.low oR hlowR
      clear hRlt hRgt oR oR0 b34 q2 q3 e12 h3 hy3 hW
      go_loopg [11, 12] am (fun r ov av wi => ∃ (a : Nat) (rs : List Int) (out : List (List Int)) (vs : List Value) (O : Option Addr) (co : Nat), r = a ∧ a ≤ 48 ∧ av = .int .i64 a ∧ ov = .slice O vs.length co ∧ OwnC 29 bR 1 wi O vs.length co vs ∧ RowsAt 2 bR wi vs out ∧ OwnI 2 w.heap.size wi R m cR rs ∧ Hid (RowsSep vs ∧ RestOk rs m ∧ vs.length + a ≤ 48 ∧ waysF xs fr to_ a rs out = waysF xs fr to_ am fl []) ∧ Upd (fun b => blk R b ∨ bR ≤ b) w4 wi)
      case atStart => exact ⟨am, fl, [], [], _, _, rfl, by omega, rfl, rfl, oO0, RowsAt.nil_, oR1, Lib.hid ⟨RowsSep.nil_, HR0.out, by simp; omega, rfl⟩, Upd.refl _ _⟩
      case round =>
        clear oO0 oR1
        obtain ⟨a, rs, out, vs, O, co, hr, ha, rfl, rfl, oO, hrows, oR, HH, hu⟩ := hrel
        have HR := Lib.hid hr
        clear hr
        cases a with
        | zero =>
          have HWS := Lib.hid (way_some (nodes := nodes) (xs := xs) (fl := fl) (a := fr) (b := to_) (out := out) (by rw [HWO.out, ← HH.out.2.2.2]; rfl))
          have hbE : Below w.heap.size w wr := hbW0.trans (hu.toBelow hbW0.size (fun k hk hb => by
            rcases hb with ⟨x, h1, h2⟩ | h1
            · have := (OwnI.lt oR h1).1; omega
            · omega))
          go_wp2_with fail
          go_ret2
          exact ⟨O, co, vs, ret_RBw HWS.out.1.symm, OwnC.low oO (Nat.le_of_lt hwbR), by rw [HWS.out.2]; exact hrows.low (Nat.le_of_lt hwbR), HH.out.1, hbE⟩
        | succ a =>
          have hpos : ((a + 1 : Nat) : Int) > 0 := by omega
          have hsub : ((a + 1 : Nat) : Int) - 1 = (a : Int) := by omega
          have HOO := Lib.hid oO
          have HRW := Lib.hid hrows
          have hszR : bR ≤ wr.heap.size := by have := hu.size; omega
          obtain ⟨wo, rfl⟩ : ∃ wo : World, wo = wr := ⟨_, rfl⟩
          have oY0 : OwnI 2 wo.heap.size wo none 0 0 [] := OwnI.nil_ _ _ _
          have oRY := oR
          have huY := Upd.refl (blk R) wo
          clear oR
          go_wp2_with fail
          go_loopg [13, 14] 49 (fun r yv nv wi => ∃ (f : Nat) (at_ : Int) (rs' wy : List Int) (Y : Option Addr) (cy : Nat), r = f + 1 ∧ wy.length + f = 48 ∧ yv = .slice Y wy.length cy ∧ nv = .int .i64 at_ ∧ OwnI 2 wo.heap.size wi Y wy.length cy wy ∧ OwnI 2 w.heap.size wi R m cR rs' ∧ Hid (RestOk rs' m ∧ wayF xs to_ f at_ rs' wy = wayF xs to_ 48 fr rs []) ∧ Upd (blk R) wo wi)
          case atStart => exact ⟨48, fr, rs, [], _, _, rfl, rfl, rfl, rfl, oY0, oRY, Lib.hid ⟨HH.out.2.1, rfl⟩, huY⟩
          case round =>
            clear oY0 oRY huY oO hrows
            obtain ⟨f, at_, rs', wy, Y, cy, hr, hlf, rfl, rfl, oY, oR, HW2, hu2⟩ := hrel
            have HR2 := Lib.hid hr
            clear hr
            have hsz2 := hu2.size
            by_cases hend : at_ = to_
            · have HE := Lib.hid (show wayF xs to_ 48 fr rs [] = some (rs', wy) by rw [← HW2.out.2, hend]; exact wayF_end f)
              have HWG := Lib.hid (show waysF xs fr to_ a rs' (out ++ [wy]) = waysF xs fr to_ am fl [] by rw [← HH.out.2.2.2, waysF_go HE.out])
              have oO2 := OwnC.upd HOO.out hu2 (fun ad ha hb => by
                obtain ⟨x, h1, h2⟩ := hb
                have h4 := HRLT.out x h1
                have h5 := (OwnC.lt HOO.out ha).1
                omega)
              have hrw2 := RowsAt.upd HRW.out hu2 (fun b h1 _ hb => by
                obtain ⟨x, h4, h5⟩ := hb
                have h6 := HRLT.out x h4
                omega)
              have hbRw : bR ≤ wr.heap.size := by omega
              have hl48 : vs.length ≤ 48 := by have := HH.out.2.2.1; omega
              have HYS := Lib.hid (fun ad (ha : Y = some ad) => show wo.heap.size ≤ ad.block from (OwnI.lt oY ha).1)
              have hde : (to_ != to_) = false := by simp
              have HOO2 := Lib.hid oO2
              rw [hend]
              clear hend
              go_wp2_with (at_builtin; (refine wp_append_val _ (.slice Y wy.length cy) rfl rfl _ _ _ rfl 29 bR Try.underlying39 (.slice none 0 0) 24 infoLW rfl (by decide) O vs.length co vs rfl oO2 rfl (by omega) hbRw ?_; intro g5 c5 w6 o6 u6 b6 hg6))
              have hrw6 := RowsAt.updO hrw2 HOO2.out (by decide) u6
              have oY6 : OwnI 2 wo.heap.size w6 Y wy.length cy wy := OwnI.sep oY u6 (own_ne oY HOO2.out (by decide))
              have oR6 : OwnI 2 w.heap.size w6 R m cR rs' := OwnI.sep oR u6 (own_ne oR HOO2.out (by decide))
              have hu6 : Upd (fun b => blk R b ∨ bR ≤ b) w4 w6 := (hu.then hu2 (fun _ _ h => .inl h)).then u6 (fun b hb hO => by
                obtain ⟨x, h1, h2⟩ := hO
                have := (OwnC.lt HOO2.out h1).1
                exact .inr (by omega))
              clear hrw2 oY oO2 u6 b6 hg6
              go_roundg a
              case measure => rw [HR.out]; omega
              case rel => exact ⟨a, rs', out ++ [wy], vs ++ [.slice Y wy.length cy], some ⟨g5, 0, none⟩, c5, rfl, by omega, by first | rfl | go_num, by rw [List.length_append, List.length_singleton], by rw [List.length_append, List.length_singleton]; exact o6, hrw6.snoc (OwnI.low oY6 (by omega)), oR6, Lib.hid ⟨HH.out.1.snoc HRW.out HYS.out, HW2.out.1, by rw [List.length_append, List.length_singleton]; have := HH.out.2.2.1; omega, HWG.out⟩, hu6⟩
            · have HEND := Lib.hid hend
              have hde : (at_ != to_) = true := by rw [bne_iff_ne]; exact hend
              clear hend
              have HARW := Lib.hid (fun (W : World) (hb : Below wr.heap.size wr W) => show ArcsAt W A m xs from (((HAR.out.updW (hu.then hu2 (fun _ _ h => .inl h)) (fun ad ha hp hb => by
                have h4 := HALT.out ad ha hp
                rcases hb with ⟨x, h1, h2⟩ | h1
                · have h5 := HRGT.out x h1
                  omega
                · omega))).below hb))
              have HKW := Lib.hid (fun (W : World) (hb : Below wr.heap.size wr W) => show Blk W w.heap.size 26 #[.int .i64 nodes, .slice A m c] from ((HKX.out.upd (hu.then hu2 (fun _ _ h => .inl h)) (fun hb => by
                rcases hb with ⟨x, h1, h2⟩ | h1
                · have h5 := HRGT.out x h1
                  omega
                · omega)).ext hb))
              obtain ⟨wp, rfl⟩ : ∃ wp : World, wp = wr := ⟨_, rfl⟩
              have HOR := Lib.hid oR
              have HOY := Lib.hid oY
              have q1 := (HKW.out wp (Below.refl _ _)).cell 1
              have hbp0 := Below.refl wp.heap.size wp
              clear oR oY
              go_wp2_with fail
              clear q1
              go_loopg [15, 49] m (fun r nx iv wi => ∃ k : Nat, r = m - k ∧ k ≤ m ∧ iv = .int .i64 k ∧ nx = .int .i64 (-1) ∧ Hid (findW xs rs' at_ (m - k) k = findW xs rs' at_ m 0) ∧ Below wp.heap.size wp wi)
              case atStart => exact ⟨0, rfl, Nat.zero_le _, rfl, rfl, Lib.hid rfl, hbp0⟩
              case round =>
                clear hbp0
                obtain ⟨k, hr, hk, rfl, rfl, HF, hbp⟩ := hrel
                have HR3 := Lib.hid hr
                clear hr
                by_cases hlk : k < m
                · have hlk' : (k : Int) < (m : Int) := by omega
                  obtain ⟨ad, rfl, _, c0, c1, c2, c3⟩ := (HARW.out wr hbp).at_ hlk
                  obtain ⟨gR, rfl, _⟩ := HOR.out.pos (by omega)
                  have HNO := Lib.hid (fun hh => findW_no (xs := xs) (rs := rs') (at_ := at_) hlk hh)
                  have HYES := Lib.hid (fun h1 h2 => findW_yes (xs := xs) (rs := rs') (at_ := at_) hlk h1 h2)
                  obtain ⟨af, hfr⟩ : ∃ v, (xs.getD k default).fr = v := ⟨_, rfl⟩
                  obtain ⟨at2, hto⟩ : ∃ v, (xs.getD k default).to_ = v := ⟨_, rfl⟩
                  obtain ⟨ar, hro⟩ : ∃ v, (xs.getD k default).room = v := ⟨_, rfl⟩
                  obtain ⟨aq, hco⟩ : ∃ v, (xs.getD k default).cost = v := ⟨_, rfl⟩
                  rw [hfr] at c0 HNO HYES
                  rw [hto] at c1
                  rw [hro] at c2
                  rw [hco] at c3
                  have HTO := Lib.hid hto
                  clear hfr hto hro hco
                  have ka := Blk.new wr 80 #[.int .i64 af, .int .i64 at2, .int .i64 ar, .int .i64 aq]
                  have e0 := ka.cell 0
                  have hbW := hbp.alloc hbp.size (.cells #[.int .i64 af, .int .i64 at2, .int .i64 ar, .int .i64 aq] 80)
                  have cR0 := OwnI.cell (OwnI.below HOR.out hbW) hlk
                  obtain ⟨y0, hy0⟩ : ∃ v, rs'.getD k 0 = v := ⟨_, rfl⟩
                  rw [hy0] at cR0 HYES HNO
                  have HY0 := Lib.hid hy0
                  clear ka hy0
                  by_cases h1 : af = at_
                  · have d1 : (af == at_) = true := by rw [beq_iff_eq]; exact h1
                    by_cases h2 : 0 < y0
                    · have HK := Lib.hid (show findW xs rs' at_ m 0 = k by rw [← HF.out]; exact HYES.out h1 h2)
                      clear h1
                      go_upto_region 18 with (fail)
                      generalize wr.alloc (.cells #[.int .i64 af, .int .i64 at2, .int .i64 ar, .int .i64 aq] 80) = W1 at *
                      clear cR0 e0 c0 c1 c2 c3 h2
                      have hkn : ¬ (k : Int) < 0 := by omega
                      have HARX := Lib.hid (HARW.out W1 hbW)
                      have HKX2 := Lib.hid (HKW.out W1 hbW)
                      have oR1 := OwnI.below HOR.out hbW
                      have oY1 := OwnI.below HOY.out hbW
                      have cR1 := OwnI.cell oR1 hlk
                      have fR1 := OwnI.free oR1 k
                      have hrk := HW2.out.1.2 k hlk
                      have oR2 := OwnI.set oR1 k (rs'.getD k 0 - 1)
                      have HHIT := Lib.hid (findW_hit (xs := xs) (rs := rs') (at_ := at_) m 0 (by rw [HK.out]; omega)).2
                      rw [HK.out] at HHIT
                      have hpk := HHIT.out
                      have hYg : ∀ x, Y = some x → x.block ≠ gR := fun x hx e => by
                        have h1 := (OwnI.lt HOY.out hx).1
                        have h2 := HRLT.out _ rfl
                        have h3 : gR < bR := h2
                        omega
                      have oY2 := OwnI.far oY1 (p := ⟨gR, k, none⟩) (fun x hx => hYg x hx) (.int .i64 (rs'.getD k 0 - 1))
                      have HUP := Lib.hid (show Upd (blk (some ⟨gR, 0, none⟩)) wo (W1.setCell ⟨gR, k, none⟩ (.int .i64 (rs'.getD k 0 - 1))) from (hu2.below hbW).setCell (p := ⟨gR, k, none⟩) (.inl ⟨_, rfl, rfl⟩) _)
                      have HCL := Lib.hid (fun (w6 : World) (u6 : Upd (blk Y) (W1.setCell ⟨gR, k, none⟩ (.int .i64 (rs'.getD k 0 - 1))) w6) => show w6.cell? ⟨w.heap.size, 1, none⟩ = some (.slice (some ad) m c) ∧ w6.cell? ⟨(ad.add (k * 4)).block, (ad.add (k * 4)).off + 1, none⟩ = some (.int .i64 (xs.getD k default).to_) from by
                        have hU : Upd (fun b => b = gR ∨ blk Y b) W1 w6 := ((Upd.refl _ _).setCell (p := ⟨gR, k, none⟩) (.inl (.inl rfl)) _).then u6 (fun b _ hb => .inr hb)
                        have hYb : ∀ b, blk Y b → wo.heap.size ≤ b := fun b hb => by
                          obtain ⟨x, h1, h2⟩ := hb
                          have := (OwnI.lt HOY.out h1).1
                          omega
                        have hgR : w.heap.size < gR := HRGT.out _ rfl
                        have hwo : w.heap.size ≤ wo.heap.size := by omega
                        refine ⟨((HKX2.out.upd hU (fun hb => by
                          rcases hb with hb | hb
                          · omega
                          · have := hYb _ hb
                            have h9 := HKX.out.lt
                            have h10 := hu.size
                            omega)).cell 1).trans rfl, ?_⟩
                        obtain ⟨ad', e, _, hc⟩ := (HARX.out.updW hU (fun x hx hp hb => by
                          have h7 := HALT.out x hx hp
                          rcases hb with hb | hb
                          · omega
                          · have := hYb _ hb; omega)).at_ hlk
                        injection e with e
                        subst e
                        exact hc.2.1)
                      clear oR1 oY1
                      cases f with
                      | zero =>
                        have h48 : wy.length = 48 := by omega
                        have HN := Lib.hid (way_none (nodes := nodes) (xs := xs) (fl := fl) (a := fr) (b := to_) (by rw [HWO.out, ← HH.out.2.2.2]; exact waysF_none (by rw [← HW2.out.2]; exact wayF_zero HEND.out)))
                        have hbE : Below w.heap.size w W1 := (hbW0.trans ((hu.then hu2 (fun _ _ h => .inl h)).toBelow hbW0.size (fun q hq hb => by
                          rcases hb with ⟨x, h1, h2⟩ | h1
                          · have := HRGT.out x h1; omega
                          · omega))).trans (hbW.mono (by have := hu.size; have := hbW0.size; omega))
                        have h48' : ((wy.length : Int) == 48) = true := by rw [h48]; rfl
                        have h48i : (wy.length : Int) = 48 := by omega
                        clear cR1 fR1 oR2 oY2
                        go_wp2_with fail
                        go_ret2
                        exact ⟨none, 0, [], ret_RBw HN.out.1.symm, OwnC.nil_ _ _ _ _, by rw [HN.out.2]; exact RowsAt.nil_, RowsSep.nil_, hbE⟩
                      | succ f =>
                        have HGO := Lib.hid (show wayF xs to_ f (xs.getD k default).to_ (rs'.set k (rs'.getD k 0 - 1)) (wy ++ [(k : Int)]) = wayF xs to_ 48 fr rs [] by rw [← HW2.out.2]; exact (wayF_go HEND.out (by rw [HX.out]; exact HK.out) (by rw [HX.out]; exact hlk)).symm)
                        have h48i : ¬ (wy.length : Int) = 48 := by omega
                        have h48' : ((wy.length : Int) == 48) = false := by rw [beq_eq_false_iff_ne]; exact h48i
                        have HRO := Lib.hid (HW2.out.1.step hlk hpk)
                        have hszW : wo.heap.size ≤ (W1.setCell ⟨gR, k, none⟩ (.int .i64 (rs'.getD k 0 - 1))).heap.size := HUP.out.size
                        have hl48 : wy.length ≤ 48 := by omega
                        have hlt9 : wy.length + f = 47 := by omega
                        have hzw : IntKind.i64.wrap (rs'.getD k 0 - 1) = rs'.getD k 0 - 1 := IntWalk.i64_in _ (by omega)
                        have HRLE := Lib.hid hlf
                        generalize rs'.getD k 0 = y at *
                        generalize (xs.getD k default).to_ = tq at *
                        go_upto_region 21 with (fail)
                        generalize W1.setCell ⟨gR, k, none⟩ (.int .i64 (y - 1)) = W2 at *
                        go_wp2_with (at_builtin; (refine wp_append_int _ _ rfl _ _ _ rfl 2 wo.heap.size Try.underlying29 info64 Y wy.length cy _ rfl oY2 rfl (by omega) hszW ?_; intro g5 c5 w6 o6 u6 b6 hg6; obtain ⟨r1, r2⟩ := HCL.out w6 u6))
                        have oR6 := OwnI.sep oR2 u6 (fun x y hx hy e => by injection hx with hx; subst hx; exact hYg y hy e.symm)
                        have hu6 := HUP.out.then u6 (fun b hb ⟨x, h1, h2⟩ => by have := (OwnI.lt HOY.out h1).1; omega)
                        go_roundg (f + 1)
                        case measure => rw [HR2.out]; omega
                        case rel => exact ⟨f, tq, _, wy ++ [(k : Int)], _, c5, rfl, by rw [List.length_append, List.length_singleton]; omega, by rw [List.length_append, List.length_singleton], rfl, by rw [List.length_append, List.length_singleton]; exact o6, oR6, Lib.hid ⟨HRO.out, HGO.out⟩, hu6⟩
                    · have HNX := Lib.hid (HNO.out (fun hh => h2 hh.2))
                      clear h1
                      go_wp2_with fail
                      go_roundg (m - (k + 1))
                      case measure => rw [HR3.out]; omega
                      case rel => exact ⟨k + 1, rfl, by omega, by go_num, rfl, Lib.hid (by rw [← HNX.out]; exact HF.out), hbW⟩
                  · have HNX := Lib.hid (HNO.out (fun hh => h1 hh.1))
                    have d1 : (af == at_) = false := by rw [beq_eq_false_iff_ne]; exact h1
                    clear h1
                    go_wp2_with fail
                    go_roundg (m - (k + 1))
                    case measure => rw [HR3.out]; omega
                    case rel => exact ⟨k + 1, rfl, by omega, by go_num, rfl, Lib.hid (by rw [← HNX.out]; exact HF.out), hbW⟩
                · obtain rfl : m = k := by omega
                  have HFN := Lib.hid (show findW xs rs' at_ m 0 = m by rw [← HF.out, Nat.sub_self]; rfl)
                  have HN := Lib.hid (way_none (nodes := nodes) (xs := xs) (fl := fl) (a := fr) (b := to_) (by rw [HWO.out, ← HH.out.2.2.2]; exact waysF_none (by rw [← HW2.out.2]; exact wayF_no HEND.out (by rw [HX.out]; exact HFN.out) f)))
                  have hbE : Below w.heap.size w wr := (hbW0.trans ((hu.then hu2 (fun _ _ h => .inl h)).toBelow hbW0.size (fun q hq hb => by
                      rcases hb with ⟨x, h1, h2⟩ | h1
                      · have := HRGT.out x h1; omega
                      · omega))).trans (hbp.mono (by have := hu.size; have := hbW0.size; omega))
                  go_wp2_with fail
                  go_ret2
                  exact ⟨none, 0, [], ret_RBw HN.out.1.symm, OwnC.nil_ _ _ _ _, by rw [HN.out.2]; exact RowsAt.nil_, RowsSep.nil_, hbE⟩
end Go.Proofs.Ytnljfhmdjhppmaa
