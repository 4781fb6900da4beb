/- Flows of nets: whether a list is a flow, what it costs, what goes out of a node. -/
import Derived.Test.YtnljfhmdjhppmaaZValid2
import Derived.Test.YtnljfhmdjhppmaaJ2
namespace Go.Proofs.Ytnljfhmdjhppmaa
open Go.RowKit

theorem arcs_cell {w : World} {ad : Addr} {n : Nat} {xs : List ArcR} (h : ArcsAt w (some ad) n xs) {k : Nat} (hk : k < n) : ArcCells w (ad.add (k * 4)) (xs.getD k default) := by
  obtain ⟨ad', e, _, hc⟩ := h.at_ hk
  injection e with e
  subst e
  exact hc

def flowOkTo (xs : List ArcR) (fl : List Int) (k : Nat) : Bool := (List.range k).all fun i => inB (fl.getD i 0) 0 (xs.getD i default).room
/-- a list is a flow of a net -/
def flowB (nodes : Int) (xs : List ArcR) (fl : List Int) : Bool := validB nodes xs && (decide (fl.length = xs.length) && flowOkTo xs fl xs.length)
theorem flowOkTo_succ (xs : List ArcR) (fl : List Int) (k : Nat) : flowOkTo xs fl (k + 1) = (flowOkTo xs fl k && inB (fl.getD k 0) 0 (xs.getD k default).room) := by
  unfold flowOkTo
  rw [List.range_succ, List.all_append]; simp
theorem flowOkTo_stop {xs : List ArcR} {fl : List Int} {k : Nat} (h : inB (fl.getD k 0) 0 (xs.getD k default).room = false) : ∀ d, flowOkTo xs fl (k + 1 + d) = false
  | 0 => by rw [Nat.add_zero, flowOkTo_succ, h, Bool.and_false]
  | d + 1 => by rw [← Nat.add_assoc, flowOkTo_succ, flowOkTo_stop h d, Bool.false_and]
theorem flowOkTo_at {xs : List ArcR} {fl : List Int} {n : Nat} (h : flowOkTo xs fl n = true) {k : Nat} (hk : k < n) : 0 ≤ fl.getD k 0 ∧ fl.getD k 0 ≤ (xs.getD k default).room := by
  unfold flowOkTo at h
  rw [List.all_eq_true] at h
  exact inB_iff.1 (h k (List.mem_range.2 hk))
theorem flowB_novalid {nodes : Int} {xs : List ArcR} {fl : List Int} (h : validB nodes xs = false) : flowB nodes xs fl = false := by simp [flowB, h]
theorem flowB_len {nodes : Int} {xs : List ArcR} {fl : List Int} (h : fl.length ≠ xs.length) : flowB nodes xs fl = false := by simp [flowB, h]
theorem flowB_yes {nodes : Int} {xs : List ArcR} {fl : List Int} (h : validB nodes xs = true) (h2 : fl.length = xs.length) : flowB nodes xs fl = flowOkTo xs fl xs.length := by simp [flowB, h, h2]

theorem valid_bd {nodes : Int} {xs : List ArcR} (h : validB nodes xs = true) : 2 ≤ nodes ∧ nodes ≤ 16 ∧ xs.length ≤ 48 ∧ ∀ k, k < xs.length → (0 ≤ (xs.getD k default).fr ∧ (xs.getD k default).fr < nodes) ∧ (0 ≤ (xs.getD k default).to_ ∧ (xs.getD k default).to_ < nodes) ∧ (xs.getD k default).fr ≠ (xs.getD k default).to_ ∧ (0 ≤ (xs.getD k default).room ∧ (xs.getD k default).room ≤ 1000000) ∧ (-1000 ≤ (xs.getD k default).cost ∧ (xs.getD k default).cost ≤ 1000) := by
  simp only [validB, Bool.and_eq_true, decide_eq_true_eq, List.all_eq_true] at h
  obtain ⟨h1, h2, h3⟩ := h
  obtain ⟨a, b⟩ := inB_iff.1 h1
  refine ⟨a, b, h2, fun k hk => ?_⟩
  have h4 := h3 (xs.getD k default) (by simp [List.getD, List.getElem?_eq_getElem hk])
  simp only [arcOkB, Bool.and_eq_true, decide_eq_true_eq, inB_iff] at h4
  obtain ⟨e1, e2, e3, e4, e5⟩ := h4
  exact ⟨⟨e1.1, by omega⟩, ⟨e2.1, by omega⟩, e3, e4, e5⟩
theorem flow_bd {nodes : Int} {xs : List ArcR} {fl : List Int} (h : flowB nodes xs fl = true) : validB nodes xs = true ∧ fl.length = xs.length ∧ ∀ k, k < xs.length → 0 ≤ fl.getD k 0 ∧ fl.getD k 0 ≤ (xs.getD k default).room ∧ fl.getD k 0 ≤ 1000000 := by
  simp only [flowB, Bool.and_eq_true, decide_eq_true_eq] at h
  obtain ⟨h1, h2, h3⟩ := h
  refine ⟨h1, h2, fun k hk => ?_⟩
  have h4 := flowOkTo_at h3 hk
  have h5 := ((valid_bd h1).2.2.2 k hk).2.2.2.1
  omega

theorem within_q (n lo hi : Int) (w : World) (m : Nat) :
    Calls Try.prog 45 #[.int .i64 n, .int .i64 lo, .int .i64 hi] (w.drewN m) fun e w'' => e = .returned (.bool (inB n lo hi)) ∧ ∃ q, w'' = w.drewN q := quiet_here (within_any n lo hi _)

set_option maxRecDepth 100000 in
set_option maxHeartbeats 1600000 in
theorem l03Flow_any (g : Nat) (nodes : Int) (A : Option Addr) (n c : Nat) (xs : List ArcR) (B : Option Addr) (m d : Nat) (fl : List Int) (w : World) (hb : Blk w g 26 #[.int .i64 nodes, .slice A n c]) (h : ArcsAt w A n xs) (hn0 : n ≤ maxLen) (hy : IntsAt w B m fl) (hm0 : m ≤ 1048576) :
    Calls Try.prog 51 #[.pointer (some ⟨g, 0, none⟩), .slice B m d] w fun e w' => e = .returned (.bool (flowB nodes xs fl)) ∧ Drew w w' := by
  have HX := Lib.hid h.len
  have HY := Lib.hid hy.len
  have hn : n ≤ 9223372036854775807 := hn0
  cases hv : validB nodes xs
  · have HF := Lib.hid (flowB_novalid (fl := fl) hv)
    go_enter Try.func51, Try.ntmps51
    go_wp2_with (go_at_call 72; refine (l03Is_any g nodes A n c xs _ hb h hn0).mono ?_; rw [hv]; rintro e w1 ⟨rfl, hd⟩)
    go_ret
    exact ⟨ret_bool HF.out.symm, hd⟩
  · obtain ⟨q, hq⟩ : ∃ q : Nat, q = n := ⟨n, rfl⟩
    by_cases hmn : m = n
    · subst hmn
      have HF := Lib.hid (flowB_yes (fl := fl) hv (by rw [HX.out, HY.out]))
      have hself : ((m : Int) != (m : Int)) = false := by simp
      clear hq
      go_enter Try.func51, Try.ntmps51
      go_wp2_with (go_at_call 72; refine (l03Is_any g nodes A m c xs _ hb h hn0).mono ?_; rw [hv]; rintro e w1 ⟨rfl, q1, rfl⟩; have p1 := (Blk.drewN hb q1).cell 1)
      go_loopg [21] m (fun r i wr => ∃ (k : Nat), r = m - k ∧ k ≤ m ∧ i = .int .i64 k ∧ Drew w wr ∧ Hid (flowOkTo xs fl k = true))
      case atStart => exact ⟨0, by omega, by omega, rfl, ⟨_, rfl⟩, Lib.hid rfl⟩
      case round =>
        clear p1
        obtain ⟨k, hr, hk, rfl, hd, hall⟩ := hrel
        have HR := Lib.hid hr
        clear hr
        have p1 := (Blk.ext hb hd.below).cell 1
        by_cases hlt : k < m
        · obtain ⟨ad, rfl, had, c0, c1, c2, c3⟩ := (h.drewTo hd).at_ hlt
          obtain ⟨bd, rfl, _, hcl⟩ := (hy.drewTo hd).at_ hlt
          have HS := Lib.hid (flowOkTo_succ xs fl k)
          have HST := Lib.hid (@flowOkTo_stop xs fl k)
          generalize xs.getD k default = x at *
          generalize fl.getD k 0 = y at *
          obtain ⟨f, t, r, q⟩ := x
          cases i1 : inB y 0 r
          · have HE := Lib.hid (show flowOkTo xs fl m = false by rw [show m = k + 1 + (m - (k + 1)) from by omega]; exact HST.out i1 _)
            go_wp2
            go_quiet ((go_at_call 52; exact l00In_q' _ _ _ _ _))
            go_wp2
            go_ret
            exact ⟨ret_bool (by rw [HF.out, HX.out, HE.out]), hd.step _⟩
          · have HE := Lib.hid (show flowOkTo xs fl (k + 1) = true by rw [HS.out, hall.out, i1]; rfl)
            go_wp2
            go_quiet ((go_at_call 52; exact l00In_q' _ _ _ _ _))
            go_wp2
            go_roundg (m - (k + 1))
            case measure => rw [HR.out]; omega
            case rel => exact ⟨k + 1, rfl, by omega, by go_num, hd.step _, HE⟩
        · have e : k = m := by omega
          subst e
          go_wp2
          go_ret
          exact ⟨ret_bool (by rw [HF.out, HX.out, hall.out]), hd⟩
    · have HF := Lib.hid (flowB_len (nodes := nodes) (xs := xs) (fl := fl) (by rw [HX.out, HY.out]; exact hmn))
      have hne : ((m : Int) != (n : Int)) = true := by rw [bne_iff_ne]; omega
      go_enter Try.func51, Try.ntmps51
      go_wp2_with (go_at_call 72; refine (l03Is_any g nodes A n c xs _ hb h hn0).mono ?_; rw [hv]; rintro e w1 ⟨rfl, q1, rfl⟩; have p1 := (Blk.drewN hb q1).cell 1)
      go_ret
      exact ⟨ret_bool HF.out.symm, ⟨_, rfl⟩⟩

set_option maxRecDepth 100000 in
set_option maxHeartbeats 1600000 in
theorem isFlowing_any (nodes : Int) (A : Option Addr) (n c : Nat) (xs : List ArcR) (B : Option Addr) (m d : Nat) (fl : List Int) (w : World) (h : ArcsAt w A n xs) (hn0 : n ≤ maxLen) (hy : IntsAt w B m fl) (hm0 : m ≤ 1048576) :
    Calls Try.prog 54 #[.agg #[.int .i64 nodes, .slice A n c], .slice B m d] w (RetV (.bool (flowB nodes xs fl)) w) := by
  have HX := Lib.hid h.len
  have HY := Lib.hid hy.len
  have hn : n ≤ 9223372036854775807 := hn0
  have hb := Blk.new w 26 #[.int .i64 nodes, .slice A n c]
  have hW : Below w.heap.size w (w.alloc (.cells #[.int .i64 nodes, .slice A n c] 26)) := (Below.refl _ _).alloc (Nat.le_refl _) _
  have h3 := h.alloc (.cells #[.int .i64 nodes, .slice A n c] 26)
  have hy3 := hy.alloc (.cells #[.int .i64 nodes, .slice A n c] 26)
  have p1 := hb.cell 1
  have HB := Lib.hid hb
  clear hb h hy
  cases hv : validB nodes xs
  · have HF := Lib.hid (flowB_novalid (fl := fl) hv)
    go_enter Try.func54, Try.ntmps54
    go_wp2_with (go_at_call 70; refine (implValidNet_r nodes A n c xs _ h3 hn0).mono ?_; rw [hv]; rintro e w1 ⟨rfl, b1⟩)
    go_ret
    exact ⟨ret_bool HF.out.symm, below_ext hW hW.size b1⟩
  · by_cases hmn : m = n
    · subst hmn
      have HF := Lib.hid (flowB_yes (fl := fl) hv (by rw [HX.out, HY.out]))
      have hself : ((m : Int) != (m : Int)) = false := by simp
      go_enter Try.func54, Try.ntmps54
      go_wp2_with fail
      generalize w.alloc (.cells #[.int .i64 nodes, .slice A m c] 26) = W at *
      refine (implValidNet_r nodes A m c xs _ h3 hn0).mono ?_
      rw [hv]
      rintro e w1 ⟨rfl, b1⟩
      have q1 := (HB.out.ext b1).cell 1
      clear p1
      go_wp2
      go_loopg [21] m (fun r i wr => ∃ (k : Nat), r = m - k ∧ k ≤ m ∧ i = .int .i64 k ∧ Below W.heap.size W wr ∧ Hid (flowOkTo xs fl k = true))
      case atStart => exact ⟨0, by omega, by omega, rfl, b1, Lib.hid rfl⟩
      case round =>
        clear q1 b1
        obtain ⟨k, hr, hk, rfl, hd, hall⟩ := hrel
        have HR := Lib.hid hr
        clear hr
        by_cases hlt : k < m
        · obtain ⟨ad, rfl, had, c0, c1, c2, c3⟩ := (h3.below hd).at_ hlt
          have HS := Lib.hid (flowOkTo_succ xs fl k)
          have HST := Lib.hid (@flowOkTo_stop xs fl k)
          generalize xs.getD k default = x at *
          obtain ⟨f, t, r, q⟩ := x
          have ka := Blk.new wr 80 #[.int .i64 f, .int .i64 t, .int .i64 r, .int .i64 q]
          have hd2 := hd.alloc hd.size (.cells #[.int .i64 f, .int .i64 t, .int .i64 r, .int .i64 q] 80)
          obtain ⟨bd, rfl, _, hcl⟩ := (hy3.below hd2).at_ hlt
          generalize fl.getD k 0 = y at *
          have s2 := ka.cell 2
          have hsz := ka.lt
          clear ka hd
          cases i1 : inB y 0 r
          · have HE := Lib.hid (show flowOkTo xs fl m = false by rw [show m = k + 1 + (m - (k + 1)) from by omega]; exact HST.out i1 _)
            go_wp2_with fail
            generalize wr.alloc (.cells #[.int .i64 f, .int .i64 t, .int .i64 r, .int .i64 q] 80) = W1 at *
            go_quiet ((go_at_call 45; exact within_q _ _ _ _ _))
            go_wp2
            go_ret
            exact ⟨ret_bool (by rw [HF.out, HX.out, HE.out]), below_ext hW hW.size (below_drewN hd2 _)⟩
          · have HE := Lib.hid (show flowOkTo xs fl (k + 1) = true by rw [HS.out, hall.out, i1]; rfl)
            go_wp2_with fail
            generalize wr.alloc (.cells #[.int .i64 f, .int .i64 t, .int .i64 r, .int .i64 q] 80) = W1 at *
            go_quiet ((go_at_call 45; exact within_q _ _ _ _ _))
            go_wp2
            go_roundg (m - (k + 1))
            case measure => rw [HR.out]; omega
            case rel => exact ⟨k + 1, rfl, by omega, by go_num, below_drewN hd2 _, HE⟩
        · have e : k = m := by omega
          subst e
          go_wp2
          go_ret
          exact ⟨ret_bool (by rw [HF.out, HX.out, hall.out]), below_ext hW hW.size hd⟩
    · have HF := Lib.hid (flowB_len (nodes := nodes) (xs := xs) (fl := fl) (by rw [HX.out, HY.out]; exact hmn))
      have hne : ((m : Int) != (n : Int)) = true := by rw [bne_iff_ne]; omega
      go_enter Try.func54, Try.ntmps54
      go_wp2_with fail
      generalize w.alloc (.cells #[.int .i64 nodes, .slice A n c] 26) = W at *
      refine (implValidNet_r nodes A n c xs _ h3 hn0).mono ?_
      rw [hv]
      rintro e w1 ⟨rfl, b1⟩
      have q1 := (HB.out.ext b1).cell 1
      clear p1
      go_wp2
      go_ret
      exact ⟨ret_bool HF.out.symm, below_ext hW hW.size b1⟩
end Go.Proofs.Ytnljfhmdjhppmaa
