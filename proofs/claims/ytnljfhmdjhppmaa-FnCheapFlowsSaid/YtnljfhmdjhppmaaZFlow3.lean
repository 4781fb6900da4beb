/- FlowCost, FlowAmount, IsFlow: the contracts. -/
import Derived.Test.YtnljfhmdjhppmaaZFlow2
namespace Go.Proofs.Ytnljfhmdjhppmaa
open Go.RowKit

def flowCV (nodes : Int) (xs : List ArcR) (fl : List Int) : Int := if flowB nodes xs fl = true then costTo xs fl xs.length else 0
theorem flowCV_no {nodes : Int} {xs : List ArcR} {fl : List Int} (h : flowB nodes xs fl = false) : flowCV nodes xs fl = 0 := by unfold flowCV; rw [if_neg (by rw [h]; decide)]
theorem flowCV_yes {nodes : Int} {xs : List ArcR} {fl : List Int} (h : flowB nodes xs fl = true) : flowCV nodes xs fl = costTo xs fl xs.length := by unfold flowCV; rw [if_pos h]
def flowAB (nodes : Int) (xs : List ArcR) (fl : List Int) (from_ : Int) : Bool := flowB nodes xs fl && inB from_ 0 (nodes - 1)
def flowAV (nodes : Int) (xs : List ArcR) (fl : List Int) (from_ : Int) : Int := if flowAB nodes xs fl from_ = true then outTo xs fl from_ xs.length else 0
theorem flowAV_no {nodes : Int} {xs : List ArcR} {fl : List Int} {f : Int} (h : flowAB nodes xs fl f = false) : flowAV nodes xs fl f = 0 := by unfold flowAV; rw [if_neg (by rw [h]; decide)]
theorem flowAV_yes {nodes : Int} {xs : List ArcR} {fl : List Int} {f : Int} (h : flowAB nodes xs fl f = true) : flowAV nodes xs fl f = outTo xs fl f xs.length := by unfold flowAV; rw [if_pos h]
def balTo (xs : List ArcR) (fl : List Int) (a b : Int) (k : Nat) : Bool := (List.range k).all fun i => decide ((i : Int) = a) || (decide ((i : Int) = b) || decide (outTo xs fl i xs.length = 0))
theorem balTo_succ (xs : List ArcR) (fl : List Int) (a b : Int) (k : Nat) : balTo xs fl a b (k + 1) = (balTo xs fl a b k && (decide ((k : Int) = a) || (decide ((k : Int) = b) || decide (outTo xs fl k xs.length = 0)))) := by
  unfold balTo
  rw [List.range_succ, List.all_append]; simp
theorem balTo_stop {xs : List ArcR} {fl : List Int} {a b : Int} {k : Nat} (h1 : ¬ (k : Int) = a) (h2 : ¬ (k : Int) = b) (h3 : ¬ outTo xs fl k xs.length = 0) : ∀ d, balTo xs fl a b (k + 1 + d) = false
  | 0 => by rw [Nat.add_zero, balTo_succ]; simp [h1, h2, h3]
  | d + 1 => by rw [← Nat.add_assoc, balTo_succ, balTo_stop h1 h2 h3 d, Bool.false_and]
/-- a list is a flow from a node to another one -/
def isFlowB (nodes : Int) (xs : List ArcR) (fl : List Int) (a b : Int) : Bool := flowB nodes xs fl && (inB a 0 (nodes - 1) && (inB b 0 (nodes - 1) && (decide (a ≠ b) && balTo xs fl a b nodes.toNat)))
theorem flow_cost_bd {nodes : Int} {xs : List ArcR} {fl : List Int} {n : Nat} (hl : xs.length = n) (h : flowB nodes xs fl = true) : n ≤ 48 ∧ fl.length = n ∧ ∀ k, k < n → (0 ≤ fl.getD k 0 ∧ fl.getD k 0 ≤ 1000000) ∧ (-1000 ≤ (xs.getD k default).cost ∧ (xs.getD k default).cost ≤ 1000) := by
  subst hl
  obtain ⟨h1, h2, h3⟩ := flow_bd h
  obtain ⟨_, _, h4, h5⟩ := valid_bd h1
  exact ⟨h4, h2, fun k hk => ⟨⟨(h3 k hk).1, (h3 k hk).2.2⟩, (h5 k hk).2.2.2.2⟩⟩

set_option maxRecDepth 100000 in
theorem specFlowCost_r (nodes : Int) (A : Option Addr) (n c : Nat) (xs : List ArcR) (B : Option Addr) (m d : Nat) (fl : List Int) (w : World) (h : ArcsAt w A n xs) (hn0 : n ≤ maxLen) (hy : IntsAt w B m fl) (hm0 : m ≤ 1048576) :
    Calls Try.prog 21 #[.agg #[.int .i64 nodes, .slice A n c], .slice B m d] w (RetV (.tuple #[.int .i64 (flowCV nodes xs fl), .bool (flowB nodes xs fl)]) w) := by
  have HX := Lib.hid h.len
  have HY := Lib.hid hy.len
  have hW : Below w.heap.size w (w.alloc (.cells #[.int .i64 nodes, .slice A n c] 26)) := (Below.refl _ _).alloc (Nat.le_refl _) _
  have h3 := h.alloc (.cells #[.int .i64 nodes, .slice A n c] 26)
  have hy3 := hy.alloc (.cells #[.int .i64 nodes, .slice A n c] 26)
  have HB := Lib.hid (Blk.new w 26 #[.int .i64 nodes, .slice A n c])
  clear h hy
  cases hf : flowB nodes xs fl
  · have HV := Lib.hid (flowCV_no hf)
    go_enter Try.func21, Try.ntmps21
    go_wp2_with fail
    generalize w.alloc (.cells #[.int .i64 nodes, .slice A n c] 26) = W at *
    refine (l03Flow_any _ nodes A n c xs B m d fl _ HB.out h3 hn0 hy3 hm0).mono ?_
    rw [hf]
    rintro e w1 ⟨rfl, hd⟩
    go_wp2_with fail
    go_ret2
    exact ⟨ret_IB HV.out.symm rfl, below_ext hW hW.size hd.below⟩
  · have HV := Lib.hid (flowCV_yes hf)
    obtain ⟨b1, b2, b3⟩ := flow_cost_bd HX.out hf
    have HBD := Lib.hid b3
    have hmn : m = n := by rw [← HY.out, b2]
    clear b2 b3
    subst hmn
    go_enter Try.func21, Try.ntmps21
    go_wp2_with fail
    generalize w.alloc (.cells #[.int .i64 nodes, .slice A m c] 26) = W at *
    refine (l03Flow_any _ nodes A m c xs B m d fl _ HB.out h3 hn0 hy3 hm0).mono ?_
    rw [hf]
    rintro e w1 ⟨rfl, hd⟩
    go_wp2_with fail
    refine (l03Cost_any _ nodes A m c xs B d fl _ (HB.out.ext hd.below) (h3.drewTo hd) b1 (hy3.drewTo hd) HBD.out).mono ?_
    rintro e w2 ⟨rfl, hd2⟩
    go_wp2_with fail
    go_ret2
    exact ⟨ret_IB (by rw [HV.out, HX.out]) rfl, below_ext hW hW.size (hd.trans hd2).below⟩
set_option maxRecDepth 100000 in
theorem implFlowCost_r (nodes : Int) (A : Option Addr) (n c : Nat) (xs : List ArcR) (B : Option Addr) (m d : Nat) (fl : List Int) (w : World) (h : ArcsAt w A n xs) (hn0 : n ≤ maxLen) (hy : IntsAt w B m fl) (hm0 : m ≤ 1048576) :
    Calls Try.prog 17 #[.agg #[.int .i64 nodes, .slice A n c], .slice B m d] w (RetV (.tuple #[.int .i64 (flowCV nodes xs fl), .bool (flowB nodes xs fl)]) w) := by
  have HX := Lib.hid h.len
  have HY := Lib.hid hy.len
  have hW : Below w.heap.size w (w.alloc (.cells #[.int .i64 nodes, .slice A n c] 26)) := (Below.refl _ _).alloc (Nat.le_refl _) _
  have h3 := h.alloc (.cells #[.int .i64 nodes, .slice A n c] 26)
  have hy3 := hy.alloc (.cells #[.int .i64 nodes, .slice A n c] 26)
  have hb := Blk.new w 26 #[.int .i64 nodes, .slice A n c]
  have HB := Lib.hid hb
  clear h hy hb
  cases hf : flowB nodes xs fl
  · have HV := Lib.hid (flowCV_no hf)
    go_enter Try.func17, Try.ntmps17
    go_wp2_with fail
    generalize w.alloc (.cells #[.int .i64 nodes, .slice A n c] 26) = W at *
    refine (isFlowing_any nodes A n c xs B m d fl _ h3 hn0 hy3 hm0).mono ?_
    rw [hf]
    rintro e w1 ⟨rfl, b1⟩
    go_wp2_with fail
    go_ret2
    exact ⟨ret_IB HV.out.symm rfl, below_ext hW hW.size b1⟩
  · have HV := Lib.hid (flowCV_yes hf)
    obtain ⟨b1, b2, b3⟩ := flow_cost_bd HX.out hf
    have HBD := Lib.hid b3
    have hmn : m = n := by rw [← HY.out, b2]
    clear b2 b3
    subst hmn
    go_enter Try.func17, Try.ntmps17
    go_wp2_with fail
    generalize w.alloc (.cells #[.int .i64 nodes, .slice A m c] 26) = W at *
    refine (isFlowing_any nodes A m c xs B m d fl _ h3 hn0 hy3 hm0).mono ?_
    rw [hf]
    rintro e w1 ⟨rfl, e1⟩
    have q0 := (HB.out.ext e1).cell 0
    have q1 := (HB.out.ext e1).cell 1
    go_wp2_with fail
    refine (netCost_any nodes A m c xs B d fl _ (h3.below e1) b1 (hy3.below e1) HBD.out).mono ?_
    rintro e w2 ⟨rfl, e2⟩
    go_wp2_with fail
    go_ret2
    exact ⟨ret_IB (by rw [HV.out, HX.out]) rfl, below_ext hW hW.size (ext_trans e1 e2)⟩

set_option maxRecDepth 100000 in
theorem specFlowAmount_r (nodes : Int) (A : Option Addr) (n c : Nat) (xs : List ArcR) (B : Option Addr) (m d : Nat) (fl : List Int) (f : Int) (w : World) (h : ArcsAt w A n xs) (hn0 : n ≤ maxLen) (hy : IntsAt w B m fl) (hm0 : m ≤ 1048576) :
    Calls Try.prog 18 #[.agg #[.int .i64 nodes, .slice A n c], .slice B m d, .int .i64 f] w (RetV (.tuple #[.int .i64 (flowAV nodes xs fl f), .bool (flowAB nodes xs fl f)]) w) := by
  have HX := Lib.hid h.len
  have HY := Lib.hid hy.len
  have hW : Below w.heap.size w (w.alloc (.cells #[.int .i64 nodes, .slice A n c] 26)) := (Below.refl _ _).alloc (Nat.le_refl _) _
  have h3 := h.alloc (.cells #[.int .i64 nodes, .slice A n c] 26)
  have hy3 := hy.alloc (.cells #[.int .i64 nodes, .slice A n c] 26)
  have HB := Lib.hid (Blk.new w 26 #[.int .i64 nodes, .slice A n c])
  clear h hy
  cases hf : flowB nodes xs fl
  · have HA := Lib.hid (show flowAB nodes xs fl f = false by unfold flowAB; rw [hf]; rfl)
    have HV := Lib.hid (flowAV_no HA.out)
    go_enter Try.func18, Try.ntmps18
    go_wp2_with fail
    generalize w.alloc (.cells #[.int .i64 nodes, .slice A n c] 26) = W at *
    refine (l03Flow_any _ nodes A n c xs B m d fl _ HB.out h3 hn0 hy3 hm0).mono ?_
    rw [hf]
    rintro e w1 ⟨rfl, hd⟩
    go_wp2_with fail
    go_ret2
    exact ⟨ret_IB HV.out.symm HA.out.symm, below_ext hW hW.size hd.below⟩
  · obtain ⟨b1, b2, b3⟩ := flow_cost_bd HX.out hf
    have HBD := Lib.hid b3
    have hmn : m = n := by rw [← HY.out, b2]
    obtain ⟨n0, n1, _⟩ := valid_bd (flow_bd hf).1
    clear b2 b3
    subst hmn
    cases hin : inB f 0 (nodes - 1)
    · have HA := Lib.hid (show flowAB nodes xs fl f = false by unfold flowAB; rw [hf, hin]; rfl)
      have HV := Lib.hid (flowAV_no HA.out)
      go_enter Try.func18, Try.ntmps18
      go_wp2_with fail
      generalize w.alloc (.cells #[.int .i64 nodes, .slice A m c] 26) = W at *
      refine (l03Flow_any _ nodes A m c xs B m d fl _ HB.out h3 hn0 hy3 hm0).mono ?_
      rw [hf]
      rintro e w1 ⟨rfl, hd⟩
      have q0 := (HB.out.ext hd.below).cell 0
      go_wp2_with (go_at_call 52; refine (l00In_any _ _ _ _).mono ?_; rw [hin]; rintro e w' ⟨rfl, rfl⟩)
      go_ret2
      exact ⟨ret_IB HV.out.symm HA.out.symm, below_ext hW hW.size hd.below⟩
    · have HA := Lib.hid (show flowAB nodes xs fl f = true by unfold flowAB; rw [hf, hin]; rfl)
      have HV := Lib.hid (flowAV_yes HA.out)
      go_enter Try.func18, Try.ntmps18
      go_wp2_with fail
      generalize w.alloc (.cells #[.int .i64 nodes, .slice A m c] 26) = W at *
      refine (l03Flow_any _ nodes A m c xs B m d fl _ HB.out h3 hn0 hy3 hm0).mono ?_
      rw [hf]
      rintro e w1 ⟨rfl, hd⟩
      have q0 := (HB.out.ext hd.below).cell 0
      go_wp2_with (go_at_call 52; refine (l00In_any _ _ _ _).mono ?_; rw [hin]; rintro e w' ⟨rfl, rfl⟩)
      refine (l03Out_any _ nodes A m c xs B d fl f _ (HB.out.ext hd.below) (h3.drewTo hd) b1 (hy3.drewTo hd) (fun k hk => (HBD.out k hk).1)).mono ?_
      rintro e w2 ⟨rfl, rfl⟩
      go_wp2_with fail
      go_ret2
      exact ⟨ret_IB (by rw [HV.out, HX.out]) HA.out.symm, below_ext hW hW.size hd.below⟩
set_option maxRecDepth 100000 in
theorem implFlowAmount_r (nodes : Int) (A : Option Addr) (n c : Nat) (xs : List ArcR) (B : Option Addr) (m d : Nat) (fl : List Int) (f : Int) (w : World) (h : ArcsAt w A n xs) (hn0 : n ≤ maxLen) (hy : IntsAt w B m fl) (hm0 : m ≤ 1048576) :
    Calls Try.prog 36 #[.agg #[.int .i64 nodes, .slice A n c], .slice B m d, .int .i64 f] w (RetV (.tuple #[.int .i64 (flowAV nodes xs fl f), .bool (flowAB nodes xs fl f)]) w) := by
  have HX := Lib.hid h.len
  have HY := Lib.hid hy.len
  have hW : Below w.heap.size w (w.alloc (.cells #[.int .i64 nodes, .slice A n c] 26)) := (Below.refl _ _).alloc (Nat.le_refl _) _
  have h3 := h.alloc (.cells #[.int .i64 nodes, .slice A n c] 26)
  have hy3 := hy.alloc (.cells #[.int .i64 nodes, .slice A n c] 26)
  have HB := Lib.hid (Blk.new w 26 #[.int .i64 nodes, .slice A n c])
  clear h hy
  cases hf : flowB nodes xs fl
  · have HA := Lib.hid (show flowAB nodes xs fl f = false by unfold flowAB; rw [hf]; rfl)
    have HV := Lib.hid (flowAV_no HA.out)
    go_enter Try.func36, Try.ntmps36
    go_wp2_with fail
    generalize w.alloc (.cells #[.int .i64 nodes, .slice A n c] 26) = W at *
    refine (isFlowing_any nodes A n c xs B m d fl _ h3 hn0 hy3 hm0).mono ?_
    rw [hf]
    rintro e w1 ⟨rfl, b1⟩
    go_wp2_with fail
    go_ret2
    exact ⟨ret_IB HV.out.symm HA.out.symm, below_ext hW hW.size b1⟩
  · obtain ⟨b1, b2, b3⟩ := flow_cost_bd HX.out hf
    have HBD := Lib.hid b3
    have hmn : m = n := by rw [← HY.out, b2]
    obtain ⟨n0, n1, _⟩ := valid_bd (flow_bd hf).1
    clear b2 b3
    subst hmn
    cases hin : inB f 0 (nodes - 1)
    · have HA := Lib.hid (show flowAB nodes xs fl f = false by unfold flowAB; rw [hf, hin]; rfl)
      have HV := Lib.hid (flowAV_no HA.out)
      go_enter Try.func36, Try.ntmps36
      go_wp2_with fail
      generalize w.alloc (.cells #[.int .i64 nodes, .slice A m c] 26) = W at *
      refine (isFlowing_any nodes A m c xs B m d fl _ h3 hn0 hy3 hm0).mono ?_
      rw [hf]
      rintro e w1 ⟨rfl, e1⟩
      have q0 := (HB.out.ext e1).cell 0
      have q1 := (HB.out.ext e1).cell 1
      go_wp2_with fail
      refine (isNode_any nodes f _ _ (by omega) (by omega)).mono ?_
      rw [hin]
      rintro e w2 ⟨rfl, e2⟩
      go_wp2_with fail
      go_ret2
      exact ⟨ret_IB HV.out.symm HA.out.symm, below_ext hW hW.size (ext_trans e1 e2)⟩
    · have HA := Lib.hid (show flowAB nodes xs fl f = true by unfold flowAB; rw [hf, hin]; rfl)
      have HV := Lib.hid (flowAV_yes HA.out)
      go_enter Try.func36, Try.ntmps36
      go_wp2_with fail
      generalize w.alloc (.cells #[.int .i64 nodes, .slice A m c] 26) = W at *
      refine (isFlowing_any nodes A m c xs B m d fl _ h3 hn0 hy3 hm0).mono ?_
      rw [hf]
      rintro e w1 ⟨rfl, e1⟩
      have q0 := (HB.out.ext e1).cell 0
      have q1 := (HB.out.ext e1).cell 1
      go_wp2_with fail
      refine (isNode_any nodes f _ _ (by omega) (by omega)).mono ?_
      rw [hin]
      rintro e w2 ⟨rfl, e2⟩
      have e3 := ext_trans e1 e2
      clear q0 q1
      have q0 := (HB.out.ext e3).cell 0
      have q1 := (HB.out.ext e3).cell 1
      go_wp2_with fail
      refine (netOut_any nodes A m c xs B d fl f _ (h3.below e3) b1 (hy3.below e3) (fun k hk => (HBD.out k hk).1)).mono ?_
      rintro e w3 ⟨rfl, e4⟩
      go_wp2_with fail
      go_ret2
      exact ⟨ret_IB (by rw [HV.out, HX.out]) HA.out.symm, below_ext hW hW.size (ext_trans e3 e4)⟩

theorem isFlowB_no1 {nodes : Int} {xs : List ArcR} {fl : List Int} {a b : Int} (h : flowB nodes xs fl = false) : isFlowB nodes xs fl a b = false := by simp [isFlowB, h]
theorem isFlowB_no2 {nodes : Int} {xs : List ArcR} {fl : List Int} {a b : Int} (h : inB a 0 (nodes - 1) = false) : isFlowB nodes xs fl a b = false := by simp [isFlowB, h]
theorem isFlowB_no3 {nodes : Int} {xs : List ArcR} {fl : List Int} {a b : Int} (h : inB b 0 (nodes - 1) = false) : isFlowB nodes xs fl a b = false := by simp [isFlowB, h]
theorem isFlowB_no4 {nodes : Int} {xs : List ArcR} {fl : List Int} {a b : Int} (h : a = b) : isFlowB nodes xs fl a b = false := by simp [isFlowB, h]
theorem isFlowB_yes {nodes : Int} {xs : List ArcR} {fl : List Int} {a b : Int} (h1 : flowB nodes xs fl = true) (h2 : inB a 0 (nodes - 1) = true) (h3 : inB b 0 (nodes - 1) = true) (h4 : ¬ a = b) : isFlowB nodes xs fl a b = balTo xs fl a b nodes.toNat := by simp [isFlowB, h1, h2, h3, h4]
def endsB (nodes : Int) (xs : List ArcR) (a b : Int) : Bool := validB nodes xs && (inB a 0 (nodes - 1) && (inB b 0 (nodes - 1) && decide (a ≠ b)))

set_option maxRecDepth 100000 in
theorem areEnds_any (nodes : Int) (A : Option Addr) (n c : Nat) (xs : List ArcR) (a b : Int) (w : World) (h : ArcsAt w A n xs) (hn0 : n ≤ maxLen) :
    Calls Try.prog 44 #[.agg #[.int .i64 nodes, .slice A n c], .int .i64 a, .int .i64 b] w (RetV (.bool (endsB nodes xs a b)) w) := by
  have HX := Lib.hid h.len
  have hW : Below w.heap.size w (w.alloc (.cells #[.int .i64 nodes, .slice A n c] 26)) := (Below.refl _ _).alloc (Nat.le_refl _) _
  have h3 := h.alloc (.cells #[.int .i64 nodes, .slice A n c] 26)
  have HB := Lib.hid (Blk.new w 26 #[.int .i64 nodes, .slice A n c])
  clear h
  cases hv : validB nodes xs
  · have HE := Lib.hid (show endsB nodes xs a b = false by simp [endsB, hv])
    go_enter Try.func44, Try.ntmps44
    go_wp2_with fail
    generalize w.alloc (.cells #[.int .i64 nodes, .slice A n c] 26) = W at *
    refine (implValidNet_r nodes A n c xs _ h3 hn0).mono ?_
    rw [hv]
    rintro e w1 ⟨rfl, e1⟩
    go_wp2_with fail
    go_ret
    exact ⟨ret_bool HE.out.symm, below_ext hW hW.size e1⟩
  · obtain ⟨n0, n1, _⟩ := valid_bd hv
    cases i1 : inB a 0 (nodes - 1)
    · have HE := Lib.hid (show endsB nodes xs a b = false by simp [endsB, i1])
      go_enter Try.func44, Try.ntmps44
      go_wp2_with fail
      generalize w.alloc (.cells #[.int .i64 nodes, .slice A n c] 26) = W at *
      refine (implValidNet_r nodes A n c xs _ h3 hn0).mono ?_
      rw [hv]
      rintro e w1 ⟨rfl, e1⟩
      have q0 := (HB.out.ext e1).cell 0
      have q1 := (HB.out.ext e1).cell 1
      go_wp2_with fail
      refine (isNode_any nodes a _ _ (by omega) (by omega)).mono ?_
      rw [i1]
      rintro e w2 ⟨rfl, e2⟩
      go_wp2_with fail
      go_ret
      exact ⟨ret_bool HE.out.symm, below_ext hW hW.size (ext_trans e1 e2)⟩
    · cases i2 : inB b 0 (nodes - 1)
      · have HE := Lib.hid (show endsB nodes xs a b = false by simp [endsB, i2])
        go_enter Try.func44, Try.ntmps44
        go_wp2_with fail
        generalize w.alloc (.cells #[.int .i64 nodes, .slice A n c] 26) = W at *
        refine (implValidNet_r nodes A n c xs _ h3 hn0).mono ?_
        rw [hv]
        rintro e w1 ⟨rfl, e1⟩
        have q0 := (HB.out.ext e1).cell 0
        have q1 := (HB.out.ext e1).cell 1
        go_wp2_with fail
        refine (isNode_any nodes a _ _ (by omega) (by omega)).mono ?_
        rw [i1]
        rintro e w2 ⟨rfl, e2⟩
        replace e2 := ext_trans e1 e2
        clear q0 q1
        have q0 := (HB.out.ext e2).cell 0
        have q1 := (HB.out.ext e2).cell 1
        go_wp2_with fail
        refine (isNode_any nodes b _ _ (by omega) (by omega)).mono ?_
        rw [i2]
        rintro e w3 ⟨rfl, e3⟩
        go_wp2_with fail
        go_ret
        exact ⟨ret_bool HE.out.symm, below_ext hW hW.size (ext_trans e2 e3)⟩
      · have hd : (a != b) = decide (a ≠ b) := by rw [Bool.eq_iff_iff]; simp
        have HE := Lib.hid (show endsB nodes xs a b = (a != b) by rw [hd]; simp [endsB, i2, i1, hv])
        clear hd
        go_enter Try.func44, Try.ntmps44
        go_wp2_with fail
        generalize w.alloc (.cells #[.int .i64 nodes, .slice A n c] 26) = W at *
        refine (implValidNet_r nodes A n c xs _ h3 hn0).mono ?_
        rw [hv]
        rintro e w1 ⟨rfl, e1⟩
        have q0 := (HB.out.ext e1).cell 0
        have q1 := (HB.out.ext e1).cell 1
        go_wp2_with fail
        refine (isNode_any nodes a _ _ (by omega) (by omega)).mono ?_
        rw [i1]
        rintro e w2 ⟨rfl, e2⟩
        replace e2 := ext_trans e1 e2
        clear q0 q1
        have q0 := (HB.out.ext e2).cell 0
        have q1 := (HB.out.ext e2).cell 1
        go_wp2_with fail
        refine (isNode_any nodes b _ _ (by omega) (by omega)).mono ?_
        rw [i2]
        rintro e w3 ⟨rfl, e3⟩
        go_wp2_with fail
        go_ret
        exact ⟨ret_bool HE.out.symm, below_ext hW hW.size (ext_trans e2 e3)⟩

set_option maxRecDepth 100000 in
set_option maxHeartbeats 1600000 in
theorem specIsFlow_r (nodes : Int) (A : Option Addr) (n c : Nat) (xs : List ArcR) (B : Option Addr) (m d : Nat) (fl : List Int) (a b : Int) (w : World) (h : ArcsAt w A n xs) (hn0 : n ≤ maxLen) (hy : IntsAt w B m fl) (hm0 : m ≤ 1048576) :
    Calls Try.prog 16 #[.agg #[.int .i64 nodes, .slice A n c], .slice B m d, .int .i64 a, .int .i64 b] w (RetV (.bool (isFlowB nodes xs fl a b)) w) := by
  have HX := Lib.hid h.len
  have HY := Lib.hid hy.len
  have hW : Below w.heap.size w (w.alloc (.cells #[.int .i64 nodes, .slice A n c] 26)) := (Below.refl _ _).alloc (Nat.le_refl _) _
  have h3 := h.alloc (.cells #[.int .i64 nodes, .slice A n c] 26)
  have hy3 := hy.alloc (.cells #[.int .i64 nodes, .slice A n c] 26)
  have HB := Lib.hid (Blk.new w 26 #[.int .i64 nodes, .slice A n c])
  clear h hy
  cases hf : flowB nodes xs fl
  · have HA := Lib.hid (isFlowB_no1 (a := a) (b := b) hf)
    go_enter Try.func16, Try.ntmps16
    go_wp2_with fail
    generalize w.alloc (.cells #[.int .i64 nodes, .slice A n c] 26) = W at *
    refine (l03Flow_any _ nodes A n c xs B m d fl _ HB.out h3 hn0 hy3 hm0).mono ?_
    rw [hf]
    rintro e w1 ⟨rfl, hd⟩
    go_wp2_with fail
    go_ret
    exact ⟨ret_bool HA.out.symm, below_ext hW hW.size hd.below⟩
  · obtain ⟨b1, b2, b3⟩ := flow_cost_bd HX.out hf
    have HBD := Lib.hid b3
    have hmn : m = n := by rw [← HY.out, b2]
    obtain ⟨n0, n1, _⟩ := valid_bd (flow_bd hf).1
    clear b2 b3
    subst hmn
    by_cases hok : inB a 0 (nodes - 1) = true ∧ inB b 0 (nodes - 1) = true ∧ ¬ a = b
    · obtain ⟨i1, i2, i3⟩ := hok
      have HA := Lib.hid (isFlowB_yes hf i1 i2 i3)
      have i3b : (a == b) = false := by rw [beq_eq_false_iff_ne]; exact i3
      clear i3
      go_enter Try.func16, Try.ntmps16
      go_wp2_with fail
      generalize w.alloc (.cells #[.int .i64 nodes, .slice A m c] 26) = W at *
      refine (l03Flow_any _ nodes A m c xs B m d fl _ HB.out h3 hn0 hy3 hm0).mono ?_
      rw [hf]
      rintro e w1 ⟨rfl, hd⟩
      have q0 := (HB.out.ext hd.below).cell 0
      go_wp2_with fail
      refine (l00In_any _ _ _ _).mono ?_
      rw [i1]
      rintro e w' ⟨rfl, rfl⟩
      go_wp2_with fail
      refine (l00In_any _ _ _ _).mono ?_
      rw [i2]
      rintro e w' ⟨rfl, rfl⟩
      go_wp2_with fail
      go_loop [9] (fun i => ∃ k : Nat, (k : Int) ≤ nodes ∧ i = .int .i64 k ∧ Hid (balTo xs fl a b k = true)) (fun i => nodes.toNat - (intOf i).toNat)
      case atStart => exact ⟨0, by omega, rfl, Lib.hid rfl⟩
      case round =>
        obtain ⟨k, hk, rfl, hall⟩ := hrel
        by_cases hlt : (k : Int) < nodes
        · have HS := Lib.hid (balTo_succ xs fl a b k)
          by_cases e1 : (k : Int) = a
          · have e1b : ((k : Int) != a) = false := by rw [e1]; simp
            have HE := Lib.hid (show balTo xs fl a b (k + 1) = true by rw [HS.out, hall.out]; simp [e1])
            clear e1
            go_wp2_with fail
            go_round
            case rel => exact ⟨k + 1, by omega, by go_num, HE⟩
            case measure => simp [intOf]; omega
          · have e1b : ((k : Int) != a) = true := by rw [bne_iff_ne]; exact e1
            by_cases e2 : (k : Int) = b
            · have e2b : ((k : Int) != b) = false := by rw [e2]; simp
              have HE := Lib.hid (show balTo xs fl a b (k + 1) = true by rw [HS.out, hall.out]; simp [e2])
              clear e1 e2
              go_wp2_with fail
              go_round
              case rel => exact ⟨k + 1, by omega, by go_num, HE⟩
              case measure => simp [intOf]; omega
            · have e2b : ((k : Int) != b) = true := by rw [bne_iff_ne]; exact e2
              by_cases e3 : outTo xs fl k m = 0
              · have e3b : (outTo xs fl k m != 0) = false := by rw [e3]; rfl
                have HE := Lib.hid (show balTo xs fl a b (k + 1) = true by rw [HS.out, hall.out, HX.out]; simp [e3])
                clear e1 e2 e3
                go_wp2_with fail
                refine (l03Out_any _ nodes A m c xs B d fl _ _ (HB.out.ext hd.below) (h3.drewTo hd) b1 (hy3.drewTo hd) (fun k hk => (HBD.out k hk).1)).mono ?_
                rintro e w2 ⟨rfl, rfl⟩
                go_wp2_with fail
                go_round
                case rel => exact ⟨k + 1, by omega, by go_num, HE⟩
                case measure => simp [intOf]; omega
              · have e3b : (outTo xs fl k m != 0) = true := by rw [bne_iff_ne]; exact e3
                have HE := Lib.hid (show balTo xs fl a b nodes.toNat = false by
                  rw [show nodes.toNat = k + 1 + (nodes.toNat - (k + 1)) from by omega]
                  exact balTo_stop e1 e2 (by rw [HX.out]; exact e3) _)
                clear e1 e2 e3
                go_wp2_with fail
                refine (l03Out_any _ nodes A m c xs B d fl _ _ (HB.out.ext hd.below) (h3.drewTo hd) b1 (hy3.drewTo hd) (fun k hk => (HBD.out k hk).1)).mono ?_
                rintro e w2 ⟨rfl, rfl⟩
                go_wp2_with fail
                go_ret
                exact ⟨ret_bool (by rw [HA.out, HE.out]), below_ext hW hW.size hd.below⟩
        · have e : nodes.toNat = k := by omega
          have HE := Lib.hid (show balTo xs fl a b nodes.toNat = true by rw [e]; exact hall.out)
          clear e
          go_wp2_with fail
          go_ret
          exact ⟨ret_bool (by rw [HA.out, HE.out]), below_ext hW hW.size hd.below⟩
    · have HA := Lib.hid (show isFlowB nodes xs fl a b = false by
        cases i1 : inB a 0 (nodes - 1)
        · exact isFlowB_no2 i1
        · cases i2 : inB b 0 (nodes - 1)
          · exact isFlowB_no3 i2
          · by_cases i3 : a = b
            · exact isFlowB_no4 i3
            · exact absurd ⟨i1, i2, i3⟩ hok)
      cases i1 : inB a 0 (nodes - 1)
      · go_enter Try.func16, Try.ntmps16
        go_wp2_with fail
        generalize w.alloc (.cells #[.int .i64 nodes, .slice A m c] 26) = W at *
        refine (l03Flow_any _ nodes A m c xs B m d fl _ HB.out h3 hn0 hy3 hm0).mono ?_
        rw [hf]
        rintro e w1 ⟨rfl, hd⟩
        have q0 := (HB.out.ext hd.below).cell 0
        go_wp2_with fail
        refine (l00In_any _ _ _ _).mono ?_
        rw [i1]
        rintro e w' ⟨rfl, rfl⟩
        go_wp2_with fail
        go_ret
        exact ⟨ret_bool HA.out.symm, below_ext hW hW.size hd.below⟩
      · cases i2 : inB b 0 (nodes - 1)
        · go_enter Try.func16, Try.ntmps16
          go_wp2_with fail
          generalize w.alloc (.cells #[.int .i64 nodes, .slice A m c] 26) = W at *
          refine (l03Flow_any _ nodes A m c xs B m d fl _ HB.out h3 hn0 hy3 hm0).mono ?_
          rw [hf]
          rintro e w1 ⟨rfl, hd⟩
          have q0 := (HB.out.ext hd.below).cell 0
          go_wp2_with fail
          refine (l00In_any _ _ _ _).mono ?_
          rw [i1]
          rintro e w' ⟨rfl, rfl⟩
          go_wp2_with fail
          refine (l00In_any _ _ _ _).mono ?_
          rw [i2]
          rintro e w' ⟨rfl, rfl⟩
          go_wp2_with fail
          go_ret
          exact ⟨ret_bool HA.out.symm, below_ext hW hW.size hd.below⟩
        · have i3b : (a == b) = true := by
            rw [beq_iff_eq]
            exact Decidable.byContradiction fun i3 => hok ⟨i1, i2, i3⟩
          clear hok
          go_enter Try.func16, Try.ntmps16
          go_wp2_with fail
          generalize w.alloc (.cells #[.int .i64 nodes, .slice A m c] 26) = W at *
          refine (l03Flow_any _ nodes A m c xs B m d fl _ HB.out h3 hn0 hy3 hm0).mono ?_
          rw [hf]
          rintro e w1 ⟨rfl, hd⟩
          have q0 := (HB.out.ext hd.below).cell 0
          go_wp2_with fail
          refine (l00In_any _ _ _ _).mono ?_
          rw [i1]
          rintro e w' ⟨rfl, rfl⟩
          go_wp2_with fail
          refine (l00In_any _ _ _ _).mono ?_
          rw [i2]
          rintro e w' ⟨rfl, rfl⟩
          go_wp2_with fail
          go_ret
          exact ⟨ret_bool HA.out.symm, below_ext hW hW.size hd.below⟩

set_option maxRecDepth 100000 in
set_option maxHeartbeats 1600000 in
theorem implIsFlow_r (nodes : Int) (A : Option Addr) (n c : Nat) (xs : List ArcR) (B : Option Addr) (m d : Nat) (fl : List Int) (a b : Int) (w : World) (h : ArcsAt w A n xs) (hn0 : n ≤ maxLen) (hy : IntsAt w B m fl) (hm0 : m ≤ 1048576) :
    Calls Try.prog 35 #[.agg #[.int .i64 nodes, .slice A n c], .slice B m d, .int .i64 a, .int .i64 b] w (RetV (.bool (isFlowB nodes xs fl a b)) w) := by
  have HX := Lib.hid h.len
  have HY := Lib.hid hy.len
  have hW : Below w.heap.size w (w.alloc (.cells #[.int .i64 nodes, .slice A n c] 26)) := (Below.refl _ _).alloc (Nat.le_refl _) _
  have h3 := h.alloc (.cells #[.int .i64 nodes, .slice A n c] 26)
  have hy3 := hy.alloc (.cells #[.int .i64 nodes, .slice A n c] 26)
  have HB := Lib.hid (Blk.new w 26 #[.int .i64 nodes, .slice A n c])
  clear h hy
  cases hf : flowB nodes xs fl
  · have HA := Lib.hid (isFlowB_no1 (a := a) (b := b) hf)
    go_enter Try.func35, Try.ntmps35
    go_wp2_with fail
    generalize w.alloc (.cells #[.int .i64 nodes, .slice A n c] 26) = W at *
    refine (isFlowing_any nodes A n c xs B m d fl _ h3 hn0 hy3 hm0).mono ?_
    rw [hf]
    rintro e w1 ⟨rfl, e1⟩
    go_wp2_with fail
    go_ret
    exact ⟨ret_bool HA.out.symm, below_ext hW hW.size e1⟩
  · obtain ⟨b1, b2, b3⟩ := flow_cost_bd HX.out hf
    have HBD := Lib.hid b3
    have hmn : m = n := by rw [← HY.out, b2]
    have hv := (flow_bd hf).1
    obtain ⟨n0, n1, _⟩ := valid_bd hv
    clear b2 b3
    subst hmn
    cases hends : endsB nodes xs a b
    · have HA := Lib.hid (show isFlowB nodes xs fl a b = false by
        cases i1 : inB a 0 (nodes - 1)
        · exact isFlowB_no2 i1
        · cases i2 : inB b 0 (nodes - 1)
          · exact isFlowB_no3 i2
          · by_cases i3 : a = b
            · exact isFlowB_no4 i3
            · rw [endsB, hv, i1, i2] at hends
              simp [i3] at hends)
      clear hv
      go_enter Try.func35, Try.ntmps35
      go_wp2_with fail
      generalize w.alloc (.cells #[.int .i64 nodes, .slice A m c] 26) = W at *
      refine (isFlowing_any nodes A m c xs B m d fl _ h3 hn0 hy3 hm0).mono ?_
      rw [hf]
      rintro e w1 ⟨rfl, e1⟩
      have q0 := (HB.out.ext e1).cell 0
      have q1 := (HB.out.ext e1).cell 1
      go_wp2_with fail
      refine (areEnds_any nodes A m c xs a b _ (h3.below e1) hn0).mono ?_
      rw [hends]
      rintro e w2 ⟨rfl, e2⟩
      go_wp2_with fail
      go_ret
      exact ⟨ret_bool HA.out.symm, below_ext hW hW.size (ext_trans e1 e2)⟩
    · have hends2 := hends
      simp only [endsB, Bool.and_eq_true, decide_eq_true_eq] at hends2
      obtain ⟨_, i1, i2, i3⟩ := hends2
      have HA := Lib.hid (isFlowB_yes hf i1 i2 i3)
      clear i1 i2 i3 hv
      go_enter Try.func35, Try.ntmps35
      go_wp2_with fail
      generalize w.alloc (.cells #[.int .i64 nodes, .slice A m c] 26) = W at *
      refine (isFlowing_any nodes A m c xs B m d fl _ h3 hn0 hy3 hm0).mono ?_
      rw [hf]
      rintro e w1 ⟨rfl, e1⟩
      have q0 := (HB.out.ext e1).cell 0
      have q1 := (HB.out.ext e1).cell 1
      go_wp2_with fail
      refine (areEnds_any nodes A m c xs a b _ (h3.below e1) hn0).mono ?_
      rw [hends]
      rintro e w2 ⟨rfl, e2⟩
      replace e2 := ext_trans e1 e2
      clear q0 q1 e1
      go_wp2_with fail
      go_loopg [9] nodes.toNat (fun r i wr => ∃ k : Nat, r = nodes.toNat - k ∧ (k : Int) ≤ nodes ∧ i = .int .i64 k ∧ Hid (balTo xs fl a b k = true) ∧ Below W.heap.size W wr)
      case atStart => exact ⟨0, by omega, by omega, rfl, Lib.hid rfl, e2⟩
      case round =>
        clear e2
        obtain ⟨k, hr, hk, rfl, hall, hd⟩ := hrel
        have HR := Lib.hid hr
        clear hr
        have q0 := (HB.out.ext hd).cell 0
        have q1 := (HB.out.ext hd).cell 1
        by_cases hlt : (k : Int) < nodes
        · have HS := Lib.hid (balTo_succ xs fl a b k)
          by_cases e1 : (k : Int) = a
          · have e1b : ((k : Int) != a) = false := by rw [e1]; simp
            have HE := Lib.hid (show balTo xs fl a b (k + 1) = true by rw [HS.out, hall.out]; simp [e1])
            clear e1
            go_wp2_with fail
            go_roundg (nodes.toNat - (k + 1))
            case measure => rw [HR.out]; omega
            case rel => exact ⟨k + 1, rfl, by omega, by go_num, HE, hd⟩
          · have e1b : ((k : Int) != a) = true := by rw [bne_iff_ne]; exact e1
            by_cases e2 : (k : Int) = b
            · have e2b : ((k : Int) != b) = false := by rw [e2]; simp
              have HE := Lib.hid (show balTo xs fl a b (k + 1) = true by rw [HS.out, hall.out]; simp [e2])
              clear e1 e2
              go_wp2_with fail
              go_roundg (nodes.toNat - (k + 1))
              case measure => rw [HR.out]; omega
              case rel => exact ⟨k + 1, rfl, by omega, by go_num, HE, hd⟩
            · have e2b : ((k : Int) != b) = true := by rw [bne_iff_ne]; exact e2
              by_cases e3 : outTo xs fl k m = 0
              · have e3b : (outTo xs fl k m != 0) = false := by rw [e3]; rfl
                have HE := Lib.hid (show balTo xs fl a b (k + 1) = true by rw [HS.out, hall.out, HX.out]; simp [e3])
                clear e1 e2 e3
                go_wp2_with fail
                refine (netOut_any nodes A m c xs B d fl _ _ (h3.below hd) b1 (hy3.below hd) (fun k hk => (HBD.out k hk).1)).mono ?_
                rintro e w2 ⟨rfl, e4⟩
                go_wp2_with fail
                go_roundg (nodes.toNat - (k + 1))
                case measure => rw [HR.out]; omega
                case rel => exact ⟨k + 1, rfl, by omega, by go_num, HE, ext_trans hd e4⟩
              · have e3b : (outTo xs fl k m != 0) = true := by rw [bne_iff_ne]; exact e3
                have HE := Lib.hid (show balTo xs fl a b nodes.toNat = false by
                  rw [show nodes.toNat = k + 1 + (nodes.toNat - (k + 1)) from by omega]
                  exact balTo_stop e1 e2 (by rw [HX.out]; exact e3) _)
                clear e1 e2 e3
                go_wp2_with fail
                refine (netOut_any nodes A m c xs B d fl _ _ (h3.below hd) b1 (hy3.below hd) (fun k hk => (HBD.out k hk).1)).mono ?_
                rintro e w2 ⟨rfl, e4⟩
                go_wp2_with fail
                go_ret
                exact ⟨ret_bool (by rw [HA.out, HE.out]), below_ext hW hW.size (ext_trans hd e4)⟩
        · have e : nodes.toNat = k := by omega
          have HE := Lib.hid (show balTo xs fl a b nodes.toNat = true by rw [e]; exact hall.out)
          clear e
          go_wp2_with fail
          go_ret
          exact ⟨ret_bool (by rw [HA.out, HE.out]), below_ext hW hW.size hd⟩
end Go.Proofs.Ytnljfhmdjhppmaa
