/- FlowCost, FlowAmount, IsFlow: the contracts. -/
import Derived.Test.YtpaahjeohigngaaJ2
namespace Go.Proofs.Ytpaahjeohigngaa
open Go.RowKit

def flowCV (nodes : Int) (xs : List ArcR) (fl : List Int) : Int := if flowB nodes xs fl = true then costTo xs fl xs.length else 0
theorem flowCV_no {nodes : Int} {xs : List ArcR} {fl : List Int} (h : flowB nodes xs fl = false) : flowCV nodes xs fl = 0 := by unfold flowCV; rw [if_neg (by rw [h]; decide)]
theorem flowCV_yes {nodes : Int} {xs : List ArcR} {fl : List Int} (h : flowB nodes xs fl = true) : flowCV nodes xs fl = costTo xs fl xs.length := by unfold flowCV; rw [if_pos h]
def flowAB (nodes : Int) (xs : List ArcR) (fl : List Int) (from_ : Int) : Bool := flowB nodes xs fl && inB from_ 0 (nodes - 1)
def flowAV (nodes : Int) (xs : List ArcR) (fl : List Int) (from_ : Int) : Int := if flowAB nodes xs fl from_ = true then outTo xs fl from_ xs.length else 0
theorem flowAV_no {nodes : Int} {xs : List ArcR} {fl : List Int} {f : Int} (h : flowAB nodes xs fl f = false) : flowAV nodes xs fl f = 0 := by unfold flowAV; rw [if_neg (by rw [h]; decide)]
theorem flowAV_yes {nodes : Int} {xs : List ArcR} {fl : List Int} {f : Int} (h : flowAB nodes xs fl f = true) : flowAV nodes xs fl f = outTo xs fl f xs.length := by unfold flowAV; rw [if_pos h]
def balTo (xs : List ArcR) (fl : List Int) (a b : Int) (k : Nat) : Bool := (List.range k).all fun i => decide ((i : Int) = a) || (decide ((i : Int) = b) || decide (outTo xs fl i xs.length = 0))
theorem balTo_succ (xs : List ArcR) (fl : List Int) (a b : Int) (k : Nat) : balTo xs fl a b (k + 1) = (balTo xs fl a b k && (decide ((k : Int) = a) || (decide ((k : Int) = b) || decide (outTo xs fl k xs.length = 0)))) := by
  unfold balTo
  rw [List.range_succ, List.all_append]; simp
theorem balTo_stop {xs : List ArcR} {fl : List Int} {a b : Int} {k : Nat} (h1 : ¬ (k : Int) = a) (h2 : ¬ (k : Int) = b) (h3 : ¬ outTo xs fl k xs.length = 0) : ∀ d, balTo xs fl a b (k + 1 + d) = false
  | 0 => by rw [Nat.add_zero, balTo_succ]; simp [h1, h2, h3]
  | d + 1 => by rw [← Nat.add_assoc, balTo_succ, balTo_stop h1 h2 h3 d, Bool.false_and]
/-- a list is a flow from a node to another one -/
def isFlowB (nodes : Int) (xs : List ArcR) (fl : List Int) (a b : Int) : Bool := flowB nodes xs fl && (inB a 0 (nodes - 1) && (inB b 0 (nodes - 1) && (decide (a ≠ b) && balTo xs fl a b nodes.toNat)))
theorem flow_cost_bd {nodes : Int} {xs : List ArcR} {fl : List Int} {n : Nat} (hl : xs.length = n) (h : flowB nodes xs fl = true) : n ≤ 48 ∧ fl.length = n ∧ ∀ k, k < n → (0 ≤ fl.getD k 0 ∧ fl.getD k 0 ≤ 1000000) ∧ (-1000 ≤ (xs.getD k default).cost ∧ (xs.getD k default).cost ≤ 1000) := by
  subst hl
  obtain ⟨h1, h2, h3⟩ := flow_bd h
  obtain ⟨_, _, h4, h5⟩ := valid_bd h1
  exact ⟨h4, h2, fun k hk => ⟨⟨(h3 k hk).1, (h3 k hk).2.2⟩, (h5 k hk).2.2.2.2⟩⟩



theorem isFlowB_no1 {nodes : Int} {xs : List ArcR} {fl : List Int} {a b : Int} (h : flowB nodes xs fl = false) : isFlowB nodes xs fl a b = false := by simp [isFlowB, h]
theorem isFlowB_no2 {nodes : Int} {xs : List ArcR} {fl : List Int} {a b : Int} (h : inB a 0 (nodes - 1) = false) : isFlowB nodes xs fl a b = false := by simp [isFlowB, h]
theorem isFlowB_no3 {nodes : Int} {xs : List ArcR} {fl : List Int} {a b : Int} (h : inB b 0 (nodes - 1) = false) : isFlowB nodes xs fl a b = false := by simp [isFlowB, h]
theorem isFlowB_no4 {nodes : Int} {xs : List ArcR} {fl : List Int} {a b : Int} (h : a = b) : isFlowB nodes xs fl a b = false := by simp [isFlowB, h]
theorem isFlowB_yes {nodes : Int} {xs : List ArcR} {fl : List Int} {a b : Int} (h1 : flowB nodes xs fl = true) (h2 : inB a 0 (nodes - 1) = true) (h3 : inB b 0 (nodes - 1) = true) (h4 : ¬ a = b) : isFlowB nodes xs fl a b = balTo xs fl a b nodes.toNat := by simp [isFlowB, h1, h2, h3, h4]
def endsB (nodes : Int) (xs : List ArcR) (a b : Int) : Bool := validB nodes xs && (inB a 0 (nodes - 1) && (inB b 0 (nodes - 1) && decide (a ≠ b)))

set_option maxRecDepth 100000 in
theorem areEnds_any (nodes : Int) (A : Option Addr) (n c : Nat) (xs : List ArcR) (a b : Int) (w : World) (h : ArcsAt w A n xs) (hn0 : n ≤ maxLen) :
    Calls Try.prog 36 #[.agg #[.int .i64 nodes, .slice A n c], .int .i64 a, .int .i64 b] w (RetV (.bool (endsB nodes xs a b)) w) := by
  have HX := Lib.hid h.len
  have hW : Below w.heap.size w (w.alloc (.cells #[.int .i64 nodes, .slice A n c] 26)) := (Below.refl _ _).alloc (Nat.le_refl _) _
  have h3 := h.alloc (.cells #[.int .i64 nodes, .slice A n c] 26)
  have HB := Lib.hid (Blk.new w 26 #[.int .i64 nodes, .slice A n c])
  clear h
  cases hv : validB nodes xs
  · have HE := Lib.hid (show endsB nodes xs a b = false by simp [endsB, hv])
    go_enter Try.func36, Try.ntmps36
    go_wp2_with fail
    generalize w.alloc (.cells #[.int .i64 nodes, .slice A n c] 26) = W at *
    refine (implValidNet_r nodes A n c xs _ h3 hn0).mono ?_
    rw [hv]
    rintro e w1 ⟨rfl, e1⟩
    go_wp2_with fail
    go_ret
    exact ⟨ret_bool HE.out.symm, below_ext hW hW.size e1⟩
  · obtain ⟨n0, n1, _⟩ := valid_bd hv
    cases i1 : inB a 0 (nodes - 1)
    · have HE := Lib.hid (show endsB nodes xs a b = false by simp [endsB, i1])
      go_enter Try.func36, Try.ntmps36
      go_wp2_with fail
      generalize w.alloc (.cells #[.int .i64 nodes, .slice A n c] 26) = W at *
      refine (implValidNet_r nodes A n c xs _ h3 hn0).mono ?_
      rw [hv]
      rintro e w1 ⟨rfl, e1⟩
      have q0 := (HB.out.ext e1).cell 0
      have q1 := (HB.out.ext e1).cell 1
      go_wp2_with fail
      refine (isNode_any nodes a _ _ (by omega) (by omega)).mono ?_
      rw [i1]
      rintro e w2 ⟨rfl, e2⟩
      go_wp2_with fail
      go_ret
      exact ⟨ret_bool HE.out.symm, below_ext hW hW.size (ext_trans e1 e2)⟩
    · cases i2 : inB b 0 (nodes - 1)
      · have HE := Lib.hid (show endsB nodes xs a b = false by simp [endsB, i2])
        go_enter Try.func36, Try.ntmps36
        go_wp2_with fail
        generalize w.alloc (.cells #[.int .i64 nodes, .slice A n c] 26) = W at *
        refine (implValidNet_r nodes A n c xs _ h3 hn0).mono ?_
        rw [hv]
        rintro e w1 ⟨rfl, e1⟩
        have q0 := (HB.out.ext e1).cell 0
        have q1 := (HB.out.ext e1).cell 1
        go_wp2_with fail
        refine (isNode_any nodes a _ _ (by omega) (by omega)).mono ?_
        rw [i1]
        rintro e w2 ⟨rfl, e2⟩
        replace e2 := ext_trans e1 e2
        clear q0 q1
        have q0 := (HB.out.ext e2).cell 0
        have q1 := (HB.out.ext e2).cell 1
        go_wp2_with fail
        refine (isNode_any nodes b _ _ (by omega) (by omega)).mono ?_
        rw [i2]
        rintro e w3 ⟨rfl, e3⟩
        go_wp2_with fail
        go_ret
        exact ⟨ret_bool HE.out.symm, below_ext hW hW.size (ext_trans e2 e3)⟩
      · have hd : (a != b) = decide (a ≠ b) := by rw [Bool.eq_iff_iff]; simp
        have HE := Lib.hid (show endsB nodes xs a b = (a != b) by rw [hd]; simp [endsB, i2, i1, hv])
        clear hd
        go_enter Try.func36, Try.ntmps36
        go_wp2_with fail
        generalize w.alloc (.cells #[.int .i64 nodes, .slice A n c] 26) = W at *
        refine (implValidNet_r nodes A n c xs _ h3 hn0).mono ?_
        rw [hv]
        rintro e w1 ⟨rfl, e1⟩
        have q0 := (HB.out.ext e1).cell 0
        have q1 := (HB.out.ext e1).cell 1
        go_wp2_with fail
        refine (isNode_any nodes a _ _ (by omega) (by omega)).mono ?_
        rw [i1]
        rintro e w2 ⟨rfl, e2⟩
        replace e2 := ext_trans e1 e2
        clear q0 q1
        have q0 := (HB.out.ext e2).cell 0
        have q1 := (HB.out.ext e2).cell 1
        go_wp2_with fail
        refine (isNode_any nodes b _ _ (by omega) (by omega)).mono ?_
        rw [i2]
        rintro e w3 ⟨rfl, e3⟩
        go_wp2_with fail
        go_ret
        exact ⟨ret_bool HE.out.symm, below_ext hW hW.size (ext_trans e2 e3)⟩


end Go.Proofs.Ytpaahjeohigngaa
