/- GreatFlow, PushFlow: the contracts. -/
import Derived.Test.YtpaahjeohigngaaZGreat
namespace Go.Proofs.Ytpaahjeohigngaa
open Go.RowKit

def greatP (nodes : Int) (xs : List ArcR) (a b : Int) : List Int × Int := if endsB nodes xs a b = true then greatL xs nodes.toNat a.toNat b.toNat else ([], 0)
theorem greatP_no {nodes : Int} {xs : List ArcR} {a b : Int} (h : endsB nodes xs a b = false) : greatP nodes xs a b = ([], 0) := by unfold greatP; rw [if_neg (by rw [h]; decide)]
theorem greatP_yes {nodes : Int} {xs : List ArcR} {a b : Int} (h : endsB nodes xs a b = true) : greatP nodes xs a b = greatL xs nodes.toNat a.toNat b.toNat := by unfold greatP; rw [if_pos h]
theorem ends_bd {nodes : Int} {xs : List ArcR} {a b : Int} (h : endsB nodes xs a b = true) : ∃ N F t : Nat, nodes = N ∧ a = F ∧ b = t ∧ F < N ∧ t < N ∧ t ≠ F ∧ validB N xs = true := by
  simp only [endsB, Bool.and_eq_true, decide_eq_true_eq] at h
  obtain ⟨h1, h2, h3, h4⟩ := h
  obtain ⟨v0, _⟩ := valid_bd h1
  obtain ⟨a0, a1⟩ := inB_iff.1 h2
  obtain ⟨b0, b1⟩ := inB_iff.1 h3
  refine ⟨nodes.toNat, a.toNat, b.toNat, by omega, by omega, by omega, by omega, by omega, by omega, ?_⟩
  rw [show ((nodes.toNat : Nat) : Int) = nodes by omega]; exact h1
theorem greatRun_len {xs : List ArcR} {n N F t : Nat} : ∀ (k : Nat) (fl : List Int) (a : Int), (greatRun xs n N F t k fl a).1.length = fl.length
  | 0, fl, a => rfl
  | k + 1, fl, a => by
    rw [greatRun]
    split
    · rfl
    · rw [greatRun_len k, pushAll_len]
theorem greatP_len (nodes : Int) (xs : List ArcR) (a b : Int) : (greatP nodes xs a b).1.length ≤ 1048576 := by
  cases h : endsB nodes xs a b
  · rw [greatP_no h]; simp
  · rw [greatP_yes h, greatL, greatRun_len, List.length_replicate]
    obtain ⟨N, F, t, rfl, rfl, rfl, _, _, _, hv⟩ := ends_bd h
    have := (valid_bd hv).2.2.1
    omega
theorem ret_LIBg {A : Option Addr} {n c : Nat} {i j : Int} {a b : Bool} (h1 : i = j) (h2 : a = b) : Ending.returned (.tuple #[.slice A n c, .int .i64 i, .bool a]) = .returned (.tuple #[.slice A n c, .int .i64 j, .bool b]) := by rw [h1, h2]

set_option maxRecDepth 100000 in
set_option maxHeartbeats 800000 in
theorem specGreatFlow_r (nodes : Int) (A : Option Addr) (n c : Nat) (xs : List ArcR) (a b : Int) (w : World) (h : ArcsAt w A n xs) (hn0 : n ≤ maxLen) :
    Calls Try.prog 28 #[.agg #[.int .i64 nodes, .slice A n c], .int .i64 a, .int .i64 b] w (RetLIB 2 (greatP nodes xs a b).1 (greatP nodes xs a b).2 (endsB nodes xs a b) w) := by
  have HX := Lib.hid h.len
  have hW : Below w.heap.size w (w.alloc (.cells #[.int .i64 nodes, .slice A n c] 26)) := (Below.refl _ _).alloc (Nat.le_refl _) _
  have h3 := h.alloc (.cells #[.int .i64 nodes, .slice A n c] 26)
  have HB := Lib.hid (Blk.new w 26 #[.int .i64 nodes, .slice A n c])
  clear h
  cases he : endsB nodes xs a b
  · have HG := Lib.hid (greatP_no he)
    go_enter Try.func28, Try.ntmps28
    go_wp2_with fail
    generalize w.alloc (.cells #[.int .i64 nodes, .slice A n c] 26) = W at *
    refine (l03Ends_any _ nodes A n c xs a b _ HB.out h3 hn0).mono ?_
    rw [he]
    rintro e w1 ⟨rfl, hd⟩
    go_wp2_with fail
    go_ret3
    exact ⟨none, 0, 0, ret_LIBg (by rw [HG.out]) rfl, by rw [HG.out]; exact OwnI.nil_ _ _ _, below_ext hW hW.size hd.below⟩
  · have HG := Lib.hid (greatP_yes he)
    obtain ⟨N, F, t, rfl, rfl, rfl, hF, ht, hne, hv⟩ := ends_bd he
    rw [Int.toNat_natCast, Int.toNat_natCast, Int.toNat_natCast] at HG
    have HV := Lib.hid hv
    clear hv
    go_enter Try.func28, Try.ntmps28
    go_wp2_with fail
    generalize w.alloc (.cells #[.int .i64 N, .slice A n c] 26) = W at *
    refine (l03Ends_any _ N A n c xs F t _ HB.out h3 hn0).mono ?_
    rw [he]
    rintro e w1 ⟨rfl, hd⟩
    go_wp2_with fail
    refine (l03Great_any _ N A n c xs F t _ (HB.out.ext hd.below) (h3.drewTo hd) HV.out hF ht hne).mono ?_
    rintro e w2 ⟨gF, rfl, o2, b2⟩
    go_wp2_with fail
    go_ret3
    exact ⟨_, _, _, ret_LIBg (by rw [HG.out]) rfl, by rw [HG.out]; exact OwnI.low o2 (Nat.le_trans hW.size (hd.below).size), below_ext hW hW.size (ext_trans hd.below b2)⟩
set_option maxRecDepth 100000 in
set_option maxHeartbeats 800000 in
theorem implGreatFlow_r (nodes : Int) (A : Option Addr) (n c : Nat) (xs : List ArcR) (a b : Int) (w : World) (h : ArcsAt w A n xs) (hn0 : n ≤ maxLen) :
    Calls Try.prog 29 #[.agg #[.int .i64 nodes, .slice A n c], .int .i64 a, .int .i64 b] w (RetLIB 2 (greatP nodes xs a b).1 (greatP nodes xs a b).2 (endsB nodes xs a b) w) := by
  have HX := Lib.hid h.len
  have hW : Below w.heap.size w (w.alloc (.cells #[.int .i64 nodes, .slice A n c] 26)) := (Below.refl _ _).alloc (Nat.le_refl _) _
  have h3 := h.alloc (.cells #[.int .i64 nodes, .slice A n c] 26)
  have HB := Lib.hid (Blk.new w 26 #[.int .i64 nodes, .slice A n c])
  clear h
  cases he : endsB nodes xs a b
  · have HG := Lib.hid (greatP_no he)
    go_enter Try.func29, Try.ntmps29
    go_wp2_with fail
    generalize w.alloc (.cells #[.int .i64 nodes, .slice A n c] 26) = W at *
    refine (areEnds_any nodes A n c xs a b _ h3 hn0).mono ?_
    rw [he]
    rintro e w1 ⟨rfl, e1⟩
    go_wp2_with fail
    go_ret3
    exact ⟨none, 0, 0, ret_LIBg (by rw [HG.out]) rfl, by rw [HG.out]; exact OwnI.nil_ _ _ _, below_ext hW hW.size e1⟩
  · have HG := Lib.hid (greatP_yes he)
    obtain ⟨N, F, t, rfl, rfl, rfl, hF, ht, hne, hv⟩ := ends_bd he
    rw [Int.toNat_natCast, Int.toNat_natCast, Int.toNat_natCast] at HG
    have HV := Lib.hid hv
    clear hv
    go_enter Try.func29, Try.ntmps29
    go_wp2_with fail
    generalize w.alloc (.cells #[.int .i64 N, .slice A n c] 26) = W at *
    refine (areEnds_any N A n c xs F t _ h3 hn0).mono ?_
    rw [he]
    rintro e w1 ⟨rfl, e1⟩
    have q0 := (HB.out.ext e1).cell 0
    have q1 := (HB.out.ext e1).cell 1
    go_wp2_with fail
    refine (netGreat_any N A n c xs F t _ (h3.below e1) HV.out hF ht hne).mono ?_
    rintro e w2 ⟨gF, rfl, o2, b2⟩
    go_wp2_with fail
    go_ret3
    exact ⟨_, _, _, ret_LIBg (by rw [HG.out]) rfl, by rw [HG.out]; exact OwnI.low o2 (Nat.le_trans hW.size (e1).size), below_ext hW hW.size (ext_trans e1 b2)⟩
set_option maxRecDepth 100000 in
set_option maxHeartbeats 800000 in
theorem specPushFlow_r (nodes : Int) (A : Option Addr) (n c : Nat) (xs : List ArcR) (a b : Int) (w : World) (h : ArcsAt w A n xs) (hn0 : n ≤ maxLen) :
    Calls Try.prog 17 #[.agg #[.int .i64 nodes, .slice A n c], .int .i64 a, .int .i64 b] w (RetV (.tuple #[.int .i64 (greatP nodes xs a b).2, .bool (endsB nodes xs a b)]) w) := by
  have HX := Lib.hid h.len
  have hW : Below w.heap.size w (w.alloc (.cells #[.int .i64 nodes, .slice A n c] 26)) := (Below.refl _ _).alloc (Nat.le_refl _) _
  have h3 := h.alloc (.cells #[.int .i64 nodes, .slice A n c] 26)
  have HB := Lib.hid (Blk.new w 26 #[.int .i64 nodes, .slice A n c])
  clear h
  cases he : endsB nodes xs a b
  · have HG := Lib.hid (greatP_no he)
    go_enter Try.func17, Try.ntmps17
    go_wp2_with fail
    generalize w.alloc (.cells #[.int .i64 nodes, .slice A n c] 26) = W at *
    refine (l03Ends_any _ nodes A n c xs a b _ HB.out h3 hn0).mono ?_
    rw [he]
    rintro e w1 ⟨rfl, hd⟩
    go_wp2_with fail
    go_ret2
    exact ⟨ret_IB (by rw [HG.out]) rfl, below_ext hW hW.size hd.below⟩
  · have HG := Lib.hid (greatP_yes he)
    obtain ⟨N, F, t, rfl, rfl, rfl, hF, ht, hne, hv⟩ := ends_bd he
    rw [Int.toNat_natCast, Int.toNat_natCast, Int.toNat_natCast] at HG
    have HV := Lib.hid hv
    clear hv
    go_enter Try.func17, Try.ntmps17
    go_wp2_with fail
    generalize w.alloc (.cells #[.int .i64 N, .slice A n c] 26) = W at *
    refine (l03Ends_any _ N A n c xs F t _ HB.out h3 hn0).mono ?_
    rw [he]
    rintro e w1 ⟨rfl, hd⟩
    go_wp2_with fail
    refine (l03Great_any _ N A n c xs F t _ (HB.out.ext hd.below) (h3.drewTo hd) HV.out hF ht hne).mono ?_
    rintro e w2 ⟨gF, rfl, o2, b2⟩
    go_wp2_with fail
    go_ret2
    exact ⟨ret_IB (by rw [HG.out]) rfl, below_ext hW hW.size (ext_trans hd.below b2)⟩
set_option maxRecDepth 100000 in
set_option maxHeartbeats 800000 in
theorem implPushFlow_r (nodes : Int) (A : Option Addr) (n c : Nat) (xs : List ArcR) (a b : Int) (w : World) (h : ArcsAt w A n xs) (hn0 : n ≤ maxLen) :
    Calls Try.prog 27 #[.agg #[.int .i64 nodes, .slice A n c], .int .i64 a, .int .i64 b] w (RetV (.tuple #[.int .i64 (greatP nodes xs a b).2, .bool (endsB nodes xs a b)]) w) := by
  have HX := Lib.hid h.len
  have hW : Below w.heap.size w (w.alloc (.cells #[.int .i64 nodes, .slice A n c] 26)) := (Below.refl _ _).alloc (Nat.le_refl _) _
  have h3 := h.alloc (.cells #[.int .i64 nodes, .slice A n c] 26)
  have HB := Lib.hid (Blk.new w 26 #[.int .i64 nodes, .slice A n c])
  clear h
  cases he : endsB nodes xs a b
  · have HG := Lib.hid (greatP_no he)
    go_enter Try.func27, Try.ntmps27
    go_wp2_with fail
    generalize w.alloc (.cells #[.int .i64 nodes, .slice A n c] 26) = W at *
    refine (areEnds_any nodes A n c xs a b _ h3 hn0).mono ?_
    rw [he]
    rintro e w1 ⟨rfl, e1⟩
    go_wp2_with fail
    go_ret2
    exact ⟨ret_IB (by rw [HG.out]) rfl, below_ext hW hW.size e1⟩
  · have HG := Lib.hid (greatP_yes he)
    obtain ⟨N, F, t, rfl, rfl, rfl, hF, ht, hne, hv⟩ := ends_bd he
    rw [Int.toNat_natCast, Int.toNat_natCast, Int.toNat_natCast] at HG
    have HV := Lib.hid hv
    clear hv
    go_enter Try.func27, Try.ntmps27
    go_wp2_with fail
    generalize w.alloc (.cells #[.int .i64 N, .slice A n c] 26) = W at *
    refine (areEnds_any N A n c xs F t _ h3 hn0).mono ?_
    rw [he]
    rintro e w1 ⟨rfl, e1⟩
    have q0 := (HB.out.ext e1).cell 0
    have q1 := (HB.out.ext e1).cell 1
    go_wp2_with fail
    refine (netGreat_any N A n c xs F t _ (h3.below e1) HV.out hF ht hne).mono ?_
    rintro e w2 ⟨gF, rfl, o2, b2⟩
    go_wp2_with fail
    go_ret2
    exact ⟨ret_IB (by rw [HG.out]) rfl, below_ext hW hW.size (ext_trans e1 b2)⟩
end Go.Proofs.Ytpaahjeohigngaa
