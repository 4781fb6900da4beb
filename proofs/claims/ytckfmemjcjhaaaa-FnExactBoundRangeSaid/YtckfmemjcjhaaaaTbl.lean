/- The program's small functions of tables. -/
import Derived.Test.YtckfmemjcjhaaaaPivPlain
import Derived.Test.YtckfmemjcjhaaaaTabPlain
import Derived.Deep.RegionHeld3
import Derived.StillTailTactics
namespace Go.Proofs.Ytckfmemjcjhaaaa
open Go.RowKit

theorem wide_any (V : Nat) (A : Option Addr) (n c : Nat) (B : Option Addr) (m d : Nat) (w : World) (hV : V ≤ 8) (hm : m ≤ 8) :
    Calls Try.prog 71 #[.agg #[.int .i64 V, .slice A n c, .slice B m d]] w (RetV (.int .i64 ((V + m + 1 : Nat) : Int)) w) := by
  have hW : Below w.heap.size w (w.alloc (.cells #[.int .i64 V, .slice A n c, .slice B m d] 27)) := (Below.refl _ _).alloc (Nat.le_refl _) _
  go_enter Try.func71, Try.ntmps71
  go_wp2_with fail
  go_ret
  exact ⟨by show Ending.returned (Value.int .i64 _) = _; congr 2, hW⟩
theorem isIndex_any (i : Int) (n : Nat) (w : World) (hn : n ≤ 1048576) :
    Calls Try.prog 39 #[.int .i64 i, .int .i64 n] w fun e w' => e = .returned (.bool (inB i 0 ((n : Int) - 1))) ∧ w = w' := by
  go_enter Try.func39, Try.ntmps39
  go_wp2_with fail
  refine (within_any i 0 ((n : Int) - 1) _).mono ?_
  rintro e w1 ⟨rfl, rfl⟩
  go_wp2_with fail
  go_ret
  exact ⟨rfl, rfl⟩
theorem isColumn_any (x : Int) (V : Nat) (A : Option Addr) (n c : Nat) (B : Option Addr) (m d : Nat) (w : World) (hV : V ≤ 8) (hm : m ≤ 8) :
    Calls Try.prog 40 #[.agg #[.int .i64 V, .slice A n c, .slice B m d], .int .i64 x] w (RetV (.bool (inB x 0 ((V : Int) + m - 1))) w) := by
  have hW : Below w.heap.size w (w.alloc (.cells #[.int .i64 V, .slice A n c, .slice B m d] 27)) := (Below.refl _ _).alloc (Nat.le_refl _) _
  have e1 : ((V + m + 1 : Nat) : Int) - 1 = ((V + m : Nat) : Int) := by omega
  have e2 : inB x 0 ((V : Int) + m - 1) = inB x 0 (((V + m : Nat) : Int) - 1) := by congr 1
  have E2 := Lib.hid e2
  clear e2
  go_enter Try.func40, Try.ntmps40
  go_wp2_with fail
  refine (wide_any V A n c B m d _ hV hm).mono ?_
  rintro e w1 ⟨rfl, b1⟩
  go_wp2_with fail
  refine (isIndex_any x (V + m) _ (by omega)).mono ?_
  rintro e w2 ⟨rfl, rfl⟩
  go_wp2_with fail
  go_ret
  exact ⟨ret_bool E2.out.symm, below_ext hW hW.size b1⟩
set_option maxRecDepth 100000 in
set_option maxHeartbeats 1000000 in
theorem tat_any (V : Nat) (A : Option Addr) (n c : Nat) (ns : List Nat) (B : Option Addr) (m d : Nat) (i k : Nat) (w : World) (hN : FltsAt w A n ns) (hV : V ≤ 8) (hm : m ≤ 8) (hn : n = (m + 1) * (V + m + 1)) (hi : i < m + 1) (hk : k < V + m + 1) :
    Calls Try.prog 58 #[.agg #[.int .i64 V, .slice A n c, .slice B m d], .int .i64 i, .int .i64 k] w (RetV (.float .f32 (ns.getD (i * (V + m + 1) + k) 0)) w) := by
  have hlt0 : i * (V + m + 1) + k < n := by rw [hn]; exact cell_lt hi hk
  have hbd : n ≤ 153 := by rw [hn]; exact Nat.mul_le_mul (show m + 1 ≤ 9 by omega) (show V + m + 1 ≤ 17 by omega)
  obtain ⟨Wd, hWd⟩ : ∃ Wd : Nat, V + m + 1 = Wd := ⟨_, rfl⟩
  have hwc := fun w => wide_any V A n c B m d w hV hm
  rw [hWd] at hwc hlt0 ⊢
  obtain ⟨P, hP⟩ : ∃ P : Nat, i * Wd = P := ⟨_, rfl⟩
  have hm1 : (i : Int) * (Wd : Int) = (P : Int) := by rw [← hP]; push_cast; rfl
  rw [hP] at hlt0 ⊢
  obtain ⟨J, hJ⟩ : ∃ J : Nat, P + k = J := ⟨_, rfl⟩
  have hm2 : (P : Int) + (k : Int) = (J : Int) := by omega
  rw [hJ] at hlt0 ⊢
  have hw1 : IntKind.i64.wrap (P : Int) = (P : Int) := IntWalk.i64_in _ (by omega)
  have hw2 : IntKind.i64.wrap (J : Int) = (J : Int) := IntWalk.i64_in _ (by omega)
  have hW : Below w.heap.size w (w.alloc (.cells #[.int .i64 V, .slice A n c, .slice B m d] 27)) := (Below.refl _ _).alloc (Nat.le_refl _) _
  have KX := Lib.hid (Blk.new w 27 #[.int .i64 V, .slice A n c, .slice B m d])
  obtain ⟨ad, rfl, had, hcell⟩ := hN.at_ hlt0
  have had2 : (ad.add J).block < w.heap.size := by rw [block_add]; exact had
  have HAD := Lib.hid had2
  generalize hx : ns.getD J 0 = x at *
  have HCX := Lib.hid ((Below.cell hW had2).trans hcell)
  have hszw : w.heap.size ≤ (w.alloc (.cells #[.int .i64 V, .slice (some ad) n c, .slice B m d] 27)).heap.size := hW.size
  have HWC := Lib.hid hwc
  clear hP hn hN hx hcell had2 had hJ hWd hwc
  go_enter Try.func58, Try.ntmps58
  go_wp2_with fail
  generalize w.alloc (.cells #[.int .i64 V, .slice (some ad) n c, .slice B m d] 27) = W at *
  have p0 := KX.out.cell 0
  have p1 := KX.out.cell 1
  have p2 := KX.out.cell 2
  go_region_with (go_at_call 71; refine (HWC.out _).mono ?_; rintro e w7 ⟨rfl, b⟩; have q1 := (KX.out.drew.ext b).cell 1; have qx := (Below.cell b (Nat.lt_of_lt_of_le HAD.out hszw)).trans HCX.out; have hbl := ext_trans (Below.drew hW) b)
  all_goals
    go_wp2_with fail
    go_ret
    exact ⟨rfl, hbl⟩
--GEN
set_option maxRecDepth 100000 in
set_option maxHeartbeats 1000000 in
theorem tlast_any (V : Nat) (A : Option Addr) (n c : Nat) (ns : List Nat) (B : Option Addr) (m d : Nat) (i : Nat) (w : World) (hN : FltsAt w A n ns) (hV : V ≤ 8) (hm : m ≤ 8) (hn : n = (m + 1) * (V + m + 1)) (hi : i < m + 1) :
    Calls Try.prog 63 #[.agg #[.int .i64 V, .slice A n c, .slice B m d], .int .i64 i] w (RetV (.float .f32 (ns.getD (i * (V + m + 1) + (V + m)) 0)) w) := by
  have HAT := Lib.hid (fun w (hN : FltsAt w A n ns) => tat_any V A n c ns B m d i (V + m) w hN hV hm hn hi (by omega))
  have HWC := Lib.hid (fun w => wide_any V A n c B m d w hV hm)
  have e1 : ((V + m + 1 : Nat) : Int) - 1 = ((V + m : Nat) : Int) := by omega
  have hvm : V + m ≤ 16 := by omega
  obtain ⟨Wd, hWd⟩ : ∃ Wd : Nat, V + m + 1 = Wd := ⟨_, rfl⟩
  obtain ⟨W1, hW1⟩ : ∃ W1 : Nat, V + m = W1 := ⟨_, rfl⟩
  rw [hWd, hW1] at e1
  rw [hWd, hW1] at HAT
  rw [hWd] at HWC
  rw [hWd, hW1]
  rw [hW1] at hvm
  have hw1 : IntKind.i64.wrap (W1 : Int) = (W1 : Int) := IntWalk.i64_in _ (by omega)
  generalize ns.getD (i * Wd + W1) 0 = x at *
  have hW : Below w.heap.size w (w.alloc (.cells #[.int .i64 V, .slice A n c, .slice B m d] 27)) := (Below.refl _ _).alloc (Nat.le_refl _) _
  have KX := Lib.hid (Blk.new w 27 #[.int .i64 V, .slice A n c, .slice B m d])
  have HN := Lib.hid (hN.below hW)
  clear hN hn hi hWd hW1
  go_enter Try.func63, Try.ntmps63
  go_wp2_with fail
  generalize w.alloc (.cells #[.int .i64 V, .slice A n c, .slice B m d] 27) = W at *
  have p0 := KX.out.cell 0
  have p1 := KX.out.cell 1
  have p2 := KX.out.cell 2
  go_region_with (first | (go_at_call 71; refine (HWC.out _).mono ?_; rintro e w7 ⟨rfl, b⟩; have q0 := (KX.out.drew.ext b).cell 0; have q1 := (KX.out.drew.ext b).cell 1; have q2 := (KX.out.drew.ext b).cell 2; have HB7 := Lib.hid (ext_trans (Below.drew (Below.refl W.heap.size W)) b); clear b) | (go_at_call 58; refine (HAT.out _ (HN.out.below HB7.out)).mono ?_; rintro e w8 ⟨rfl, b⟩; have hbl := below_ext hW hW.size (ext_trans HB7.out b)))
  all_goals
    go_wp2_with fail
    go_ret
    exact ⟨rfl, hbl⟩
end Go.Proofs.Ytckfmemjcjhaaaa
