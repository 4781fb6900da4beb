/- Rooms of cuts. -/
import Derived.Test.YteciampnbghonaaFlow
import Derived.Test.YteciampnbghonaaAppend
namespace Go.Proofs.Yteciampnbghonaa
open Go.RowKit

def risesTo (zs : List Int) (k : Nat) : Bool := (List.range k).all fun i => decide (i = 0) || decide (zs.getD (i - 1) 0 < zs.getD i 0)
theorem risesTo_succ (zs : List Int) (k : Nat) : risesTo zs (k + 1) = (risesTo zs k && (decide (k = 0) || decide (zs.getD (k - 1) 0 < zs.getD k 0))) := by
  unfold risesTo
  rw [List.range_succ, List.all_append]; simp
theorem risesTo_stop {zs : List Int} {k : Nat} (h1 : ¬ k = 0) (h : ¬ zs.getD (k - 1) 0 < zs.getD k 0) : ∀ d, risesTo zs (k + 1 + d) = false
  | 0 => by rw [Nat.add_zero, risesTo_succ, decide_eq_false h1, decide_eq_false h, Bool.or_self, Bool.and_false]
  | d + 1 => by rw [← Nat.add_assoc, risesTo_succ, risesTo_stop h1 h d, Bool.false_and]
/-- a list is a set of nodes -/
def nodesB (nodes : Int) (zs : List Int) : Bool := zs.all (fun x => inB x 0 (nodes - 1)) && risesTo zs zs.length
def cutRB (nodes : Int) (xs : List ArcR) (zs : List Int) : Bool := validB nodes xs && nodesB nodes zs
def cutTo (xs : List ArcR) (zs : List Int) (k : Nat) : Int := (List.range k).foldl (fun s i => s + if hasB zs (xs.getD i default).fr && !hasB zs (xs.getD i default).to_ then (xs.getD i default).room else 0) 0
theorem cutTo_succ (xs : List ArcR) (zs : List Int) (k : Nat) : cutTo xs zs (k + 1) = cutTo xs zs k + if hasB zs (xs.getD k default).fr && !hasB zs (xs.getD k default).to_ then (xs.getD k default).room else 0 := by
  unfold cutTo
  rw [List.range_succ, List.foldl_append]; rfl
def cutRV (nodes : Int) (xs : List ArcR) (zs : List Int) : Int := if cutRB nodes xs zs = true then cutTo xs zs xs.length else 0
theorem cutRV_no {nodes : Int} {xs : List ArcR} {zs : List Int} (h : cutRB nodes xs zs = false) : cutRV nodes xs zs = 0 := by unfold cutRV; rw [if_neg (by rw [h]; decide)]
theorem cutRV_yes {nodes : Int} {xs : List ArcR} {zs : List Int} (h : cutRB nodes xs zs = true) : cutRV nodes xs zs = cutTo xs zs xs.length := by unfold cutRV; rw [if_pos h]

theorem allI_stop {p : Int → Bool} {zs : List Int} {n k : Nat} {x : Int} (hl : zs.length = n) (hk : k < n) (hx : zs.getD k 0 = x) (hp : p x = false) : zs.all p = false :=
  all_false_of p zs k 0 (by omega) (by rw [hx, hp])
theorem allI_step {p : Int → Bool} {zs : List Int} {n k : Nat} {x : Int} (hl : zs.length = n) (hk : k < n) (hx : zs.getD k 0 = x) (hall : (zs.take k).all p = true) (hp : p x = true) : (zs.take (k+1)).all p = true := by
  rw [all_take_succ p zs k 0 (by omega), hall, hx, hp]; rfl
theorem allI_done {p : Int → Bool} {zs : List Int} {n k : Nat} (hl : zs.length = n) (hk : ¬ k < n) (hall : (zs.take k).all p = true) : zs.all p = true := by
  rwa [List.take_of_length_le (by omega)] at hall

theorem l00Has_any (A : Option Addr) (n c : Nat) (zs : List Int) (x : Int) (w : World) (h : IntsAt w A n zs) (hl : n ≤ 1048576) :
    Calls Try.prog 67 #[.slice A n c, .int .i64 x] w fun e w' => e = .returned (.bool (hasB zs x)) ∧ w = w' := by
  have HL := Lib.hid h.len
  go_enter Try.func67, Try.ntmps67
  go_wp2
  go_loop [5] (fun i => ∃ k : Nat, k ≤ n ∧ i = .int .i64 k ∧ Hid (hasB (zs.take k) x = false)) (fun i => n - (intOf i).toNat)
  case atStart => exact ⟨0, Nat.zero_le _, rfl, Lib.hid (by simp [hasB])⟩
  case round =>
    obtain ⟨k, hk, rfl, hall⟩ := hrel
    by_cases hlt : k < n
    · obtain ⟨ad, rfl, _, hcell⟩ := h.at_ hlt
      have HST := Lib.hid (fun y hy => @hasB_step zs n k y x HL.out hlt hy hall.out)
      have HSP := Lib.hid (fun y hy => @hasB_stop zs n k y HL.out hlt hy)
      generalize hy : zs.getD k 0 = y at *
      have HY := Lib.hid hy
      clear hy
      by_cases he : y = x
      · subst he
        go_wp2
        go_ret
        exact ⟨ret_bool (HSP.out _ rfl).symm, rfl⟩
      · have he' : (y == x) = false := by simpa using he
        have HE := Lib.hid he
        clear he
        go_wp2
        go_round
        case rel => exact ⟨k + 1, by omega, by go_num, Lib.hid (HST.out _ rfl HE.out)⟩
        case measure => simp [intOf]; omega
    · go_wp2
      go_ret
      exact ⟨ret_bool (hasB_done HL.out hlt hall.out).symm, rfl⟩

set_option maxRecDepth 100000 in
set_option maxHeartbeats 1600000 in
theorem l03Set_any (B : Option Addr) (m d : Nat) (zs : List Int) (nodes : Int) (w : World) (hy : IntsAt w B m zs) (hm0 : m ≤ 1048576) (h1 : 0 ≤ nodes) (h2 : nodes ≤ 1000) :
    Calls Try.prog 66 #[.slice B m d, .int .i64 nodes] w fun e w' => e = .returned (.bool (nodesB nodes zs)) ∧ Drew w w' := by
  have HL := Lib.hid hy.len
  go_enter Try.func66, Try.ntmps66
  go_wp2
  go_loopg [8] m (fun r i wr => ∃ (k : Nat), r = m - k ∧ k ≤ m ∧ i = .int .i64 k ∧ Drew w wr ∧ Hid ((zs.take k).all (fun x => inB x 0 (nodes - 1)) = true) ∧ Hid (risesTo zs k = true))
  case atStart => exact ⟨0, by omega, by omega, rfl, Drew.refl _, Lib.hid (by simp), Lib.hid rfl⟩
  case round =>
    obtain ⟨k, hr, hk, rfl, hd, hall, hris⟩ := hrel
    have HR := Lib.hid hr
    clear hr
    by_cases hlt : k < m
    · obtain ⟨ad, rfl, had, c0⟩ := (hy.drewTo hd).at_ hlt
      have HS := Lib.hid (risesTo_succ zs k)
      have HST := Lib.hid (@risesTo_stop zs k)
      have HA1 := Lib.hid (fun x hx => @allI_stop (fun x => inB x 0 (nodes - 1)) zs m k x HL.out hlt hx)
      have HA2 := Lib.hid (fun x hx => @allI_step (fun x => inB x 0 (nodes - 1)) zs m k x HL.out hlt hx hall.out)
      have hq : 0 < k → wr.cell? (ad.add (k - 1)) = some (.int .i64 (zs.getD (k - 1) 0)) := fun h0 => ints_cell (hy.drewTo hd) (by omega)
      generalize gx : zs.getD k 0 = x at *
      have GX := Lib.hid gx
      clear gx
      have hw : IntKind.i64.wrap (nodes - 1) = nodes - 1 := IntWalk.i64_in _ (by omega)
      cases i1 : inB x 0 (nodes - 1)
      · have HE := Lib.hid (show nodesB nodes zs = false by unfold nodesB; rw [HA1.out x rfl i1]; rfl)
        clear hq
        go_wp2
        go_quiet ((go_at_call 56; exact l00In_q' _ _ _ _ _))
        go_wp2
        go_ret
        exact ⟨ret_bool HE.out.symm, hd.step _⟩
      · have HE2 := Lib.hid (HA2.out x rfl i1)
        by_cases k0 : k = 0
        · have HE := Lib.hid (show risesTo zs (k + 1) = true by rw [HS.out, hris.out, decide_eq_true k0]; rfl)
          have hd0 : decide (0 < (k : Int)) = false := by rw [decide_eq_false_iff_not]; omega
          have hd1 : decide (0 < k) = false := by rw [decide_eq_false_iff_not]; omega
          clear hq k0
          go_wp2
          go_quiet ((go_at_call 56; exact l00In_q' _ _ _ _ _))
          go_wp2
          go_roundg (m - (k + 1))
          case measure => rw [HR.out]; omega
          case rel => exact ⟨k + 1, rfl, by omega, by go_num, hd.step _, HE2, HE⟩
        · have hc2 := hq (by omega)
          have hk0 : 0 < k := by omega
          have e1 : (k : Int) - 1 = ((k - 1 : Nat) : Int) := by omega
          have hd0 : decide (0 < (k : Int)) = true := by rw [decide_eq_true_iff]; omega
          have hd1 : decide (0 < k) = true := by rw [decide_eq_true_iff]; omega
          have e2 : IntKind.i64.wrap ((k : Int) - 1) = (k : Int) - 1 := IntWalk.i64_in _ (by omega)
          have e3 : ((k : Int) - 1).toNat = k - 1 := by omega
          have e4 : 0 ≤ (k : Int) - 1 := by omega
          clear e1 hq
          generalize zs.getD (k - 1) 0 = y at *
          by_cases hxy : y < x
          · have hdd : decide (x ≤ y) = false := by rw [decide_eq_false_iff_not]; omega
            have HE := Lib.hid (show risesTo zs (k + 1) = true by rw [HS.out, hris.out]; simp [hxy])
            clear k0
            go_wp2
            go_quiet ((go_at_call 56; exact l00In_q' _ _ _ _ _))
            go_wp2
            go_roundg (m - (k + 1))
            case measure => rw [HR.out]; omega
            case rel => exact ⟨k + 1, rfl, by omega, by go_num, hd.step _, HE2, HE⟩
          · have hdd : decide (x ≤ y) = true := by rw [decide_eq_true_iff]; omega
            have HE := Lib.hid (show nodesB nodes zs = false by unfold nodesB; rw [HL.out, show m = k + 1 + (m - (k + 1)) from by omega, HST.out k0 hxy _, Bool.and_false])
            clear k0
            go_wp2
            go_quiet ((go_at_call 56; exact l00In_q' _ _ _ _ _))
            go_wp2
            go_ret
            exact ⟨ret_bool HE.out.symm, hd.step _⟩
    · have e : k = m := by omega
      subst e
      have HE := Lib.hid (show nodesB nodes zs = true by unfold nodesB; rw [allI_done HL.out hlt hall.out, HL.out, hris.out]; rfl)
      go_wp2
      go_ret
      exact ⟨ret_bool HE.out.symm, hd⟩
set_option maxRecDepth 100000 in
set_option maxHeartbeats 1600000 in
theorem isRising_any (B : Option Addr) (m d : Nat) (zs : List Int) (w : World) (hy : IntsAt w B m zs) (hm0 : m ≤ 1048576) :
    Calls Try.prog 49 #[.slice B m d] w fun e w' => e = .returned (.bool (risesTo zs m)) ∧ Drew w w' := by
  have HL := Lib.hid hy.len
  go_enter Try.func49, Try.ntmps49
  go_wp2
  go_loopg [3] (m - 1) (fun r i wr => ∃ (k : Nat), r = m - k ∧ 1 ≤ k ∧ (k ≤ m ∨ m = 0) ∧ i = .int .i64 k ∧ k ≤ 1048576 + 1 ∧ Drew w wr ∧ Hid (k ≤ m → risesTo zs k = true))
  case atStart => exact ⟨1, by omega, by omega, by omega, rfl, by omega, Drew.refl _, Lib.hid (fun _ => by simp [risesTo])⟩
  case round =>
    obtain ⟨k, hr, hk1, hk, rfl, hk3, hd, hris⟩ := hrel
    have HR := Lib.hid hr
    clear hr
    by_cases hlt : k < m
    · have HS := Lib.hid (risesTo_succ zs k)
      have HST := Lib.hid (@risesTo_stop zs k)
      have c1 := (hy.drewTo hd)
      obtain ⟨ad, rfl, had, c0⟩ := c1.at_ hlt
      have c2 := ints_cell c1 (k := k - 1) (by omega)
      have e2 : IntKind.i64.wrap ((k : Int) - 1) = (k : Int) - 1 := IntWalk.i64_in _ (by omega)
      have e3 : ((k : Int) - 1).toNat = k - 1 := by omega
      have e4 : 0 ≤ (k : Int) - 1 := by omega
      have k0 := Lib.hid (show ¬ k = 0 by omega)
      clear c1
      generalize zs.getD k 0 = x at *
      generalize zs.getD (k - 1) 0 = y at *
      by_cases hxy : y < x
      · have hdd : decide (x ≤ y) = false := by rw [decide_eq_false_iff_not]; omega
        have HE := Lib.hid (show risesTo zs (k + 1) = true by rw [HS.out, hris.out (by omega)]; simp [hxy])
        go_wp2
        go_quiet (fail)
        go_wp2
        go_roundg (m - (k + 1))
        case measure => rw [HR.out]; omega
        case rel => exact ⟨k + 1, rfl, by omega, by omega, by go_num, by omega, hd.step _, Lib.hid (fun _ => HE.out)⟩
      · have hdd : decide (x ≤ y) = true := by rw [decide_eq_true_iff]; omega
        have HE := Lib.hid (show risesTo zs m = false by rw [show m = k + 1 + (m - (k + 1)) from by omega, HST.out k0.out hxy _])
        go_wp2
        go_quiet (fail)
        go_wp2
        go_ret
        exact ⟨ret_bool HE.out.symm, hd.step _⟩
    · have HE := Lib.hid (show risesTo zs m = true by
        by_cases e : k = m
        · rw [← e]; exact hris.out (by omega)
        · have : m = 0 := by omega
          rw [this]; rfl)
      go_wp2
      go_ret
      exact ⟨ret_bool HE.out.symm, hd⟩
end Go.Proofs.Yteciampnbghonaa
