/- CityTree: the contracts. -/
import Derived.Test.YthhkgeeomhhegaaCityS
namespace Go.Proofs.Ythhkgeeomhhegaa
open Go.RowKit

theorem ret_LIB {A : Option Addr} {n c : Nat} {i j : Int} {a b : Bool} (h0 : i = j) (h : a = b) : Ending.returned (.tuple #[.slice A n c, .int .i64 i, .bool a]) = .returned (.tuple #[.slice A n c, .int .i64 j, .bool b]) := by rw [h0, h]
def treeN (ws : List Int) : Nat := (cityN ws.length).toNat
def treeLV (ws : List Int) : List Int := if citiesB ws = true then (treeTo ws (treeN ws) (treeN ws - 1)).2.1 else []
def treeIV (ws : List Int) : Int := if citiesB ws = true then (treeTo ws (treeN ws) (treeN ws - 1)).2.2 else 0
theorem treeV_no {ws : List Int} (h : citiesB ws = false) : treeLV ws = [] ∧ treeIV ws = 0 := by
  unfold treeLV treeIV
  rw [if_neg (by rw [h]; decide), if_neg (by rw [h]; decide)]; exact ⟨rfl, rfl⟩
theorem treeV_yes {ws : List Int} {N : Nat} (h : citiesB ws = true) (hN : cityN ws.length = N) : treeLV ws = (treeTo ws N (N - 1)).2.1 ∧ treeIV ws = (treeTo ws N (N - 1)).2.2 := by
  unfold treeLV treeIV treeN
  rw [if_pos h, if_pos h, hN, Int.toNat_natCast]; exact ⟨rfl, rfl⟩
theorem treeLV_len (ws : List Int) : (treeLV ws).length ≤ 1048576 := by
  cases hc : citiesB ws
  · rw [(treeV_no hc).1]; exact Nat.zero_le _
  · obtain ⟨N, hN1, hN2, hsq, hN, hwb⟩ := cities_bd hc
    rw [(treeV_yes hc hN).1, (treeTo_len ws N (N - 1)).2.1]
    omega

set_option maxRecDepth 100000 in
set_option maxHeartbeats 1600000 in
theorem specCityTree_r (A : Option Addr) (n c : Nat) (ws : List Int) (w : World) (h : IntsAt w A n ws) (hl : n ≤ 1048576) :
    Calls Try.prog 8 #[.slice A n c] w (RetLIB 2 (treeLV ws) (treeIV ws) (citiesB ws) w) := by
  have HL := Lib.hid h.len
  cases hc : citiesB ws
  · have hv := countV_no hc
    have HV := Lib.hid (treeV_no hc)
    go_enter Try.func8, Try.ntmps8
    go_wp2_with (go_at_call 28; refine (l04Count_any _ _ _ ws _ h hl).mono ?_; rw [hv]; rintro e w1 ⟨rfl, hd⟩)
    go_ret3
    exact ⟨none, 0, 0, ret_LIB HV.out.2.symm rfl, by rw [HV.out.1]; exact OwnI.nil_ _ _ _, hd.below⟩
  · obtain ⟨N, hN1, hN2, hsq, hN, hwb⟩ := cities_bd hc
    have hv := countV_yes hc
    have HV := Lib.hid (treeV_yes hc hN)
    rw [hN] at hv
    have hpos : ¬ (N : Int) = 0 := by omega
    have HW := Lib.hid (show ∀ j, j < N * N → 0 ≤ ws.getD j 0 ∧ ws.getD j 0 ≤ 1000 from fun j hj => hwb j (by rw [hsq]; exact hj))
    rw [HL.out] at hsq
    have HSQ := Lib.hid hsq
    clear hsq hwb hN hc
    go_enter Try.func8, Try.ntmps8
    go_wp2_with (go_at_call 28; refine (l04Count_any _ _ _ ws _ h hl).mono ?_; rw [hv]; rintro e w1 ⟨rfl, hd⟩)
    refine (l04Tree_any _ _ _ N ws _ (h.drewTo hd) HSQ.out hN1 hN2 HW.out).mono ?_
    rintro e w2 ⟨E, ce, rfl, o1, bb⟩
    go_wp2_with fail
    go_ret3
    exact ⟨E, _, ce, ret_LIB HV.out.2.symm rfl, by rw [HV.out.1]; exact o1.low hd.below.size, below_ext hd.below hd.below.size bb⟩

set_option maxRecDepth 100000 in
set_option maxHeartbeats 1600000 in
theorem implCityTree_r (A : Option Addr) (n c : Nat) (ws : List Int) (w : World) (h : IntsAt w A n ws) (hl : n ≤ 1048576) :
    Calls Try.prog 10 #[.slice A n c] w (RetLIB 2 (treeLV ws) (treeIV ws) (citiesB ws) w) := by
  have HL := Lib.hid h.len
  have HB := Lib.hid (Blk.new w 22 #[.slice A n c])
  have hb : Below w.heap.size w (w.alloc (.cells #[.slice A n c] 22)) := (Below.refl _ _).alloc (Nat.le_refl _) _
  have h1 := h.alloc (.cells #[.slice A n c] 22)
  have p1 := (HB.out.cell 0).trans (show _ = some (Value.slice A n c) from rfl)
  have hs1 : w.heap.size < (w.alloc (.cells #[.slice A n c] 22)).heap.size := by simp
  cases hc : citiesB ws
  · have HV := Lib.hid (treeV_no hc)
    go_enter Try.func10, Try.ntmps10
    go_wp2_with (go_at_call 30; refine (implAreCities_any _ _ _ ws _ h1 hl).mono ?_; rw [hc]; rintro e w1 ⟨rfl, hd⟩)
    go_ret3
    exact ⟨none, 0, 0, ret_LIB HV.out.2.symm rfl, by rw [HV.out.1]; exact OwnI.nil_ _ _ _, below_ext hb hb.size hd.below⟩
  · obtain ⟨N, hN1, hN2, hsq, hN, hwb⟩ := cities_bd hc
    have HV := Lib.hid (treeV_yes hc hN)
    have HW := Lib.hid (show ∀ j, j < N * N → 0 ≤ ws.getD j 0 ∧ ws.getD j 0 ≤ 1000 from fun j hj => hwb j (by rw [hsq]; exact hj))
    rw [HL.out] at hsq hN
    have HSQ := Lib.hid hsq
    clear hsq hwb
    go_enter Try.func10, Try.ntmps10
    go_wp2_with (first | (go_at_call 30; refine (implAreCities_any _ _ _ ws _ h1 hl).mono ?_; rw [hc]; rintro e w1 ⟨rfl, hd⟩; have p2 := ((HB.out.ext hd.below).cell 0).trans (show _ = some (Value.slice A n c) from rfl)) | (go_at_call 31; refine (cities_any _ _ _ _ hl).mono ?_; rw [hN]; rintro e w' ⟨rfl, rfl⟩))
    have hb2 := below_ext hb hb.size hd.below
    have hb3 := hb2.alloc hb2.size (.cells #[.int .i64 (N : Int)] 2)
    have k1 := (HB.out.ext hd.below).alloc (.cells #[.int .i64 (N : Int)] 2)
    have k2 := Blk.new w1 2 #[.int .i64 (N : Int)]
    have h2 := (h1.drewTo hd).alloc (.cells #[.int .i64 (N : Int)] 2)
    refine (cityTree_any A n c N _ _ ws _ h2 HSQ.out hN1 hN2 HW.out k1 k2).mono ?_
    rintro e w2 ⟨E, ce, rfl, o1, bb⟩
    go_wp2_with fail
    go_ret3
    exact ⟨E, _, ce, ret_LIB HV.out.2.symm rfl, by rw [HV.out.1]; exact o1.low hb3.size, below_ext hb3 hb3.size bb⟩
end Go.Proofs.Ythhkgeeomhhegaa
