/- BestGains: the walks of the tables. -/
import Derived.Test.YtjpidpocaemkjaaGains
import Derived.Deep.RegionWith
import Derived.StillTailTactics
namespace Go.Proofs.Ytjpidpocaemkjaa
open Go.RowKit

theorem gain_down {x g : Int} {prev : List Int} {r0 : Int} {R : Nat} (hl : prev.length = R + 1) (h1 : 1 ≤ x) (hx : x ≤ r0) (hr : r0 ≤ R) :
    (mix prev (gainStep x g prev) (r0 + 1).toNat).set r0.toNat (max (prev.getD r0.toNat 0) (wrap64 (prev.getD (r0 - x).toNat 0 + g))) = mix prev (gainStep x g prev) (r0 - 1 + 1).toNat := by
  have e1 : (r0 + 1).toNat = r0.toNat + 1 := by omega
  have e2 : (r0 - 1 + 1).toNat = r0.toNat := by omega
  rw [e1, e2, ← mix_down (by rw [gainStep_len]) (show r0.toNat < prev.length by omega), gainStep_get (by omega), if_pos (by omega)]
  congr 4
  congr 1
  omega
theorem gain_end {x g : Int} {prev : List Int} {r0 : Int} {R : Nat} (hl : prev.length = R + 1) (h1 : -1 ≤ r0) (hx : ¬ x ≤ r0) (hr : r0 ≤ R) :
    mix prev (gainStep x g prev) (r0 + 1).toNat = gainStep x g prev :=
  mix_same (by rw [gainStep_len]) (by omega) fun j hj => by rw [gainStep_get (by omega), if_neg (by omega)]

theorem l00Max_s (a b : Int) (w : World) : Calls Try.prog 47 #[.int .i64 a, .int .i64 b] w fun e w' => e = .returned (.int .i64 (max a b)) ∧ w' = w := (l00Max_any a b w).mono fun _ _ ⟨h1, h2⟩ => ⟨h1, h2.symm⟩

set_option maxRecDepth 100000 in
set_option maxHeartbeats 1600000 in
theorem l04Gains_any (A : Option Addr) (n c : Nat) (zs : List Int) (B : Option Addr) (m d : Nat) (ys : List Int) (K R : Nat) (w : World) (h : IntsAt w A n zs) (hy : IntsAt w B m ys)
    (hK1 : K ≤ n) (hK2 : K ≤ m) (hn : n ≤ 1048576) (hR : R ≤ 1000) (hz : ∀ k, k < zs.length → 1 ≤ zs.getD k 0 ∧ zs.getD k 0 ≤ 1000) :
    Calls Try.prog 26 #[.slice A n c, .slice B m d, .int .i64 K, .int .i64 R] w (RetI 2 (gainT zs ys R K) w) := by
  have HX := Lib.hid h.len
  have HZ := Lib.hid hz
  clear hz
  go_enter Try.func26, Try.ntmps26
  go_wp2_with (at_make; refine wp_make_ints _ rfl _ _ 22 rfl 2 Try.underlying22 info64 .i64 .i64 _ _ (R + 1) rfl rfl (by omega) (by omega) (by omega) ?_; intro w1 g o1 b1)
  have hg := (o1.lt rfl).1
  go_loopg [10] K (fun r i wr => ∃ k : Nat, r = K - k ∧ k ≤ K ∧ i = .int .i64 k ∧ OwnI 2 w.heap.size wr (some ⟨g, 0, none⟩) (R + 1) (R + 1) (gainT zs ys R k) ∧ Below w.heap.size w wr)
  case atStart => exact ⟨0, by omega, by omega, rfl, o1, b1⟩
  case round =>
    clear o1 b1
    obtain ⟨k, hr, hk, rfl, hown, hb⟩ := hrel
    have HR := Lib.hid hr
    clear hr
    by_cases hlt : k < K
    · obtain ⟨ad, rfl, had, hcx0⟩ := h.at_ (k := k) (by omega)
      obtain ⟨bd, rfl, hbd, hcy0⟩ := hy.at_ (k := k) (by omega)
      have hx1 := HZ.out k (by rw [HX.out]; omega)
      have HT := Lib.hid (show gainT zs ys R (k + 1) = gainStep (zs.getD k 0) (ys.getD k 0) (gainT zs ys R k) from rfl)
      have HL := Lib.hid (gainT_len zs ys R k)
      generalize gainT zs ys R k = prev at *
      generalize zs.getD k 0 = x at *
      generalize ys.getD k 0 = y at *
      obtain ⟨x1, x2⟩ := hx1
      go_wp2
      obtain ⟨wo, rfl⟩ : ∃ wo : World, wo = wr := ⟨_, rfl⟩
      go_loopg [11] (R + 1) (fun q r wi => ∃ (r0 : Int), q = (r0 + 1).toNat ∧ -1 ≤ r0 ∧ r0 ≤ R ∧ r = .int .i64 r0 ∧ OwnI 2 w.heap.size wi (some ⟨g, 0, none⟩) (R + 1) (R + 1) (mix prev (gainStep x y prev) (r0 + 1).toNat) ∧ Below w.heap.size w wi)
      case atStart =>
        refine ⟨R, by omega, by omega, by omega, rfl, ?_, hb⟩
        have e : mix prev (gainStep x y prev) ((R : Int) + 1).toNat = prev := by
          have e2 : ((R : Int) + 1).toNat = prev.length := by rw [HL.out]; omega
          rw [e2]
          exact mix_all (by rw [gainStep_len])
        rw [e]; exact hown
      case round =>
        clear hown hb
        obtain ⟨r0, hq, hr1, hr2, rfl, hown, hb⟩ := hrel
        have HQ := Lib.hid hq
        clear hq
        have hcx : wr.cell? (ad.add k) = some (.int .i64 x) := by rw [← hcx0]; exact hb.cell (p := ad.add k) (by rw [block_add]; exact had)
        by_cases hge : x ≤ r0
        · have hcy : wr.cell? (bd.add k) = some (.int .i64 y) := by rw [← hcy0]; exact hb.cell (p := bd.add k) (by rw [block_add]; exact hbd)
          have c1 := hown.cell (j := r0.toNat) (by omega)
          have c2 := hown.cell (j := (r0 - x).toNat) (by omega)
          rw [mix_lt (by omega) (by rw [HL.out]; omega)] at c1 c2
          have f1 := hown.free r0.toNat
          have o2 := hown.set r0.toNat (max (prev.getD r0.toNat 0) (wrap64 (prev.getD (r0 - x).toNat 0 + y)))
          rw [gain_down HL.out x1 hge hr2] at o2
          have b2 := hb.setCell (p := ⟨g, r0.toNat, none⟩) hg (.int .i64 (max (prev.getD r0.toNat 0) (wrap64 (prev.getD (r0 - x).toNat 0 + y))))
          generalize prev.getD r0.toNat 0 = y1 at *
          generalize prev.getD (r0 - x).toNat 0 = y2 at *
          clear hown hb hcx0 hcy0
          have q1 : 0 ≤ r0 := by omega
          have q2 : r0 < (R : Int) + 1 := by omega
          have q3 : 0 ≤ r0 - x := by omega
          have q4 : r0 - x < (R : Int) + 1 := by omega
          have q5 : IntKind.i64.wrap (r0 - x) = r0 - x := IntWalk.i64_in _ (by omega)
          have q6 : (k : Int) < n := by omega
          have q7 : (k : Int) < m := by omega
          go_wp2
          refine wp_region_still_tail 22 (by kernel_rfl) (by kernel_rfl) ?_
          change wpStill _ _ wr.drew (fun a' => wpList _ _ _ _ a' wr.drew) _ _
          simp only [List.take_succ_cons, List.take_zero, List.drop_succ_cons, List.drop_zero]
          repeat still_step
          still_call (l00Max_s _ _ _)
          repeat still_step
          refine wpStill_nil ?_
          go_wp2
          go_roundg (r0.toNat)
          case measure => rw [HQ.out]; omega
          case rel => exact ⟨r0 - 1, by omega, by omega, by omega, rfl, o2.drew, b2.drew⟩
        · have HE := Lib.hid (gain_end (g := y) HL.out hr1 hge hr2)
          rw [HE.out] at hown
          go_wp2
          go_roundg (K - (k + 1))
          case measure => rw [HR.out]; omega
          case rel => exact ⟨k + 1, rfl, by omega, by go_num, by rw [HT.out]; exact hown, hb⟩
    · have e : k = K := by omega
      subst e
      go_wp2
      go_ret
      exact ⟨_, _, _, rfl, hown, hb⟩

theorem canB_bd {zs ys : List Int} {room : Int} (h : canB zs ys room = true) : sizesB zs = true ∧ ys.length = zs.length ∧ 0 ≤ room ∧ room ≤ 1000 ∧ ∀ k, k < ys.length → 0 ≤ ys.getD k 0 ∧ ys.getD k 0 ≤ 1000 := by
  simp only [canB, Bool.and_eq_true, decide_eq_true_eq, List.all_eq_true] at h
  obtain ⟨h1, h2, h3, h4⟩ := h
  obtain ⟨h5, h6⟩ := inB_iff.1 h3
  refine ⟨h1, h2, h5, h6, fun k hk => inB_iff.1 (h4 (ys.getD k 0) (by simp [List.getD, List.getElem?_eq_getElem hk]))⟩

/-- the best gains, if they can be told -/
def gainsV (zs ys : List Int) (room : Int) : List Int := if canB zs ys room = true then gainT zs ys room.toNat zs.length else []
theorem gainsV_no {zs ys : List Int} {room : Int} (h : canB zs ys room = false) : gainsV zs ys room = [] := by unfold gainsV; rw [if_neg (by rw [h]; decide)]
theorem gainsV_yes {zs ys : List Int} {room : Int} (h : canB zs ys room = true) : gainsV zs ys room = gainT zs ys room.toNat zs.length := by unfold gainsV; rw [if_pos h]
theorem gainsV_len (zs ys : List Int) (room : Int) : (gainsV zs ys room).length ≤ 1048576 := by
  cases h : canB zs ys room
  · rw [gainsV_no h]; simp
  · obtain ⟨_, _, h1, h2, _⟩ := canB_bd h
    rw [gainsV_yes h, gainT_len]; omega

theorem specBestGains_r (A : Option Addr) (n c : Nat) (zs : List Int) (B : Option Addr) (m d : Nat) (ys : List Int) (room : Int) (w : World) (h : IntsAt w A n zs) (hl : n ≤ 1048576) (hy : IntsAt w B m ys) (hl2 : m ≤ 1048576) :
    Calls Try.prog 9 #[.slice A n c, .slice B m d, .int .i64 room] w (RetLB 2 (gainsV zs ys room) (canB zs ys room) w) := by
  have HX := Lib.hid h.len
  have HY := Lib.hid hy.len
  cases hc : canB zs ys room
  · have HV := Lib.hid (gainsV_no hc)
    go_enter Try.func9, Try.ntmps9
    go_wp2_with (go_at_call 25; refine (l04Can_any _ _ _ zs _ _ _ ys _ _ h hy hl hl2).mono ?_; rintro e w' ⟨rfl, rfl⟩)
    go_ret2
    exact ⟨none, 0, 0, rfl, by rw [HV.out]; exact OwnI.nil_ _ _ _, Below.refl _ _⟩
  · have HV := Lib.hid (gainsV_yes hc)
    obtain ⟨b1, b2, b3, b4, _⟩ := canB_bd hc
    have hbd := sizesB_bd b1
    have hmn : m = n := by rw [← HX.out, ← HY.out]; exact b2
    have HBD := Lib.hid hbd.2.2
    have HXX := Lib.hid HX.out
    obtain ⟨R, rfl⟩ := Int.eq_ofNat_of_zero_le b3
    rw [Int.toNat_natCast] at HV
    subst hmn
    clear hbd b2
    go_enter Try.func9, Try.ntmps9
    go_wp2_with (first | (go_at_call 25; refine (l04Can_any _ _ _ zs _ _ _ ys _ _ h hy hl hl2).mono ?_; rintro e w' ⟨rfl, rfl⟩) | fail)
    refine (l04Gains_any A m c zs B m d ys m R _ h hy (Nat.le_refl _) (Nat.le_refl _) hl (by omega) HBD.out).mono ?_
    rintro e w1 ⟨A1, n1, c1, rfl, o1, bb⟩
    go_wp2_with fail
    go_ret2
    exact ⟨A1, n1, c1, rfl, by rw [HV.out, HXX.out]; exact o1, bb⟩
end Go.Proofs.Ytjpidpocaemkjaa
