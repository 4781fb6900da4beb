/- BestGains of the program: the walk. -/
import Derived.Test.YtjpidpocaemkjaaGains2
namespace Go.Proofs.Ytjpidpocaemkjaa
open Go.RowKit

def gainRows (zs ys : List Int) (R k : Nat) : List (List Int) := (List.range (k + 1)).map (gainT zs ys R)
theorem gainRows_len (zs ys : List Int) (R k : Nat) : (gainRows zs ys R k).length = k + 1 := by simp [gainRows]
theorem gainRows_get (zs ys : List Int) (R k j : Nat) (h : j ≤ k) : (gainRows zs ys R k).getD j [] = gainT zs ys R j := by
  simp [gainRows, List.getD, show j < k + 1 by omega]
theorem gainRows_snoc (zs ys : List Int) (R k : Nat) : gainRows zs ys R (k + 1) = gainRows zs ys R k ++ [gainT zs ys R (k + 1)] := by
  unfold gainRows
  rw [List.range_succ (n := k + 1), List.map_append]; rfl

/-- The call hands back rows of ints of its own. -/
def RetRows (T2 T : Nat) (rows : List (List Int)) (w : World) (e : Ending) (w' : World) : Prop :=
  ∃ (O : Option Addr) (n c : Nat) (vs : List Value), e = .returned (.slice O n c) ∧ OwnC T2 w.heap.size 1 w' O n c vs ∧ RowsAt T w.heap.size w' vs rows ∧ Below w.heap.size w w'

theorem infoL : (Try.prog.info? 22).map (fun i => (i.zero, i.size, i.bytes)) = some (some (.slice none 0 0), 1, 24) := by kernel_rfl

theorem gain_up {x g : Int} {prev : List Int} {r0 : Int} {R : Nat} (hl : prev.length = R + 1) (h1 : 1 ≤ x) (hx : x ≤ r0) (hr : r0 ≤ R) :
    (mix (gainStep x g prev) prev r0.toNat).set r0.toNat (max (prev.getD r0.toNat 0) (wrap64 (prev.getD (r0 - x).toNat 0 + g))) = mix (gainStep x g prev) prev (r0 + 1).toNat := by
  have e1 : (r0 + 1).toNat = r0.toNat + 1 := by omega
  rw [e1, ← mix_up (by rw [gainStep_len]) (show r0.toNat < (gainStep x g prev).length by rw [gainStep_len]; omega), gainStep_get (by omega), if_pos (by omega)]
  congr 4
  congr 1
  omega
theorem gain_start {x g : Int} {prev : List Int} {R : Nat} (hl : prev.length = R + 1) (h1 : 1 ≤ x) (hx : x ≤ R + 1) : mix (gainStep x g prev) prev x.toNat = prev :=
  mix_same (by rw [gainStep_len]) (by rw [gainStep_len]; omega) fun j hj => by rw [gainStep_get (by omega), if_neg (by omega)]
theorem gain_big {x g : Int} {prev : List Int} {R : Nat} (hl : prev.length = R + 1) (hx : (R : Int) < x) : gainStep x g prev = prev := by
  apply getD_ext (gainStep_len _ _ _)
  intro j hj
  rw [gainStep_len] at hj
  rw [gainStep_get hj, if_neg (by omega)]

set_option maxRecDepth 100000 in
set_option maxHeartbeats 1600000 in
theorem gainTables_any (A : Option Addr) (n c : Nat) (zs : List Int) (B : Option Addr) (m d : Nat) (ys : List Int) (R : Nat) (w : World) (h : IntsAt w A n zs) (hy : IntsAt w B m ys)
    (hmn : n ≤ m) (hn : n ≤ 1048576) (hm : m ≤ 1048576) (hR : R ≤ 1000) (hz : ∀ k, k < zs.length → 1 ≤ zs.getD k 0 ∧ zs.getD k 0 ≤ 1000) :
    Calls Try.prog 28 #[.slice A n c, .slice B m d, .int .i64 R] w (RetRows 22 2 (gainRows zs ys R n) w) := by
  have HX := Lib.hid h.len
  have HZ := Lib.hid hz
  clear hz
  go_enter Try.func28, Try.ntmps28
  go_wp2_with (at_make; refine wp_make_ints _ rfl _ _ 22 rfl 2 Try.underlying22 info64 .i64 .i64 _ _ (R + 1) rfl rfl (by omega) (by omega) (by omega) ?_; intro w1 g o1 b1)
  have O1 : OwnC 22 w.heap.size 1 (w1.alloc (.cells #[.slice (some ⟨g, 0, none⟩) (R + 1) (R + 1)] 22)) (some ⟨w1.heap.size, 0, none⟩) 1 1 [.slice (some ⟨g, 0, none⟩) (R + 1) (R + 1)] :=
    World.ownsRow_lit (e := 22) (base := w.heap.size) (size := 1) w1 #[.slice (some ⟨g, 0, none⟩) (R + 1) (R + 1)] 1 b1.size (by simp [maxLen]) rfl
  have R1 : RowsAt 2 w.heap.size (w1.alloc (.cells #[.slice (some ⟨g, 0, none⟩) (R + 1) (R + 1)] 22)) [.slice (some ⟨g, 0, none⟩) (R + 1) (R + 1)] (gainRows zs ys R 0) :=
    (RowsAt.nil_.snoc (o1.alloc _) : RowsAt _ _ _ ([] ++ _) ([] ++ _))
  have B1 := b1.alloc b1.size (.cells #[.slice (some ⟨g, 0, none⟩) (R + 1) (R + 1)] 22)
  generalize w1.alloc (.cells #[.slice (some ⟨g, 0, none⟩) (R + 1) (R + 1)] 22) = w2 at *
  go_loopg [7, 18] n (fun r ov i wr => ∃ (k : Nat) (O : Option Addr) (oc : Nat) (vs : List Value), r = n - k ∧ k ≤ n ∧ i = .int .i64 k ∧ ov = .slice O (k + 1) oc ∧ OwnC 22 w.heap.size 1 wr O (k + 1) oc vs ∧ RowsAt 2 w.heap.size wr vs (gainRows zs ys R k) ∧ Below w.heap.size w wr)
  case atStart => exact ⟨0, _, _, _, by omega, by omega, rfl, rfl, O1, R1, B1⟩
  case round =>
    clear o1 b1 O1 R1 B1
    obtain ⟨k, O, oc, vs, hr, hk, rfl, rfl, hO, hrows, hb⟩ := hrel
    have HR := Lib.hid hr
    clear hr
    by_cases hlt : k < n
    · obtain ⟨ad, rfl, had, hcx0⟩ := h.at_ (k := k) (by omega)
      obtain ⟨bd, rfl, hbd, hcy0⟩ := hy.at_ (k := k) (by omega)
      have hx1 := HZ.out k (by rw [HX.out]; omega)
      obtain ⟨P1, pc, hv, hrow⟩ := hrows.at_ (k := k) (by rw [gainRows_len]; omega)
      rw [gainRows_get _ _ _ _ _ (Nat.le_refl _)] at hv hrow
      have HT := Lib.hid (show gainT zs ys R (k + 1) = gainStep (zs.getD k 0) (ys.getD k 0) (gainT zs ys R k) from rfl)
      have HS := Lib.hid (gainRows_snoc zs ys R k)
      have HL := Lib.hid (gainT_len zs ys R k)
      rw [gainT_len] at hv hrow
      obtain ⟨og, rfl, hog, _, _, _⟩ := hO.pos (by omega)
      have hoc := hO.cell (j := k) (by omega)
      rw [hv] at hoc
      have hcx : wr.cell? (ad.add k) = some (.int .i64 (zs.getD k 0)) := by rw [← hcx0]; exact hb.cell (p := ad.add k) (by rw [block_add]; exact had)
      generalize gainT zs ys R k = prev at *
      generalize zs.getD k 0 = x at *
      generalize ys.getD k 0 = y at *
      obtain ⟨x1, x2⟩ := hx1
      go_wp2_with fail
      refine (copyInts_any P1 (R + 1) pc prev _ hrow.ints (by omega)).mono ?_
      rintro e w3 ⟨N1, nc, rfl, oN, b3⟩
      obtain ⟨ng, rfl, hng, _, _, _⟩ := oN.pos (by omega)
      have HO := Lib.hid hO
      have HRW := Lib.hid hrows
      have hsz := hb.size
      clear hO hrows hcx
      go_wp2_with fail
      obtain ⟨wo, rfl⟩ : ∃ wo : World, wo = wr := ⟨_, rfl⟩
      go_loopg [11] (R + 1 - x : Int).toNat (fun q r wi => ∃ (r0 : Int), q = (R + 1 - r0).toNat ∧ x ≤ r0 ∧ (r0 ≤ R + 1 ∨ r0 = x) ∧ r = .int .i64 r0 ∧ OwnI 2 wo.heap.size wi (some ⟨ng, 0, none⟩) (R + 1) nc (mix (gainStep x y prev) prev r0.toNat) ∧ Below wo.heap.size wo wi)
      case atStart =>
        refine ⟨x, by omega, by omega, .inr rfl, rfl, ?_, b3⟩
        by_cases hxR : x ≤ R + 1
        · rw [gain_start HL.out x1 hxR]; exact oN
        · rw [mix_over (gainStep_len _ _ _) (by rw [gainStep_len, HL.out]; omega), gain_big HL.out (by omega)]; exact oN
      case round =>
        clear oN b3
        obtain ⟨r0, hq, hx0, hr2, rfl, hown, hbi⟩ := hrel
        have HQ := Lib.hid hq
        clear hq
        by_cases hge : r0 ≤ R
        · obtain ⟨pg, rfl, _, hpg, _, _⟩ := hrow.pos (by omega)
          have c1 := hown.cell (j := r0.toNat) (by omega)
          rw [mix_ge (Nat.le_refl _) (by rw [gainStep_len, HL.out]; omega)] at c1
          have c2 : wr.cell? ⟨pg, (r0 - x).toNat, none⟩ = some (.int .i64 (prev.getD (r0 - x).toNat 0)) := by
            rw [← hrow.cell (j := (r0 - x).toNat) (by omega)]; exact hbi.cell (p := ⟨pg, (r0 - x).toNat, none⟩) hpg
          have c3 : wr.cell? ⟨og, k, none⟩ = some (.slice (some ⟨pg, 0, none⟩) (R + 1) pc) := by
            rw [← hoc]; exact hbi.cell (p := ⟨og, k, none⟩) (by have := (OwnC.lt HO.out rfl).2; exact this)
          have hcy : wr.cell? (bd.add k) = some (.int .i64 y) := by
            rw [← hcy0, hbi.cell (p := bd.add k) (by rw [block_add]; omega)]; exact hb.cell (p := bd.add k) (by rw [block_add]; exact hbd)
          have f1 := hown.free r0.toNat
          have o2 := hown.set r0.toNat (max (prev.getD r0.toNat 0) (wrap64 (prev.getD (r0 - x).toNat 0 + y)))
          rw [gain_up HL.out x1 hx0 hge] at o2
          have b2 := hbi.setCell (p := ⟨ng, r0.toNat, none⟩) hng (.int .i64 (max (prev.getD r0.toNat 0) (wrap64 (prev.getD (r0 - x).toNat 0 + y))))
          generalize prev.getD r0.toNat 0 = y1 at *
          generalize prev.getD (r0 - x).toNat 0 = y2 at *
          clear hown hbi hcx0 hcy0 hoc hr2
          have q1 : 0 ≤ r0 := by omega
          have q2 : r0 < (R : Int) + 1 := by omega
          have q3 : 0 ≤ r0 - x := by omega
          have q4 : r0 - x < (R : Int) + 1 := by omega
          have q5 : IntKind.i64.wrap (r0 - x) = r0 - x := IntWalk.i64_in _ (by omega)
          have q6 : (k : Int) < n := by omega
          have q7 : (k : Int) < m := by omega
          have q8 : (k : Int) < (k : Int) + 1 := by omega
          go_wp2
          refine wp_region_still_tail 22 (by kernel_rfl) (by kernel_rfl) ?_
          change wpStill _ _ wr.drew (fun a' => wpList _ _ _ _ a' wr.drew) _ _
          simp only [List.take_succ_cons, List.take_zero, List.drop_succ_cons, List.drop_zero]
          repeat still_step
          refine wpStill_nil ?_
          go_wp2
          all_goals
            first | rw [show max y1 (wrap64 (y2 + y)) = wrap64 (y2 + y) from by omega] at o2 b2 | rw [show max y1 (wrap64 (y2 + y)) = y1 from by omega] at o2 b2
            go_roundg (R + 1 - (r0 + 1) : Int).toNat
            case measure => rw [HQ.out]; omega
            case rel => exact ⟨r0 + 1, rfl, by omega, .inl (by omega), rfl, o2.drew, b2.drew⟩
        · have hmx : mix (gainStep x y prev) prev r0.toNat = gainStep x y prev := mix_over (gainStep_len _ _ _) (by rw [gainStep_len, HL.out]; omega)
          rw [hmx, ← HT.out] at hown
          have hO2 := OwnC.below HO.out hbi
          have hrw2 := HRW.out.below hbi
          have hb2 := below_ext hb hsz hbi
          clear hmx hoc hcx0 hcy0
          go_wp2_with (at_builtin; refine wp_append_val wr _ rfl rfl _ _ _ rfl 22 w.heap.size Try.underlying39 _ 24 infoL rfl (by omega) _ _ _ _ rfl hO2 rfl (by omega) hb2.size ?_; intro g4 c4 w4 o4 u4 b4 _)
          go_roundg (n - (k + 1))
          case measure => rw [HR.out]; omega
          case rel =>
            refine ⟨k + 1, _, _, _, rfl, by omega, by go_num, rfl, o4, ?_, hb2.trans b4⟩
            rw [HS.out]
            exact ((hrw2.snoc (hown.low hsz)).updO hO2 (by decide) u4)
    · have e : k = n := by omega
      subst e
      go_wp2
      go_ret
      exact ⟨_, _, _, _, rfl, hO, hrows, hb⟩

set_option maxHeartbeats 800000 in
theorem implBestGains_r (A : Option Addr) (n c : Nat) (zs : List Int) (B : Option Addr) (m d : Nat) (ys : List Int) (room : Int) (w : World) (h : IntsAt w A n zs) (hl : n ≤ 1048576) (hy : IntsAt w B m ys) (hl2 : m ≤ 1048576) :
    Calls Try.prog 11 #[.slice A n c, .slice B m d, .int .i64 room] w (RetLB 2 (gainsV zs ys room) (canB zs ys room) w) := by
  have HX := Lib.hid h.len
  have HY := Lib.hid hy.len
  cases hc : canB zs ys room
  · have HV := Lib.hid (gainsV_no hc)
    go_enter Try.func11, Try.ntmps11
    go_wp2_with (go_at_call 27; refine (arePacks_any _ _ _ zs _ _ _ ys _ _ h hy hl hl2).mono ?_; rintro e w' ⟨rfl, rfl⟩)
    go_ret2
    exact ⟨none, 0, 0, rfl, by rw [HV.out]; exact OwnI.nil_ _ _ _, Below.refl _ _⟩
  · have HV := Lib.hid (gainsV_yes hc)
    obtain ⟨b1, b2, b3, b4, _⟩ := canB_bd hc
    have hbd := sizesB_bd b1
    have hmn : m = n := by rw [← HX.out, ← HY.out]; exact b2
    have HBD := Lib.hid hbd.2.2
    obtain ⟨R, rfl⟩ := Int.eq_ofNat_of_zero_le b3
    rw [Int.toNat_natCast] at HV
    subst hmn
    have HXX := Lib.hid HX.out
    clear hbd b2
    go_enter Try.func11, Try.ntmps11
    go_wp2_with (first | (go_at_call 27; refine (arePacks_any _ _ _ zs _ _ _ ys _ _ h hy hl hl2).mono ?_; rintro e w' ⟨rfl, rfl⟩) | fail)
    refine (gainTables_any A m c zs B m d ys R _ h hy (Nat.le_refl _) hl hl2 (by omega) HBD.out).mono ?_
    rintro e w1 ⟨O, on, oc, vs, rfl, hO, hrows, bb⟩
    have hon : on = m + 1 := by have h1 := hO.len; have h2 := hrows.1; rw [gainRows_len] at h2; omega
    subst hon
    obtain ⟨P1, pc, hv, hrow⟩ := hrows.at_ (k := m) (by rw [gainRows_len]; omega)
    rw [gainRows_get _ _ _ _ _ (Nat.le_refl _)] at hv hrow
    rw [gainT_len] at hv hrow
    obtain ⟨og, rfl, _, _, _, _⟩ := hO.pos (by omega)
    have hoc := hO.cell (j := m) (by omega)
    rw [hv] at hoc
    have q8 : (m : Int) < (m : Int) + 1 := by omega
    clear hO hrows hv
    go_wp2_with fail
    go_ret2
    exact ⟨P1, R + 1, pc, rfl, by rw [HV.out, HXX.out]; exact hrow, bb⟩
end Go.Proofs.Ytjpidpocaemkjaa
