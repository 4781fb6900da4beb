/- WaysToFill: both texts walk the same table. -/
import Derived.Test.YtpmhddcbbajpkaaSizes
import Derived.Test.YtpmhddcbbajpkaaOpen
import Derived.Test.YtpmhddcbbajpkaaMark
import Derived.StillTailTactics
namespace Go.Proofs.Ytpmhddcbbajpkaa
open Go.RowKit

/-- one thing of size s put in: from the greatest room down (k rounds still to come) -/
def fillFrom (s : Nat) : Nat → List Int → List Int
  | 0, ws => ws
  | k + 1, ws => fillFrom s k (ws.set (s + k) (wrap64 (ws.getD (s + k) 0 + ws.getD k 0)))
def fillAll (room : Nat) (zs : List Int) (ws : List Int) : List Int := zs.foldl (fun ws n => fillFrom n.toNat (room + 1 - n.toNat) ws) ws
def fillV (zs : List Int) (room : Int) : Int := if (sizesB zs && inB room 0 1000) = true then (fillAll room.toNat zs ((List.replicate (room.toNat + 1) 0).set 0 1)).getD room.toNat 0 else 0
def fillB (zs : List Int) (room : Int) : Bool := sizesB zs && inB room 0 1000

theorem fillFrom_len (s : Nat) : ∀ (k : Nat) (ws : List Int), (fillFrom s k ws).length = ws.length
  | 0, _ => rfl
  | k + 1, ws => by rw [fillFrom, fillFrom_len s k]; simp
theorem fillAll_len (room : Nat) : ∀ (zs ws : List Int), (fillAll room zs ws).length = ws.length
  | [], _ => rfl
  | z :: zs, ws => by
    show (fillAll room zs _).length = _
    rw [fillAll_len room zs, fillFrom_len]
theorem fillAll_snoc (room : Nat) (zs ws : List Int) (k : Nat) (hk : k < zs.length) :
    fillAll room (zs.take (k + 1)) ws = fillFrom (zs.getD k 0).toNat (room + 1 - (zs.getD k 0).toNat) (fillAll room (zs.take k) ws) := by
  rw [List.take_succ_eq_append_getElem hk, fillAll, List.foldl_append, fillAll]
  simp [List.getD, List.getElem?_eq_getElem hk]

theorem fillV_no {zs : List Int} {room : Int} (h : (sizesB zs && inB room 0 1000) = false) : fillV zs room = 0 := by
  unfold fillV; rw [if_neg (by rw [h]; decide)]
theorem fillV_yes {zs : List Int} {room : Int} (h1 : sizesB zs = true) (h2 : inB room 0 1000 = true) : fillV zs room = (fillAll room.toNat zs ((List.replicate (room.toNat + 1) 0).set 0 1)).getD room.toNat 0 := by
  unfold fillV; rw [if_pos (by rw [h1, h2]; rfl)]

theorem fill_step {x r0 : Int} (h1 : 1 ≤ x) (h2 : x ≤ r0) (ws : List Int) :
    fillFrom x.toNat (r0 + 1 - x).toNat ws = fillFrom x.toNat (r0 - 1 + 1 - x).toNat (ws.set r0.toNat (wrap64 (ws.getD r0.toNat 0 + ws.getD (r0 - x).toNat 0))) := by
  have e : (r0 + 1 - x).toNat = (r0 - x).toNat + 1 := by omega
  have e2 : (r0 - 1 + 1 - x).toNat = (r0 - x).toNat := by omega
  have e3 : x.toNat + (r0 - x).toNat = r0.toNat := by omega
  rw [e, e2, fillFrom, e3]
theorem fill_done {x r0 : Int} (h2 : ¬ x ≤ r0) (ws : List Int) : fillFrom x.toNat (r0 + 1 - x).toNat ws = ws := by
  have e : (r0 + 1 - x).toNat = 0 := by omega
  rw [e]; rfl
theorem sizesB_bd {zs : List Int} (h : sizesB zs = true) : 1 ≤ zs.length ∧ zs.length ≤ 16 ∧ ∀ k, k < zs.length → 1 ≤ zs.getD k 0 ∧ zs.getD k 0 ≤ 1000 := by
  simp only [sizesB, Bool.and_eq_true, decide_eq_true_eq, List.all_eq_true] at h
  obtain ⟨⟨h1, h2⟩, h3⟩ := h
  refine ⟨h1, h2, fun k hk => ?_⟩
  have := h3 (zs.getD k 0) (by simp [List.getD, List.getElem?_eq_getElem hk])
  exact inB_iff.1 this


set_option maxHeartbeats 1600000 in
theorem specWaysToFill_r (A : Option Addr) (n c : Nat) (zs : List Int) (room : Int) (w : World) (h : IntsAt w A n zs) (hl : n ≤ 1048576) :
    Calls Try.prog 16 #[.slice A n c, .int .i64 room] w (RetV (.tuple #[.int .i64 (fillV zs room), .bool (fillB zs room)]) w) := by
  have HL := Lib.hid h.len
  cases hs : sizesB zs
  · have HV := Lib.hid (fillV_no (zs := zs) (room := room) (by rw [hs]; rfl))
    have HB := Lib.hid (show fillB zs room = false by unfold fillB; rw [hs]; rfl)
    go_enter Try.func16, Try.ntmps16
    go_wp2_with (first | (go_at_call 29; refine (l04Sizes_any _ _ _ zs _ h hl).mono ?_; rintro e w' ⟨rfl, rfl⟩) | (go_at_call 34; refine (l00In_any _ _ _ _).mono ?_; rintro e w' ⟨rfl, rfl⟩))
    go_ret2
    exact ⟨ret_IB HV.out.symm HB.out.symm, Below.refl _ _⟩
  · cases hr : inB room 0 1000
    · have HV := Lib.hid (fillV_no (zs := zs) (room := room) (by rw [hs, hr]; rfl))
      have HB := Lib.hid (show fillB zs room = false by unfold fillB; rw [hs, hr]; rfl)
      go_enter Try.func16, Try.ntmps16
      go_wp2_with (first | (go_at_call 29; refine (l04Sizes_any _ _ _ zs _ h hl).mono ?_; rintro e w' ⟨rfl, rfl⟩) | (go_at_call 34; refine (l00In_any _ _ _ _).mono ?_; rintro e w' ⟨rfl, rfl⟩))
      go_ret2
      exact ⟨ret_IB HV.out.symm HB.out.symm, Below.refl _ _⟩
    · have HV := Lib.hid (fillV_yes hs hr)
      have HB := Lib.hid (show fillB zs room = true by unfold fillB; rw [hs, hr]; rfl)
      have hbd := Lib.hid (sizesB_bd hs)
      obtain ⟨r1, r2⟩ := inB_iff.1 hr
      obtain ⟨m, rfl⟩ := Int.eq_ofNat_of_zero_le r1
      rw [Int.toNat_natCast] at HV
      go_enter Try.func16, Try.ntmps16
      go_wp2_with (first | (go_at_call 29; refine (l04Sizes_any _ _ _ zs _ h hl).mono ?_; rintro e w' ⟨rfl, rfl⟩) | (go_at_call 34; refine (l00In_any _ _ _ _).mono ?_; rintro e w' ⟨rfl, rfl⟩) | (at_make; refine wp_make_ints _ rfl _ _ 22 rfl 2 Try.underlying22 info64 .i64 .i64 _ _ (m + 1) rfl rfl (by omega) (by omega) (by omega) ?_; intro w1 g o1 b1; have c0 := o1.cell (j := 0) (by omega); have f0 := o1.free 0))
      have o2 := o1.set 0 1
      have b2 := b1.setCell (p := ⟨g, 0, none⟩) (o1.lt rfl).1 (.int .i64 1)
      have hg := (o1.lt rfl).1
      generalize w1.setCell ⟨g, 0, none⟩ (.int .i64 1) = w2 at *
      generalize hws : (List.replicate (m + 1) (0 : Int)).set 0 1 = ws0 at *
      clear hws c0 f0 o1 b1 w1
      go_loopg [7] n (fun r i wr => ∃ k : Nat, r = n - k ∧ k ≤ n ∧ i = .int .i64 k ∧ OwnI 2 w.heap.size wr (some ⟨g, 0, none⟩) (m + 1) (m + 1) (fillAll m (zs.take k) ws0) ∧ Below w.heap.size w wr)
      case atStart => exact ⟨0, by omega, by omega, rfl, by simpa [fillAll] using o2, b2⟩
      case round =>
        obtain ⟨k, hr, hk, rfl, hown, hb⟩ := hrel
        have HR := Lib.hid hr
        clear hr o2 b2
        by_cases hlt : k < n
        · obtain ⟨ad, rfl, had, hcell0⟩ := h.at_ hlt
          have hx1 := (hbd.out.2.2 k (by rw [HL.out]; exact hlt))
          have HS := Lib.hid (fillAll_snoc m zs ws0 k (by rw [HL.out]; exact hlt))
          generalize hx : zs.getD k 0 = x at *
          clear hx
          obtain ⟨x1, x2⟩ := hx1
          have hcell : wr.cell? (ad.add k) = some (.int .i64 x) := by rw [← hcell0]; exact hb.cell (p := ad.add k) (by rw [block_add]; exact had)
          clear hcell0
          go_wp2
          obtain ⟨wo, rfl⟩ : ∃ wo : World, wo = wr := ⟨_, rfl⟩
          go_loopg [8] (m + 1) (fun q r wi => ∃ (r0 : Int) (ws : List Int), q = (r0 + 1).toNat ∧ -1 ≤ r0 ∧ r0 ≤ m ∧ r = .int .i64 r0 ∧ OwnI 2 w.heap.size wi (some ⟨g, 0, none⟩) (m + 1) (m + 1) ws ∧ Hid (fillFrom x.toNat (r0 + 1 - x).toNat ws = fillAll m (zs.take (k + 1)) ws0) ∧ Below w.heap.size w wi ∧ wi.cell? (ad.add k) = some (.int .i64 x))
          case atStart => exact ⟨m, _, by omega, by omega, by omega, rfl, hown, Lib.hid (by rw [HS.out]; congr 1; omega), hb, hcell⟩
          case round =>
            clear hown hb hcell
            obtain ⟨r0, ws, hq, hr1, hr2, rfl, hown, hfill, hb, hcell⟩ := hrel
            have HQ := Lib.hid hq
            clear hq
            by_cases hge : x ≤ r0
            · have c1 := hown.cell (j := r0.toNat) (by omega)
              have c2 := hown.cell (j := (r0 - x).toNat) (by omega)
              have f1 := hown.free r0.toNat
              have o2 := hown.set r0.toNat (wrap64 (ws.getD r0.toNat 0 + ws.getD (r0 - x).toNat 0))
              have b2 := hb.setCell (p := ⟨g, r0.toNat, none⟩) hg (.int .i64 (wrap64 (ws.getD r0.toNat 0 + ws.getD (r0 - x).toNat 0)))
              have hc2 : (wr.setCell ⟨g, r0.toNat, none⟩ (.int .i64 (wrap64 (ws.getD r0.toNat 0 + ws.getD (r0 - x).toNat 0)))).cell? (ad.add k) = some (.int .i64 x) := by
                rw [World.cell?_setCell_other, hcell]
                intro e
                have : ad.block = g := by rw [← block_add ad k, ← e]
                omega
              have HF := Lib.hid ((fill_step x1 hge ws).symm.trans hfill.out)
              generalize hy1 : ws.getD r0.toNat 0 = y1 at *
              generalize hy2 : ws.getD (r0 - x).toNat 0 = y2 at *
              clear hy1 hy2 hown hfill hb
              have q1 : 0 ≤ r0 := by omega
              have q2 : r0 < (m : Int) + 1 := by omega
              have q3 : 0 ≤ r0 - x := by omega
              have q4 : r0 - x < (m : Int) + 1 := by omega
              have q5 : IntKind.i64.wrap (r0 - x) = r0 - x := IntWalk.i64_in _ (by omega)
              go_wp2
              go_region
              go_wp2
              go_roundg (r0.toNat)
              case measure => rw [HQ.out]; omega
              case rel => exact ⟨r0 - 1, _, by omega, by omega, by omega, rfl, o2.drew, HF, b2.drew, hc2⟩
            · have HF := Lib.hid ((fill_done hge ws).symm.trans hfill.out)
              go_wp2
              go_roundg (n - (k + 1))
              case measure => rw [HR.out]; omega
              case rel => exact ⟨k + 1, by omega, by omega, by go_num, by rw [← HF.out]; exact hown, hb⟩
        · have e : k = n := by omega
          subst e
          have ht : zs.take k = zs := List.take_of_length_le (by rw [HL.out]; exact Nat.le_refl _)
          rw [ht] at hown
          have c1 := hown.cell (j := m) (by omega)
          have HV' := HV.out
          rw [← HV'] at c1
          clear ht HV'
          go_wp2
          go_ret2
          exact ⟨ret_IB rfl HB.out.symm, hb⟩

theorem isRoom_any (n : Int) (w : World) :
    Calls Try.prog 35 #[.int .i64 n] w fun e w' => e = .returned (.bool (inB n 0 1000)) ∧ w = w' := by
  go_enter Try.func35, Try.ntmps35
  go_wp2_with (go_at_call 30; refine (within_any _ _ _ _).mono ?_; rintro e w' ⟨rfl, rfl⟩)
  go_ret
  exact ⟨rfl, rfl⟩

set_option maxHeartbeats 1600000 in
theorem implWaysToFill_r (A : Option Addr) (n c : Nat) (zs : List Int) (room : Int) (w : World) (h : IntsAt w A n zs) (hl : n ≤ 1048576) :
    Calls Try.prog 17 #[.slice A n c, .int .i64 room] w (RetV (.tuple #[.int .i64 (fillV zs room), .bool (fillB zs room)]) w) := by
  have HL := Lib.hid h.len
  cases hs : sizesB zs
  · have HV := Lib.hid (fillV_no (zs := zs) (room := room) (by rw [hs]; rfl))
    have HB := Lib.hid (show fillB zs room = false by unfold fillB; rw [hs]; rfl)
    go_enter Try.func17, Try.ntmps17
    go_wp2_with (first | (go_at_call 12; refine (implAreSizes_any _ _ _ zs _ h hl).mono ?_; rintro e w' ⟨rfl, rfl⟩) | (go_at_call 35; refine (isRoom_any _ _).mono ?_; rintro e w' ⟨rfl, rfl⟩))
    go_ret2
    exact ⟨ret_IB HV.out.symm HB.out.symm, Below.refl _ _⟩
  · cases hr : inB room 0 1000
    · have HV := Lib.hid (fillV_no (zs := zs) (room := room) (by rw [hs, hr]; rfl))
      have HB := Lib.hid (show fillB zs room = false by unfold fillB; rw [hs, hr]; rfl)
      go_enter Try.func17, Try.ntmps17
      go_wp2_with (first | (go_at_call 12; refine (implAreSizes_any _ _ _ zs _ h hl).mono ?_; rintro e w' ⟨rfl, rfl⟩) | (go_at_call 35; refine (isRoom_any _ _).mono ?_; rintro e w' ⟨rfl, rfl⟩))
      go_ret2
      exact ⟨ret_IB HV.out.symm HB.out.symm, Below.refl _ _⟩
    · have HV := Lib.hid (fillV_yes hs hr)
      have HB := Lib.hid (show fillB zs room = true by unfold fillB; rw [hs, hr]; rfl)
      have hbd := Lib.hid (sizesB_bd hs)
      obtain ⟨r1, r2⟩ := inB_iff.1 hr
      obtain ⟨m, rfl⟩ := Int.eq_ofNat_of_zero_le r1
      rw [Int.toNat_natCast] at HV
      go_enter Try.func17, Try.ntmps17
      go_wp2_with (first | (go_at_call 12; refine (implAreSizes_any _ _ _ zs _ h hl).mono ?_; rintro e w' ⟨rfl, rfl⟩) | (go_at_call 35; refine (isRoom_any _ _).mono ?_; rintro e w' ⟨rfl, rfl⟩) | (at_make; refine wp_make_ints _ rfl _ _ 22 rfl 2 Try.underlying22 info64 .i64 .i64 _ _ (m + 1) rfl rfl (by omega) (by omega) (by omega) ?_; intro w1 g o1 b1; have c0 := o1.cell (j := 0) (by omega); have f0 := o1.free 0))
      have o2 := o1.set 0 1
      have b2 := b1.setCell (p := ⟨g, 0, none⟩) (o1.lt rfl).1 (.int .i64 1)
      have hg := (o1.lt rfl).1
      generalize w1.setCell ⟨g, 0, none⟩ (.int .i64 1) = w2 at *
      generalize hws : (List.replicate (m + 1) (0 : Int)).set 0 1 = ws0 at *
      clear hws c0 f0 o1 b1 w1
      go_loopg [25] n (fun r i wr => ∃ k : Nat, r = n - k ∧ k ≤ n ∧ i = .int .i64 k ∧ OwnI 2 w.heap.size wr (some ⟨g, 0, none⟩) (m + 1) (m + 1) (fillAll m (zs.take k) ws0) ∧ Below w.heap.size w wr)
      case atStart => exact ⟨0, by omega, by omega, rfl, by simpa [fillAll] using o2, b2⟩
      case round =>
        obtain ⟨k, hr, hk, rfl, hown, hb⟩ := hrel
        have HR := Lib.hid hr
        clear hr o2 b2
        by_cases hlt : k < n
        · obtain ⟨ad, rfl, had, hcell0⟩ := h.at_ hlt
          have hx1 := (hbd.out.2.2 k (by rw [HL.out]; exact hlt))
          have HS := Lib.hid (fillAll_snoc m zs ws0 k (by rw [HL.out]; exact hlt))
          generalize hx : zs.getD k 0 = x at *
          clear hx
          obtain ⟨x1, x2⟩ := hx1
          have hcell : wr.cell? (ad.add k) = some (.int .i64 x) := by rw [← hcell0]; exact hb.cell (p := ad.add k) (by rw [block_add]; exact had)
          clear hcell0
          go_wp2
          obtain ⟨wo, rfl⟩ : ∃ wo : World, wo = wr := ⟨_, rfl⟩
          go_loopg [9] (m + 1) (fun q r wi => ∃ (r0 : Int) (ws : List Int), q = (r0 + 1).toNat ∧ -1 ≤ r0 ∧ r0 ≤ m ∧ r = .int .i64 r0 ∧ OwnI 2 w.heap.size wi (some ⟨g, 0, none⟩) (m + 1) (m + 1) ws ∧ Hid (fillFrom x.toNat (r0 + 1 - x).toNat ws = fillAll m (zs.take (k + 1)) ws0) ∧ Below w.heap.size w wi ∧ wi.cell? (ad.add k) = some (.int .i64 x))
          case atStart => exact ⟨m, _, by omega, by omega, by omega, rfl, hown, Lib.hid (by rw [HS.out]; congr 1; omega), hb, hcell⟩
          case round =>
            clear hown hb hcell
            obtain ⟨r0, ws, hq, hr1, hr2, rfl, hown, hfill, hb, hcell⟩ := hrel
            have HQ := Lib.hid hq
            clear hq
            by_cases hge : x ≤ r0
            · have c1 := hown.cell (j := r0.toNat) (by omega)
              have c2 := hown.cell (j := (r0 - x).toNat) (by omega)
              have f1 := hown.free r0.toNat
              have o2 := hown.set r0.toNat (wrap64 (ws.getD r0.toNat 0 + ws.getD (r0 - x).toNat 0))
              have b2 := hb.setCell (p := ⟨g, r0.toNat, none⟩) hg (.int .i64 (wrap64 (ws.getD r0.toNat 0 + ws.getD (r0 - x).toNat 0)))
              have hc2 : (wr.setCell ⟨g, r0.toNat, none⟩ (.int .i64 (wrap64 (ws.getD r0.toNat 0 + ws.getD (r0 - x).toNat 0)))).cell? (ad.add k) = some (.int .i64 x) := by
                rw [World.cell?_setCell_other, hcell]
                intro e
                have : ad.block = g := by rw [← block_add ad k, ← e]
                omega
              have HF := Lib.hid ((fill_step x1 hge ws).symm.trans hfill.out)
              generalize hy1 : ws.getD r0.toNat 0 = y1 at *
              generalize hy2 : ws.getD (r0 - x).toNat 0 = y2 at *
              clear hy1 hy2 hown hfill hb
              have q1 : 0 ≤ r0 := by omega
              have q2 : r0 < (m : Int) + 1 := by omega
              have q3 : 0 ≤ r0 - x := by omega
              have q4 : r0 - x < (m : Int) + 1 := by omega
              have q5 : IntKind.i64.wrap (r0 - x) = r0 - x := IntWalk.i64_in _ (by omega)
              go_wp2
              go_region
              go_wp2
              go_roundg (r0.toNat)
              case measure => rw [HQ.out]; omega
              case rel => exact ⟨r0 - 1, _, by omega, by omega, by omega, rfl, o2.drew, HF, b2.drew, hc2⟩
            · have HF := Lib.hid ((fill_done hge ws).symm.trans hfill.out)
              go_wp2
              go_roundg (n - (k + 1))
              case measure => rw [HR.out]; omega
              case rel => exact ⟨k + 1, by omega, by omega, by go_num, by rw [← HF.out]; exact hown, hb⟩
        · have e : k = n := by omega
          subst e
          have ht : zs.take k = zs := List.take_of_length_le (by rw [HL.out]; exact Nat.le_refl _)
          rw [ht] at hown
          have c1 := hown.cell (j := m) (by omega)
          have HV' := HV.out
          rw [← HV'] at c1
          clear ht HV'
          go_wp2
          go_ret2
          exact ⟨ret_IB rfl HB.out.symm, hb⟩
end Go.Proofs.Ytpmhddcbbajpkaa
