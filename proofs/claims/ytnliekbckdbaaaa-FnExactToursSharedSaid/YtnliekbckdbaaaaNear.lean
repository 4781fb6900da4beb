/- The nearest city next: the walks. -/
import Derived.Test.YtnliekbckdbaaaaNearPlain
namespace Go.Proofs.Ytnliekbckdbaaaa
open Go.RowKit

set_option maxRecDepth 100000 in
set_option maxHeartbeats 3200000 in
theorem l04Near_any (A : Option Addr) (n c : Nat) (ws : List Int) (N F : Nat) (w : World) (h : IntsAt w A n ws) (hn : n = N * N) (hN1 : 1 ≤ N) (hN : N ≤ 10) (hF : F < N)
    (hw : ∀ j, j < n → 0 ≤ ws.getD j 0 ∧ ws.getD j 0 ≤ 1000) :
    Calls Try.prog 58 #[.slice A n c, .int .i64 N, .int .i64 F] w (RetI 2 (nearTo ws N F (N - 1)) w) := by
  have HN := Lib.hid hn
  have HW := Lib.hid hw
  have HBD := Lib.hid (nearTo_bd ws N F ⟨by omega, by omega⟩)
  have HLN := Lib.hid (nearTo_len ws N F)
  clear hw hn
  have he : OwnI 2 w.heap.size (w.alloc (.cells #[.int .i64 F] 2)) (some ⟨w.heap.size, 0, none⟩) 1 1 (nearTo ws N F 0) := World.ownsRow_lit (e := 2) (base := w.heap.size) (size := 1) w #[.int .i64 F] 1 (Nat.le_refl _) (by simp [maxLen]) rfl
  have hW : Below w.heap.size w (w.alloc (.cells #[.int .i64 F] 2)) := (Below.refl _ _).alloc (Nat.le_refl _) _
  go_enter Try.func58, Try.ntmps58
  have hFN : (F : Int) < (N : Int) := by omega
  go_wp2_with (at_make; refine wp_make_vals _ rfl _ _ 68 rfl (.bool false) 1 rfl (by omega) 4 Try.underlying68 infoB .i64 .i64 _ _ N rfl rfl rfl rfl (by omega) ?_; intro w1 g o1 b1; have ff := OwnC.free o1 F; have cF : w1.cell? ⟨g, F, none⟩ = some (.bool false) := (by rw [OwnC.cell o1 (j := F) (by omega)]; simp [hF]); have hset := o1.set F (.bool true))
  generalize w.alloc (.cells #[.int .i64 F] 2) = w0 at *
  have hg := (OwnC.lt o1 rfl).1
  have hgl := (OwnC.lt o1 rfl).2
  rw [← seenL_nil N, seenL_step [] N F] at hset
  have hs0 : Sep (some ⟨w.heap.size, 0, none⟩) (some ⟨g, 0, none⟩) := by
    intro x y hx hy
    injection hx with hx
    injection hy with hy
    subst hx hy
    have h1 : w.heap.size < w0.heap.size := (he.lt rfl).2
    have h2 : w0.heap.size ≤ g := hg
    show w.heap.size ≠ g
    omega
  have he2 := (he.below b1).far (p := ⟨g, F, none⟩) (fun ad had => by injection had with had; subst had; exact hs0 _ ⟨g, 0, none⟩ rfl rfl) (.bool true)
  have hb2 := below_ext hW hW.size (b1.setCell (p := ⟨g, F, none⟩) hg (.bool true))
  replace hset := OwnC.low hset hW.size
  generalize w1.setCell ⟨g, F, none⟩ (.bool true) = w2 at *
  clear o1 b1 ff cF he hW
  go_loopg [7, 9] (N - 1) (fun r ov av wr => ∃ (j : Nat) (B : Option Addr) (d : Nat), r = N - (j + 1) ∧ j + 1 ≤ N ∧ ov = .slice B (j + 1) d ∧ av = .int .i64 ((nearTo ws N F j).getD j 0) ∧ OwnI 2 w.heap.size wr B (j + 1) d (nearTo ws N F j) ∧ OwnC 4 w.heap.size 1 wr (some ⟨g, 0, none⟩) N N (seenL (nearTo ws N F j) N) ∧ Sep B (some ⟨g, 0, none⟩) ∧ Below w.heap.size w wr)
  case atStart => exact ⟨0, _, _, rfl, hN1, rfl, rfl, he2, hset, hs0, hb2⟩
  case round =>
    clear he2 hset hs0 hb2
    obtain ⟨j, B, d, hr, hj, rfl, rfl, hown, hsn, hs, hb⟩ := hrel
    have HR := Lib.hid hr
    clear hr
    obtain ⟨a0, a1⟩ := HBD.out j hj
    have HS := Lib.hid (nearTo_snoc ws N F j)
    have HLA := Lib.hid (nearTo_last ws N F j)
    have HL := Lib.hid (HLN.out j)
    generalize (nearTo ws N F j).getD j 0 = av at *
    generalize hO : nearTo ws N F j = out at *
    have HOUT := Lib.hid hO
    clear hO
    obtain ⟨a, rfl⟩ := Int.eq_ofNat_of_zero_le a0
    rw [Int.toNat_natCast] at HS HLA
    have ha : a < N := by omega
    by_cases hlt : j + 1 < N
    · have hlt' : ((j : Int) + 1) < (N : Int) := by omega
      have HP := Lib.hid (nextTo_pos ws N out a N (some_free (by rw [HL.out]; exact hlt)))
      go_wp2_with fail
      obtain ⟨wo, rfl⟩ : ∃ wo : World, wo = wr := ⟨_, rfl⟩
      go_loopg [10, 11] N (fun q bv i wi => ∃ k : Nat, q = N - k ∧ k ≤ N ∧ i = .int .i64 k ∧ bv = .int .i64 (nextTo ws N out a k) ∧ Drew wo wi)
      case atStart => exact ⟨0, rfl, by omega, rfl, rfl, Drew.refl _⟩
      case round =>
        obtain ⟨k, hq, hk, rfl, rfl, m, rfl⟩ := hrel
        have HQ := Lib.hid hq
        clear hq
        have hbd := nextTo_bd ws N out a k
        have HY := Lib.hid (@nextTo_yes ws N out a k)
        have HH := Lib.hid (@nextTo_has ws N out a k)
        have HF := Lib.hid (@nextTo_far ws N out a k)
        by_cases hlk : k < N
        · have hlk' : (k : Int) < (N : Int) := by omega
          have hsc := hsn.cell (j := k) (by omega)
          rw [seenL_get hlk] at hsc
          obtain ⟨ad, rfl, _, hc1⟩ := (h.below hb).at_ (k := a * N + k) (by rw [HN.out]; exact idx_lt ha hlk)
          obtain ⟨f1, f2, f3⟩ := mul_facts hN HN.out ha hlk
          generalize hx : ws.getD (a * N + k) 0 = x at *
          generalize nextTo ws N out a k = nx at *
          cases hh : hasB out (k : Int)
          · rw [hh] at hsc
            by_cases hneg : nx < 0
            · have HV := Lib.hid (HY.out hh (.inl hneg))
              go_wp2_with go_quiet (fail)
              go_roundg (N - (k + 1))
              case measure => rw [HQ.out]; omega
              case rel => exact ⟨k + 1, rfl, by omega, by go_num, by rw [HV.out], ⟨_, rfl⟩⟩
            · have hpos : 0 ≤ nx := by omega
              obtain ⟨b, rfl⟩ := Int.eq_ofNat_of_zero_le hpos
              have hbN : b < N := by omega
              obtain ⟨ad', e1, _, hc2⟩ := (h.below hb).at_ (k := a * N + b) (by rw [HN.out]; exact idx_lt ha hbN)
              injection e1 with e1
              subst e1
              obtain ⟨f4, f5, f6⟩ := mul_facts hN HN.out ha hbN
              rw [Int.toNat_natCast] at HY HF
              generalize ws.getD (a * N + b) 0 = y at *
              by_cases hless : x < y
              · have HV := Lib.hid (HY.out hh (.inr hless))
                go_wp2_with go_quiet (fail)
                go_roundg (N - (k + 1))
                case measure => rw [HQ.out]; omega
                case rel => exact ⟨k + 1, rfl, by omega, by go_num, by rw [HV.out], ⟨_, rfl⟩⟩
              · have HV := Lib.hid (HF.out hpos (by omega))
                go_wp2_with go_quiet (fail)
                go_roundg (N - (k + 1))
                case measure => rw [HQ.out]; omega
                case rel => exact ⟨k + 1, rfl, by omega, by go_num, by rw [HV.out], ⟨_, rfl⟩⟩
          · rw [hh] at hsc
            have HV := Lib.hid (HH.out hh)
            go_wp2_with go_quiet (fail)
            go_roundg (N - (k + 1))
            case measure => rw [HQ.out]; omega
            case rel => exact ⟨k + 1, rfl, by omega, by go_num, by rw [HV.out], ⟨_, rfl⟩⟩
        · have e : k = N := by omega
          subst e
          have hpos := HP.out
          generalize nextTo ws k out a k = nx at *
          obtain ⟨b, rfl⟩ := Int.eq_ofNat_of_zero_le hpos
          have hbN : b < k := by omega
          have hbN' : (b : Int) < (k : Int) := by omega
          have hf := OwnC.free hsn b
          have hcb := OwnC.cell hsn (j := b) (by omega)
          rw [seenL_get hbN] at hcb
          have hset := (OwnC.drewN hsn m).set b (.bool true)
          rw [seenL_step, ← HS.out] at hset
          have hgb := (OwnC.lt hsn rfl).1
          have hb3 := (below_drewN hb m).setCell (p := ⟨g, b, none⟩) hgb (.bool true)
          have ho3 := (hown.drewN m).far (p := ⟨g, b, none⟩) (fun ad had => by have := hs ad ⟨g, 0, none⟩ had rfl; exact this) (.bool true)
          have hsz := hb3.size
          have hszq : ((wo.drewN m).setCell ⟨g, b, none⟩ (.bool true)).heap.size = wo.heap.size := by simp
          go_wp2_with (at_builtin; refine wp_append_int _ _ rfl _ _ _ rfl 2 w.heap.size Try.underlying22 info64 B (j + 1) d _ rfl ho3 (by rw [hszq]; rfl) (by omega) hsz ?_; intro g4 c4 w4 o4 u4 b4 hg4)
          go_roundg (k - (j + 1 + 1))
          case measure => rw [HR.out]; omega
          case rel => exact ⟨j + 1, _, _, rfl, by omega, rfl, by rw [HLA.out], by rw [HS.out]; exact o4, OwnC.sep hset u4 hs.symm, sep_append2 hs hset hg4, hb3.trans b4⟩
    · have hge : ¬ ((j : Int) + 1) < (N : Int) := by omega
      have e : N - 1 = j := by omega
      go_wp2_with fail
      go_ret
      first | rw [HOUT.out] | rw [e, HOUT.out]
      exact ⟨_, _, _, rfl, hown, hb⟩

theorem has_q2 (A : Option Addr) (n c : Nat) (zs : List Int) (x : Int) (w : World) (m k : Nat) (h : IntsAt w A n zs) (hl : n ≤ 1048576) (b : Bool) (hb : hasB zs x = b) :
    Calls Try.prog 68 #[.slice A n c, .int .i64 x] (w.drewN (m + k)) fun e w'' => e = .returned (.bool b) ∧ ∃ q, w'' = w.drewN (m + q) :=
  (has_any A n c zs x _ (h.drewN (m + k)) hl).mono fun _ _ ⟨h1, h2⟩ => ⟨by rw [h1, hb], k, h2.symm⟩

set_option maxRecDepth 100000 in
set_option maxHeartbeats 3200000 in
theorem nearTour_any (A : Option Addr) (n c : Nat) (ws : List Int) (N F : Nat) (w : World) (h : IntsAt w A n ws) (hn : n = N * N) (hN1 : 1 ≤ N) (hN : N ≤ 10) (hF : F < N)
    (hw : ∀ j, j < n → 0 ≤ ws.getD j 0 ∧ ws.getD j 0 ≤ 1000) :
    Calls Try.prog 60 #[.slice A n c, .int .i64 F] w (RetI 2 (nearTo ws N F (N - 1)) w) := by
  have HN := Lib.hid hn
  have HW := Lib.hid hw
  have HBD := Lib.hid (nearTo_bd ws N F ⟨by omega, by omega⟩)
  have HLN := Lib.hid (nearTo_len ws N F)
  have hcn := cityN_sq hN1 hN
  rw [← hn] at hcn
  have hl : n ≤ 1048576 := by have := sq_bd hN; omega
  clear hw hn
  have he : OwnI 2 w.heap.size (w.alloc (.cells #[.int .i64 F] 2)) (some ⟨w.heap.size, 0, none⟩) 1 1 (nearTo ws N F 0) := World.ownsRow_lit (e := 2) (base := w.heap.size) (size := 1) w #[.int .i64 F] 1 (Nat.le_refl _) (by simp [maxLen]) rfl
  have hW : Below w.heap.size w (w.alloc (.cells #[.int .i64 F] 2)) := (Below.refl _ _).alloc (Nat.le_refl _) _
  have hFN : (F : Int) < (N : Int) := by omega
  go_enter Try.func60, Try.ntmps60
  go_wp2_with (go_at_call 46; refine (cities_any _ _ _ _ hl).mono ?_; rw [hcn]; rintro e w' ⟨rfl, rfl⟩)
  generalize w.alloc (.cells #[.int .i64 F] 2) = w0 at *
  clear hcn
  go_loopg [6] (N - 1) (fun r ov wr => ∃ (j : Nat) (B : Option Addr) (d : Nat), r = N - (j + 1) ∧ j + 1 ≤ N ∧ ov = .slice B (j + 1) d ∧ OwnI 2 w.heap.size wr B (j + 1) d (nearTo ws N F j) ∧ Below w.heap.size w wr)
  case atStart => exact ⟨0, _, _, rfl, hN1, rfl, he, hW⟩
  case round =>
    clear he hW
    obtain ⟨j, B, d, hr, hj, rfl, hown, hb⟩ := hrel
    have HR := Lib.hid hr
    clear hr
    obtain ⟨a0, a1⟩ := HBD.out j hj
    obtain ⟨bg, rfl, _, _, _, _⟩ := hown.pos (by omega)
    have hcl := hown.cell (j := j) (by omega)
    have HS := Lib.hid (nearTo_snoc ws N F j)
    have HL := Lib.hid (HLN.out j)
    generalize (nearTo ws N F j).getD j 0 = av at *
    generalize hO : nearTo ws N F j = out at *
    have HOUT := Lib.hid hO
    clear hO
    obtain ⟨a, rfl⟩ := Int.eq_ofNat_of_zero_le a0
    rw [Int.toNat_natCast] at HS
    have ha : a < N := by omega
    by_cases hlt : j + 1 < N
    · have hlt' : ((j : Int) + 1) < (N : Int) := by omega
      have HP := Lib.hid (nextTo_pos ws N out a N (some_free (by rw [HL.out]; exact hlt)))
      go_wp2_with (go_at_call 65; refine (size_any _ _).mono ?_; rintro e w' ⟨rfl, rfl⟩)
      obtain ⟨wo, rfl⟩ : ∃ wo : World, wo = wr := ⟨_, rfl⟩
      go_loopg [8, 9] N (fun q bv i wi => ∃ k : Nat, q = N - k ∧ k ≤ N ∧ i = .int .i64 k ∧ bv = .int .i64 (nextTo ws N out a k) ∧ Drew wo wi)
      case atStart => exact ⟨0, rfl, by omega, rfl, rfl, Drew.refl _⟩
      case round =>
        obtain ⟨k, hq, hk, rfl, rfl, m, rfl⟩ := hrel
        have HQ := Lib.hid hq
        clear hq
        have hbd := nextTo_bd ws N out a k
        have HY := Lib.hid (@nextTo_yes ws N out a k)
        have HH := Lib.hid (@nextTo_has ws N out a k)
        have HF := Lib.hid (@nextTo_far ws N out a k)
        by_cases hlk : k < N
        · have hlk' : (k : Int) < (N : Int) := by omega
          have hoi := hown.ints.drewN m
          have hjl : j + 1 ≤ 1048576 := by omega
          obtain ⟨ad, rfl, _, hc1⟩ := (h.below hb).at_ (k := a * N + k) (by rw [HN.out]; exact idx_lt ha hlk)
          obtain ⟨f1, f2, f3⟩ := mul_facts hN HN.out ha hlk
          generalize hx : ws.getD (a * N + k) 0 = x at *
          generalize nextTo ws N out a k = nx at *
          cases hh : hasB out (k : Int)
          · by_cases hneg : nx < 0
            · have HV := Lib.hid (HY.out hh (.inl hneg))
              go_wp2_with fail
              go_quiet ((go_at_call 68; exact has_q2 _ _ _ out _ _ _ _ hown.ints hjl _ hh))
              go_wp2
              go_roundg (N - (k + 1))
              case measure => rw [HQ.out]; omega
              case rel => exact ⟨k + 1, rfl, by omega, by go_num, by rw [HV.out], ⟨_, rfl⟩⟩
            · have hpos : 0 ≤ nx := by omega
              obtain ⟨b, rfl⟩ := Int.eq_ofNat_of_zero_le hpos
              have hbN : b < N := by omega
              obtain ⟨ad', e1, _, hc2⟩ := (h.below hb).at_ (k := a * N + b) (by rw [HN.out]; exact idx_lt ha hbN)
              injection e1 with e1
              subst e1
              obtain ⟨f4, f5, f6⟩ := mul_facts hN HN.out ha hbN
              have v1 : IntKind.i64.wrap ((a : Int) * (N : Int)) = (a : Int) * (N : Int) := IntWalk.i64_in _ (by omega)
              have v2 : IntKind.i64.wrap ((a : Int) * (N : Int) + (k : Int)) = (a : Int) * (N : Int) + (k : Int) := IntWalk.i64_in _ (by omega)
              have v3 : IntKind.i64.wrap ((a : Int) * (N : Int) + (b : Int)) = (a : Int) * (N : Int) + (b : Int) := IntWalk.i64_in _ (by omega)
              have v4 : 0 ≤ (a : Int) * (N : Int) + (k : Int) := by omega
              have v5 : 0 ≤ (a : Int) * (N : Int) + (b : Int) := by omega
              have v6 : ((a : Int) * (N : Int) + (k : Int)).toNat = a * N + k := by
                rw [show (a : Int) * (N : Int) + (k : Int) = ((a * N + k : Nat) : Int) from by push_cast; rfl]; rfl
              have v7 : ((a : Int) * (N : Int) + (b : Int)).toNat = a * N + b := by
                rw [show (a : Int) * (N : Int) + (b : Int) = ((a * N + b : Nat) : Int) from by push_cast; rfl]; rfl
              have v8 : decide ((b : Int) < 0) = false := by rw [decide_eq_false_iff_not]; omega
              rw [Int.toNat_natCast] at HY HF
              generalize ws.getD (a * N + b) 0 = y at *
              by_cases hless : x < y
              · have HV := Lib.hid (HY.out hh (.inr hless))
                go_wp2_with fail
                go_quiet ((go_at_call 68; exact has_q2 _ _ _ out _ _ _ _ hown.ints hjl _ hh))
                go_wp2
                go_roundg (N - (k + 1))
                case measure => rw [HQ.out]; omega
                case rel => exact ⟨k + 1, rfl, by omega, by go_num, by rw [HV.out], ⟨_, rfl⟩⟩
              · have HV := Lib.hid (HF.out hpos (by omega))
                go_wp2_with fail
                go_quiet ((go_at_call 68; exact has_q2 _ _ _ out _ _ _ _ hown.ints hjl _ hh))
                go_wp2
                go_roundg (N - (k + 1))
                case measure => rw [HQ.out]; omega
                case rel => exact ⟨k + 1, rfl, by omega, by go_num, by rw [HV.out], ⟨_, rfl⟩⟩
          · have HV := Lib.hid (HH.out hh)
            go_wp2_with fail
            go_quiet ((go_at_call 68; exact has_q2 _ _ _ out _ _ _ _ hown.ints hjl _ hh))
            go_wp2
            go_roundg (N - (k + 1))
            case measure => rw [HQ.out]; omega
            case rel => exact ⟨k + 1, rfl, by omega, by go_num, by rw [HV.out], ⟨_, rfl⟩⟩
        · have e : k = N := by omega
          subst e
          have hpos := HP.out
          have ho3 := hown.drewN m
          have hb3 := below_drewN hb m
          have hsz := hb3.size
          generalize nextTo ws k out a k = nx at *
          go_wp2_with (at_builtin; refine wp_append_int _ _ rfl _ _ _ rfl 2 w.heap.size Try.underlying22 info64 (some ⟨bg, 0, none⟩) (j + 1) d _ rfl ho3 rfl (by omega) hsz ?_; intro g4 c4 w4 o4 u4 b4 hg4)
          go_roundg (k - (j + 1 + 1))
          case measure => rw [HR.out]; omega
          case rel => exact ⟨j + 1, _, _, rfl, by omega, rfl, by rw [HS.out]; exact o4, hb3.trans b4⟩
    · have hge : ¬ ((j : Int) + 1) < (N : Int) := by omega
      have e : N - 1 = j := by omega
      go_wp2_with (go_at_call 65; refine (size_any _ _).mono ?_; rintro e w' ⟨rfl, rfl⟩)
      go_ret
      first | rw [HOUT.out] | rw [e, HOUT.out]
      exact ⟨_, _, _, rfl, hown, hb⟩
end Go.Proofs.Ytnliekbckdbaaaa
