/- Complex numbers that are drawn, and lists of them. -/
import Derived.Test.YtnjipckpkcandaaDoorDraw
namespace Go.Proofs.YtnjipckpkcandaaDoor
open Go.RowKit
def cplx (z : Nat × Nat) : Value := .complex .f32 z.1 z.2
theorem infoCx : (Tryd.prog.info? 24).map (fun i => (i.zero, i.size, i.bytes)) = some (some (.complex .f32 0 0), 1, 8) := by kernel_rfl
set_option maxRecDepth 100000 in
theorem drawComplex_any (A : Option Addr) (n c g k : Nat) (s : Int) (w : World) (h : BytesAt w A n) (hl : n ≤ maxLen) (hs : SrcAt w g A n c k s) (hA : BytesFar A n g) (hk : k < 3700000000000000000) :
    Calls Tryd.prog 47 #[.pointer (some ⟨g, 0, none⟩)] w (DrawV isC A n c g k 24 w) := by
  go_enter Tryd.func47, Tryd.ntmps47
  go_wp2_with fail
  refine (drawFloat_any A n c g k s _ h hl hs hA (by omega)).mono ?_
  rintro e w1 ⟨v, k1, s1, rfl, ⟨x, rfl, hx⟩, hk1, hs1, hu1⟩
  replace h := h.upd hu1 hA.no
  go_wp2_with fail
  refine (drawFloat_any A n c g k1 s1 _ h hl hs1 hA (by omega)).mono ?_
  rintro e w2 ⟨v, k2, s2, rfl, ⟨y, rfl, hy⟩, hk2, hs2, hu2⟩
  have hu := hu1.then hu2 fun _ _ h => h
  go_wp2_with fail
  go_ret
  exact ⟨_, k2, s2, rfl, ⟨_, _, rfl, hx, hy⟩, by omega, hs2, hu⟩
set_option maxRecDepth 100000 in
theorem drawFine_any (A : Option Addr) (n c g k : Nat) (s : Int) (w : World) (h : BytesAt w A n) (hl : n ≤ maxLen) (hs : SrcAt w g A n c k s) (hA : BytesFar A n g) (hk : k < 3700000000000000000) :
    Calls Tryd.prog 48 #[.pointer (some ⟨g, 0, none⟩)] w (DrawV isC A n c g k 24 w) := by
  have cF := fun (n : Int) (W : World) => run_toF32 n W
  go_enter Tryd.func48, Tryd.ntmps48
  go_wp2_with fail
  refine (pick_any A n c g k s 65 _ h hl hs hA (by omega) (by omega)).mono ?_
  rintro e w1 ⟨r, k1, s1, rfl, hr, hk1, hs1, hu1⟩
  replace h := h.upd hu1 hA.no
  have hr2 : r < 65 := by omega
  obtain ⟨_, x, _, hx, _, _⟩ := Who.plain_at (i := r + 32) (by omega)
  rw [show ((r + 32 : Nat) : Int) - 64 = (r : Int) - 32 by omega] at hx
  have r1 := fun W => run_fsome0 (P := Tryd.prog) .quo 28 _ _ _ hx W
  have hx2 := Who.quo_lt hx
  clear hx
  go_wp2_with fail
  refine (pick_any A n c g k1 s1 65 _ h hl hs1 hA (by omega) (by omega)).mono ?_
  rintro e w2 ⟨q, k2, s2, rfl, hq, hk2, hs2, hu2⟩
  have hq2 : q < 65 := by omega
  obtain ⟨_, y, _, hy, _, _⟩ := Who.plain_at (i := q + 32) (by omega)
  rw [show ((q + 32 : Nat) : Int) - 64 = (q : Int) - 32 by omega] at hy
  have r2 := fun W => run_fsome0 (P := Tryd.prog) .quo 28 _ _ _ hy W
  have hy2 := Who.quo_lt hy
  clear hy
  have hu := hu1.then hu2 fun _ _ h => h
  go_wp2_with fail
  go_ret
  exact ⟨_, k2, s2, rfl, ⟨_, _, rfl, hx2, hy2⟩, by omega, hs2, hu⟩
/-- words that fit -/
def Fit32 (zs : List (Nat × Nat)) : Prop := ∀ z ∈ zs, z.1 < 4294967296 ∧ z.2 < 4294967296
theorem fit_snoc {zs : List (Nat × Nat)} {a b : Nat} (h : Fit32 zs) (ha : a < 4294967296) (hb : b < 4294967296) : Fit32 (zs ++ [(a, b)]) := by
  intro z hz
  rw [List.mem_append, List.mem_singleton] at hz
  rcases hz with hz | rfl
  · exact h z hz
  · exact ⟨ha, hb⟩
def DrawnCx (T m : Nat) (w : World) (e : Ending) (w' : World) : Prop :=
  ∃ (S : Option Addr) (c : Nat) (zs : List (Nat × Nat)), e = .returned (.slice S m c) ∧ OwnC T w.heap.size 1 w' S m c (zs.map cplx) ∧ Fit32 zs ∧ Below w.heap.size w w'
set_option maxRecDepth 100000 in
set_option maxHeartbeats 1600000 in
theorem b10Any_any (A : Option Addr) (n c m : Nat) (w : World) (h : BytesAt w A n) (hl : n ≤ maxLen) (hm : m ≤ 1000) :
    Calls Tryd.prog 14 #[.slice A n c, .int .i64 (m : Int)] w (DrawnCx 24 m w) := by
  have hin := h.in_
  go_enter Tryd.func14, Tryd.ntmps14
  go_wp2_with fail
  refine (from_any _ _ _ _ h).mono ?_
  rintro e w1 ⟨rfl, hs1, hf, hb1, hz1⟩
  replace h := h.below hb1
  go_wp2_with fail
  go_enter Tryd.func35, Tryd.ntmps35
  have he := World.ownsRow_lit (e := 24) (base := w.heap.size + 1) (size := 1) w1 #[] 0 (by omega) (Nat.zero_le _) rfl
  replace he : OwnC 24 (w.heap.size + 1) 1 (w1.alloc (.cells #[] 24)) (some ⟨w1.heap.size, 0, none⟩) 0 0 [] := he
  have hs2 : SrcAt (w1.alloc (.cells #[] 24)) w.heap.size A n c 0 0 := Blk.alloc hs1 _
  have hb2 := hb1.alloc (by omega) (.cells #[] 24)
  replace h := h.alloc (.cells #[] 24)
  have hz2 : w.heap.size + 1 ≤ (w1.alloc (.cells #[] 24)).heap.size := by simp; omega
  rw [hz1] at he
  go_wp2_with fail
  generalize w1.alloc (.cells #[] 24) = w2 at *
  clear hs1 hb1 hz1
  generalize hG : w.heap.size = g at *
  have HG := Lib.hid hG
  clear hG
  refine (one_any A n c g 0 0 5 _ h hl hs2 hf (by omega) (by omega)).mono ?_
  rintro e w3 ⟨v, k3, s3, rfl, ⟨b, rfl⟩, hk3, hs3, hu3⟩
  replace he := he.upd hu3 fun ad h1 => blk_not (by have := (he.lt h1).1; omega)
  replace h := h.upd hu3 hf.no
  have hz3 := hu3.size
  replace hb2 := hb2.trans (hu3.belowG (by omega))
  have hz4 : g + 1 ≤ w3.heap.size := by omega
  clear hz3 hz2 hs2 hu3
  go_wp2_with fail
  go_loopg [1, 5] m (fun r iv ov wr => ∃ (j k : Nat) (s : Int) (S : Option Addr) (sc : Nat) (out : List (Nat × Nat)), r = m - j ∧ j ≤ m ∧ k ≤ 2 + 24 * j ∧ iv = .int .i64 ((m - j : Nat) : Int) ∧ ov = .slice S j sc ∧ OwnC 24 (g + 1) 1 wr S j sc (out.map cplx) ∧ Fit32 out ∧ Below g w wr ∧ g + 1 ≤ wr.heap.size ∧ SrcAt wr g A n c k s ∧ BytesAt wr A n)
  case atStart => exact ⟨0, k3, s3, _, 0, [], by omega, by omega, by omega, by go_num, rfl, he, (fun x hx => nomatch hx), hb2, hz4, hs3, h⟩
  case round =>
    clear h he hs3 hb2 hz4
    obtain ⟨j, k, s, S, sc, out, hr, hj, hk, rfl, rfl, hown, hall, hb, hz, hs, h⟩ := hrel
    have HR := Lib.hid hr
    have HALL := Lib.hid hall
    clear hr hall
    by_cases hlt : j < m
    · have hp : (0 : Int) < ((m - j : Nat) : Int) := by omega
      have HN := Lib.hid (show ((m - j : Nat) : Int) - 1 = ((m - (j + 1) : Nat) : Int) by omega)
      have hb9 : ((m - j : Nat) : Int) ≤ 100001 := by omega
      generalize ((m - j : Nat) : Int) = rest at *
      cases b
      · go_wp2_with fail
        refine (drawFine_any A n c g k s _ h hl hs hf (by omega)).mono ?_
        rintro e w4 ⟨v, k4, s4, rfl, ⟨x, y, rfl, hx, hy⟩, hk4, hs4, hu4⟩
        replace hown := hown.upd hu4 fun ad h1 => blk_not (by have := (hown.lt h1).1; omega)
        replace h := h.upd hu4 hf.no
        have hz5 := hu4.size
        replace hb := hb.trans (hu4.belowG (by omega))
        have hz6 : g + 1 ≤ w4.heap.size := by omega
        clear hz5
        go_wp2_with (at_builtin; refine wp_append_val w4 (.complex .f32 x y) rfl rfl _ _ _ rfl 24 (g + 1) Tryd.underlying25 _ 8 infoCx rfl (by decide) _ _ _ _ rfl hown rfl (by omega) hz6 ?_; intro g5 c5 w5 o5 u5 b5 hg5)
        go_roundg (m - (j + 1))
        case measure => rw [HR.out]; omega
        case rel =>
          refine ⟨j + 1, k4, s4, _, _, out ++ [(x, y)], rfl, by omega, by omega, by rw [HN.out], rfl, ?_, fit_snoc HALL.out hx hy, hb.trans (b5.mono (by omega)), Nat.le_trans hz6 b5.size, hs4.below b5 (by omega), h.belowB b5 (hin.le (by omega))⟩
          rw [List.map_append]; exact o5
      · go_wp2_with fail
        refine (drawComplex_any A n c g k s _ h hl hs hf (by omega)).mono ?_
        rintro e w4 ⟨v, k4, s4, rfl, ⟨x, y, rfl, hx, hy⟩, hk4, hs4, hu4⟩
        replace hown := hown.upd hu4 fun ad h1 => blk_not (by have := (hown.lt h1).1; omega)
        replace h := h.upd hu4 hf.no
        have hz5 := hu4.size
        replace hb := hb.trans (hu4.belowG (by omega))
        have hz6 : g + 1 ≤ w4.heap.size := by omega
        clear hz5
        go_wp2_with (at_builtin; refine wp_append_val w4 (.complex .f32 x y) rfl rfl _ _ _ rfl 24 (g + 1) Tryd.underlying25 _ 8 infoCx rfl (by decide) _ _ _ _ rfl hown rfl (by omega) hz6 ?_; intro g5 c5 w5 o5 u5 b5 hg5)
        go_roundg (m - (j + 1))
        case measure => rw [HR.out]; omega
        case rel =>
          refine ⟨j + 1, k4, s4, _, _, out ++ [(x, y)], rfl, by omega, by omega, by rw [HN.out], rfl, ?_, fit_snoc HALL.out hx hy, hb.trans (b5.mono (by omega)), Nat.le_trans hz6 b5.size, hs4.below b5 (by omega), h.belowB b5 (hin.le (by omega))⟩
          rw [List.map_append]; exact o5
    · obtain rfl : m = j := by omega
      go_wp2_with fail
      go_ret
      go_wp2_with fail
      exact ⟨S, sc, out, rfl, by rw [HG.out]; exact hown.low (by omega), HALL.out, by rw [HG.out]; exact hb⟩
set_option maxRecDepth 100000 in
theorem b10Number_any (A : Option Addr) (n c : Nat) (w : World) (h : BytesAt w A n) (hl : n ≤ maxLen) :
    Calls Tryd.prog 18 #[.slice A n c] w fun e w' => ∃ b, e = .returned (.float .f32 b) ∧ b < 4294967296 ∧ Below w.heap.size w w' := by
  have hin := h.in_
  go_enter Tryd.func18, Tryd.ntmps18
  go_wp2_with fail
  refine (from_any _ _ _ _ h).mono ?_
  rintro e w1 ⟨rfl, hs1, hf, hb1, hz1⟩
  replace h := h.below hb1
  generalize hG : w.heap.size = g at *
  have HG := Lib.hid hG
  clear hG
  go_wp2_with fail
  refine (one_any A n c g 0 0 2 _ h hl hs1 hf (by omega) (by omega)).mono ?_
  rintro e w2 ⟨v, k2, s2, rfl, ⟨b, rfl⟩, hk2, hs2, hu2⟩
  replace h := h.upd hu2 hf.no
  have hb2 := hb1.trans (hu2.belowG (Nat.le_of_lt (Blk.lt hs1)))
  cases b
  · go_wp2_with fail
    refine (drawFloat_any A n c g k2 s2 _ h hl hs2 hf (by omega)).mono ?_
    rintro e w3 ⟨v, k3, s3, rfl, ⟨x, rfl, hx⟩, hk3, hs3, hu3⟩
    have hb3 := hb2.trans (hu3.belowG (Nat.le_of_lt (Blk.lt hs2)))
    go_wp2_with fail
    go_ret
    exact ⟨_, rfl, hx, by rw [HG.out]; exact hb3⟩
  · go_wp2_with fail
    refine (pick_any A n c g k2 s2 65536 _ h hl hs2 hf (by omega) (by omega)).mono ?_
    rintro e w3 ⟨x, k3, s3, rfl, hx, hk3, hs3, hu3⟩
    replace h := h.upd hu3 hf.no
    have hb3 := hb2.trans (hu3.belowG (Nat.le_of_lt (Blk.lt hs2)))
    have hx2 : x < 65536 := by omega
    go_wp2_with fail
    refine (pick_any A n c g k3 s3 65536 _ h hl hs3 hf (by omega) (by omega)).mono ?_
    rintro e w4 ⟨y, k4, s4, rfl, hy, hk4, hs4, hu4⟩
    have hb4 := hb3.trans (hu4.belowG (Nat.le_of_lt (Blk.lt hs3)))
    have hy2 : y < 65536 := by omega
    have HE := Lib.hid (show (x : Int) * 65536 + (y : Int) = ((x * 65536 + y : Nat) : Int) by omega)
    go_wp2_with fail
    rw [HE.out]
    refine (from32_any (x * 65536 + y) (by omega) _).mono ?_
    rintro e w5 ⟨rfl, rfl⟩
    go_wp2_with fail
    go_ret
    exact ⟨_, rfl, by omega, by rw [HG.out]; exact hb4⟩
set_option maxRecDepth 100000 in
theorem b10Complex_any (A : Option Addr) (n c : Nat) (w : World) (h : BytesAt w A n) (hl : n ≤ maxLen) :
    Calls Tryd.prog 21 #[.slice A n c] w fun e w' => ∃ a b, e = .returned (.complex .f32 a b) ∧ a < 4294967296 ∧ b < 4294967296 ∧ Below w.heap.size w w' := by
  have hin := h.in_
  go_enter Tryd.func21, Tryd.ntmps21
  go_wp2_with fail
  refine (from_any _ _ _ _ h).mono ?_
  rintro e w1 ⟨rfl, hs1, hf, hb1, hz1⟩
  replace h := h.below hb1
  generalize hG : w.heap.size = g at *
  have HG := Lib.hid hG
  clear hG
  go_wp2_with fail
  refine (one_any A n c g 0 0 4 _ h hl hs1 hf (by omega) (by omega)).mono ?_
  rintro e w2 ⟨v, k2, s2, rfl, ⟨b, rfl⟩, hk2, hs2, hu2⟩
  replace h := h.upd hu2 hf.no
  have hb2 := hb1.trans (hu2.belowG (Nat.le_of_lt (Blk.lt hs1)))
  cases b
  · go_wp2_with fail
    refine (drawFine_any A n c g k2 s2 _ h hl hs2 hf (by omega)).mono ?_
    rintro e w3 ⟨v, k3, s3, rfl, ⟨x, y, rfl, hx, hy⟩, hk3, hs3, hu3⟩
    have hb3 := hb2.trans (hu3.belowG (Nat.le_of_lt (Blk.lt hs2)))
    go_wp2_with fail
    go_ret
    exact ⟨_, _, rfl, hx, hy, by rw [HG.out]; exact hb3⟩
  · go_wp2_with fail
    refine (drawComplex_any A n c g k2 s2 _ h hl hs2 hf (by omega)).mono ?_
    rintro e w3 ⟨v, k3, s3, rfl, ⟨x, y, rfl, hx, hy⟩, hk3, hs3, hu3⟩
    have hb3 := hb2.trans (hu3.belowG (Nat.le_of_lt (Blk.lt hs2)))
    go_wp2_with fail
    go_ret
    exact ⟨_, _, rfl, hx, hy, by rw [HG.out]; exact hb3⟩
/-- one complex number with small whole parts -/
def Whole1 (T : Nat) (w : World) (e : Ending) (w' : World) : Prop :=
  ∃ (S : Nat) (c : Nat) (z : Nat × Nat) (x y : Int), e = .returned (.slice (some ⟨S, 0, none⟩) 1 c) ∧ OwnC T w.heap.size 1 w' (some ⟨S, 0, none⟩) 1 c [cplx z] ∧ Who.C32 z x y ∧ x.natAbs ≤ 200 ∧ y.natAbs ≤ 200 ∧ Below w.heap.size w w'
set_option maxRecDepth 100000 in
set_option maxHeartbeats 1600000 in
theorem b10Whole_any (A : Option Addr) (n c : Nat) (w : World) (h : BytesAt w A n) (hl : n ≤ maxLen) :
    Calls Tryd.prog 5 #[.slice A n c, .int .i64 1, .int .i64 200] w (Whole1 24 w) := by
  have hin := h.in_
  have cF := fun (n : Int) (W : World) => run_toF32 n W
  go_enter Tryd.func5, Tryd.ntmps5
  go_wp2_with fail
  refine (from_any _ _ _ _ h).mono ?_
  rintro e w1 ⟨rfl, hs1, hf, hb1, hz1⟩
  replace h := h.below hb1
  have he := World.ownsRow_lit (e := 24) (base := w.heap.size + 1) (size := 1) w1 #[] 0 (by omega) (Nat.zero_le _) rfl
  replace he : OwnC 24 (w.heap.size + 1) 1 (w1.alloc (.cells #[] 24)) (some ⟨w1.heap.size, 0, none⟩) 0 0 [] := he
  have hs2 : SrcAt (w1.alloc (.cells #[] 24)) w.heap.size A n c 0 0 := Blk.alloc hs1 _
  have hb2 := hb1.alloc (by omega) (.cells #[] 24)
  replace h := h.alloc (.cells #[] 24)
  have hz2 : w.heap.size + 1 ≤ (w1.alloc (.cells #[] 24)).heap.size := by simp; omega
  rw [hz1] at he
  go_wp2_with fail
  generalize w1.alloc (.cells #[] 24) = w2 at *
  clear hs1 hb1 hz1
  generalize hG : w.heap.size = g at *
  have HG := Lib.hid hG
  clear hG
  go_loopg [1, 8, 9] 1 (fun r iv ov _ wr => ∃ (j k : Nat) (s : Int) (S : Nat) (sc : Nat) (out : List (Nat × Nat)), r = 1 - j ∧ j ≤ 1 ∧ k ≤ 10 * j ∧ iv = .int .i64 ((1 - j : Nat) : Int) ∧ ov = .slice (some ⟨S, 0, none⟩) j sc ∧ OwnC 24 (g + 1) 1 wr (some ⟨S, 0, none⟩) j sc (out.map cplx) ∧ Below g w wr ∧ g + 1 ≤ wr.heap.size ∧ SrcAt wr g A n c k s ∧ BytesAt wr A n ∧ Hid (j = 1 → ∃ (z : Nat × Nat) (x y : Int), out = [z] ∧ Who.C32 z x y ∧ x.natAbs ≤ 200 ∧ y.natAbs ≤ 200))
  case atStart => exact ⟨0, 0, 0, _, 0, [], rfl, by omega, by omega, rfl, rfl, he, hb2, hz2, hs2, h, Lib.hid (fun h => nomatch h)⟩
  case round =>
    clear h he hs2 hb2 hz2
    obtain ⟨j, k, s, S, sc, out, hr, hj, hk, rfl, rfl, hown, hb, hz, hs, h, HZ⟩ := hrel
    have HR := Lib.hid hr
    clear hr
    by_cases hlt : j < 1
    · obtain rfl : j = 0 := by omega
      have hout : out = [] := by
        have := OwnC.len hown
        cases out with
        | nil => rfl
        | cons a t => simp at this
      subst hout
      go_wp2_with fail
      refine (pick_any A n c g k s 401 _ h hl hs hf (by omega) (by omega)).mono ?_
      rintro e w3 ⟨p, k3, s3, rfl, hp, hk3, hs3, hu3⟩
      replace hown := hown.upd hu3 fun ad h1 => blk_not (by have := (hown.lt h1).1; omega)
      replace h := h.upd hu3 hf.no
      have hz3 := hu3.size
      replace hb := hb.trans (hu3.belowG (by omega))
      have hz4 : g + 1 ≤ w3.heap.size := by omega
      have hp2 : p < 401 := by omega
      clear hz3 hs hu3
      go_wp2_with fail
      refine (pick_any A n c g k3 s3 401 _ h hl hs3 hf (by omega) (by omega)).mono ?_
      rintro e w4 ⟨q, k4, s4, rfl, hq, hk4, hs4, hu4⟩
      replace hown := hown.upd hu4 fun ad h1 => blk_not (by have := (hown.lt h1).1; omega)
      replace h := h.upd hu4 hf.no
      have hz3 := hu4.size
      replace hb := hb.trans (hu4.belowG (by omega))
      have hz5 : g + 1 ≤ w4.heap.size := by omega
      have hq2 : q < 401 := by omega
      clear hz3 hs3 hu4
      go_wp2_with (at_builtin; refine wp_append_val w4 (.complex .f32 _ _) rfl rfl _ _ _ rfl 24 (g + 1) Tryd.underlying25 _ 8 infoCx rfl (by decide) _ _ _ _ rfl hown rfl (by omega) hz5 ?_; intro g5 c5 w5 o5 u5 b5 hg5)
      go_roundg (1 - (0 + 1))
      case measure => rw [HR.out]; omega
      case rel =>
        refine ⟨1, k4, s4, _, _, [(Who.of32 ((p : Int) - 200), Who.of32 ((q : Int) - 200))], rfl, by omega, by omega, rfl, rfl, o5, hb.trans (b5.mono (by omega)), Nat.le_trans hz5 b5.size, hs4.below b5 (by omega), h.belowB b5 (hin.le (by omega)), Lib.hid fun _ => ⟨_, _, _, rfl, ⟨Who.of_I32 (x := (p : Int) - 200) (by omega), Who.of_I32 (x := (q : Int) - 200) (by omega)⟩, by omega, by omega⟩⟩
    · obtain rfl : j = 1 := by omega
      obtain ⟨z, x, y, rfl, h1, h2, h3⟩ := HZ.out rfl
      have H1 := Lib.hid h1
      clear h1
      go_wp2_with fail
      go_ret
      exact ⟨S, sc, z, x, y, rfl, by rw [HG.out]; exact hown.low (by omega), H1.out, h2, h3, by rw [HG.out]; exact hb⟩
end Go.Proofs.YtnjipckpkcandaaDoor
