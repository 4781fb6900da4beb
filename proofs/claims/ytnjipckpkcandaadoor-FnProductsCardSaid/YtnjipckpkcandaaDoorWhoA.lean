/- Any float32: widened and narrowed again, negated twice, sameness, finiteness: the contracts. -/
import Derived.Test.YtnjipckpkcandaaDoorAbsI
import Derived.Test.YtnjipckpkcandaaDoorHex
import Derived.Test.YtnjipckpkcandaaDoorWhoC
namespace Go.Proofs.YtnjipckpkcandaaDoor
open Go.RowKit
namespace Who
open Ieee
theorem near_word (f : Format) (s : Bool) (M : Nat) (p : Int) : f.nearest s M p = f.word s (f.nearest false M p) := by
  unfold Format.nearest
  split
  · cases s <;> rfl
  · cases s <;> rfl
theorem word_self {b : Nat} (hb : b < 4294967296) : single.word (b / 2147483648 % 2 == 1) (b % 2147483648) = b := by
  have e1 : single.signWeight = 2147483648 := rfl
  unfold Format.word
  rw [e1]
  by_cases h : b < 2147483648
  · rw [Nat.div_eq_of_lt h]
    show b % 2147483648 = b
    omega
  · rw [show b / 2147483648 = 1 by omega]
    show 2147483648 + b % 2147483648 = b
    omega
theorem read_neg {b : Nat} {s : Bool} {m : Nat} {p : Int} (h : single.read b = .number s m p) : s = (b / 2147483648 % 2 == 1) := by
  have e1 : single.signWeight = 2147483648 := rfl
  unfold Format.read at h
  rw [e1] at h
  dsimp only at h
  split at h
  · injection h with h; exact h.symm
  · split at h
    · injection h with h; exact h.symm
    · split at h <;> cases h
/-- a float32 that is a number, widened and narrowed, is itself -/
theorem rtrip {b : Nat} (hb : b < 4294967296) (h : nanK .f32 b = false) : ∃ D, floatToFloatBits .f32 b .f64 = some D ∧ floatToFloatBits .f64 D .f32 = some b := by
  obtain ⟨D, hD, _⟩ := cv_some h
  refine ⟨D, hD, ?_⟩
  have h' : (single.read b).isNaN = false := h
  unfold floatToFloatBits at hD ⊢
  rw [if_neg (by decide)] at hD ⊢
  have hd : FloatKind.f32.decode b = single.read b := rfl
  rw [hd] at hD
  cases hr : single.read b with
  | nan s f => rw [hr] at h'; simp [Datum.isNaN] at h'
  | infinity s =>
    rw [hr] at hD
    injection hD with hD
    have e : double.read D = .infinity s := by
      rw [← hD]
      cases s <;> decide +kernel
    rw [show FloatKind.f64.decode D = .infinity s from e]
    dsimp only
    have e2 : single.word s single.infRung = b := by
      have e1 : single.signWeight = 2147483648 := rfl
      have e3 : single.infRung = 2139095040 := rfl
      have hr2 := hr
      unfold Format.read at hr2
      rw [e1, e3] at hr2
      dsimp only at hr2
      split at hr2
      · cases hr2
      · split at hr2
        · cases hr2
        · split at hr2
          · rename_i h3
            injection hr2 with h4
            rw [← h4, e3, ← h3]; exact word_self hb
          · cases hr2
    exact congrArg some e2
  | number s m p =>
    rw [hr] at hD
    dsimp only at hD
    split at hD
    · cases hD
    injection hD with hD
    have hinf : (FloatKind.f32.decode b).isInfinity = false := by rw [hd, hr]; rfl
    have hs := read_neg hr
    by_cases h0 : m = 0
    · have hb0 : b % 2147483648 = 0 := by
        rcases sread hr with ⟨_, _, h3⟩ | ⟨e, h1, _, h3, _⟩
        · rw [h3, h0]
        · omega
      have e : ∃ P, double.read D = .number s 0 P := by
        obtain ⟨q, hq⟩ := rd good64 s (M := 0) (by decide)
        refine ⟨-(q : Int), ?_⟩
        rw [← hD, h0]
        have : FloatKind.f64.encode (.number s 0 p) = W double s 0 := by
          show double.nearest s 0 p = double.nearest s 0 0
          unfold Format.nearest; rw [if_pos rfl, if_pos rfl]
        rw [this, hq, Nat.zero_mul]
      obtain ⟨P, e⟩ := e
      rw [show FloatKind.f64.decode D = .number s 0 P from e]
      dsimp only
      have e2 : FloatKind.f32.encode (.number s 0 P) = b := by
        show single.nearest s 0 P = b
        unfold Format.nearest
        rw [if_pos rfl, hs, ← hb0]; exact word_self hb
      rw [e2, hinf]; rfl
    · obtain ⟨r, h1, h2, h3⟩ := dnear hr h0
      have hsw : double.signWeight = 9223372036854775808 := rfl
      have e : double.read D = .number s (m <<< (52 - m.log2)) (p - (52 - m.log2 : Nat)) := by
        have g1 := read_word good64 s (r := r) (by rw [hsw]; exact h2)
        have g2 := read_word good64 false (r := r) (by rw [hsw]; exact h2)
        rw [show double.word false r = r from rfl, h3] at g2
        rw [← hD]
        show double.read (double.nearest s m p) = _
        rw [h1, g1]
        split at g2
        · injection g2 with _ g3 g4; rw [if_pos (by assumption), g3, g4]
        · rename_i hn
          rw [if_neg hn]
          split at g2
          · injection g2 with _ g3 g4; rw [if_pos (by assumption), g3, g4]
          · split at g2 <;> cases g2
      rw [show FloatKind.f64.decode D = .number s (m <<< (52 - m.log2)) (p - (52 - m.log2 : Nat)) from e]
      dsimp only
      have e2 : FloatKind.f32.encode (.number s (m <<< (52 - m.log2)) (p - (52 - m.log2 : Nat))) = b := by
        show single.nearest s _ _ = b
        rw [near_word, snear hr h0, hs]; exact word_self hb
      rw [e2, hinf]; rfl
theorem neg_neg (b : Nat) : Op.negFloat .f32 (Op.negFloat .f32 b) = b := by
  show (b ^^^ 2 ^ 31) ^^^ 2 ^ 31 = b
  rw [Nat.xor_assoc, Nat.xor_self, Nat.xor_zero]
theorem neg_lt {b : Nat} (hb : b < 4294967296) : Op.negFloat .f32 b < 4294967296 := Nat.xor_lt_two_pow (n := 32) hb (by decide)
end Who
theorem implSame_any (x y : Nat) (h : bitsB x = bitsB y) (w : World) : Calls Tryd.prog 50 #[.float .f32 x, .float .f32 y] w fun e w' => e = .returned (.bool true) ∧ w = w' := by
  have h1 := fun (b : Nat) (w : World) => run_f32bitsC b w
  unfold bitsB at h
  cases hn : nanK .f32 x
  · cases hm : nanK .f32 y
    · have d1 : (FloatKind.f32.format.order x x != some .eq) = false := by rw [order_selfN, hn]
      have d2 : (FloatKind.f32.format.order y y != some .eq) = false := by rw [order_selfN, hm]
      rw [hn, hm, if_neg (by decide), if_neg (by decide)] at h
      subst h
      clear hn hm d2
      go_enter Tryd.func50, Tryd.ntmps50
      go_wp2_with fail
      go_ret
      exact ⟨rfl, rfl⟩
    · exfalso
      rw [hn, hm, if_neg (by decide), if_pos rfl] at h
      rw [h] at hn
      exact absurd hn (by decide +kernel)
  · cases hm : nanK .f32 y
    · exfalso
      rw [hn, hm, if_pos rfl, if_neg (by decide)] at h
      rw [← h] at hm
      exact absurd hm (by decide +kernel)
    · have d1 : (FloatKind.f32.format.order x x != some .eq) = true := by rw [order_selfN, hn]
      have d2 : (FloatKind.f32.format.order y y != some .eq) = true := by rw [order_selfN, hm]
      clear hn hm h
      go_enter Tryd.func50, Tryd.ntmps50
      go_wp2_with fail
      go_ret
      exact ⟨rfl, rfl⟩
theorem implSameC_any (p q : Nat × Nat) (h1 : bitsB p.1 = bitsB q.1) (h2 : bitsB p.2 = bitsB q.2) (w : World) : Calls Tryd.prog 23 #[.complex .f32 p.1 p.2, .complex .f32 q.1 q.2] w fun e w' => e = .returned (.bool true) ∧ w = w' := by
  have H1 := Lib.hid (implSame_any p.1 q.1 h1 w)
  have H2 := Lib.hid (implSame_any p.2 q.2 h2 w)
  obtain ⟨a, b⟩ := p
  obtain ⟨c, d⟩ := q
  clear h1 h2
  go_enter Tryd.func23, Tryd.ntmps23
  go_wp2_with fail
  refine H1.out.mono ?_
  rintro e w1 ⟨rfl, rfl⟩
  go_wp2_with fail
  refine H2.out.mono ?_
  rintro e w1 ⟨rfl, rfl⟩
  go_wp2_with fail
  go_ret
  exact ⟨rfl, rfl⟩
theorem specSameC_any (p q : Nat × Nat) (b1 : p.1 < 4294967296) (b2 : p.2 < 4294967296) (b3 : q.1 < 4294967296) (b4 : q.2 < 4294967296) (h1 : bitsB p.1 = bitsB q.1) (h2 : bitsB p.2 = bitsB q.2) (w : World) : Calls Tryd.prog 49 #[.complex .f32 p.1 p.2, .complex .f32 q.1 q.2] w fun e w' => e = .returned (.bool true) ∧ w = w' := by
  have H1 := Lib.hid (specL_any p.1 q.1 b1 b3 w)
  have H2 := Lib.hid (specL_any p.2 q.2 b2 b4 w)
  rw [decide_eq_true h1] at H1
  rw [decide_eq_true h2] at H2
  obtain ⟨a, b⟩ := p
  obtain ⟨c, d⟩ := q
  clear h1 h2 b1 b2 b3 b4
  go_enter Tryd.func49, Tryd.ntmps49
  go_wp2_with fail
  go_enter Tryd.func63, Tryd.ntmps63
  go_wp2_with fail
  refine H1.out.mono ?_
  rintro e w1 ⟨rfl, rfl⟩
  go_wp2_with fail
  refine H2.out.mono ?_
  rintro e w1 ⟨rfl, rfl⟩
  go_wp2_with fail
  go_ret
  exact ⟨rfl, rfl⟩
theorem run_negC {P : Program} (w : World) (b : Nat) : (Op.unary .neg (.float .f32 b)).run P w = .ok (.float .f32 (Op.negFloat .f32 b)) w := by simp [Op.unary]
theorem conj_any (p : Nat × Nat) (w : World) : Calls Tryd.prog 8 #[.complex .f32 p.1 p.2] w fun e w' => e = .returned (.complex .f32 p.1 (Op.negFloat .f32 p.2)) ∧ w = w' := by
  obtain ⟨a, b⟩ := p
  have hneg := fun (w : World) (b : Nat) => run_negC (P := Tryd.prog) w b
  go_enter Tryd.func8, Tryd.ntmps8
  go_wp2_with fail
  go_ret
  exact ⟨rfl, rfl⟩
theorem specFin_any (b : Nat) (w : World) : Calls Tryd.prog 26 #[.float .f32 b] w fun e w' => e = .returned (.bool (finO (absK .f32 b))) ∧ Drew w w' := by
  have H1 := Lib.hid (l01Finite_any b w)
  go_enter Tryd.func26, Tryd.ntmps26
  go_wp2_with fail
  refine H1.out.mono ?_
  rintro e w1 ⟨rfl, hd⟩
  go_wp2_with fail
  go_ret
  exact ⟨rfl, hd⟩
theorem implFinC_any (p : Nat × Nat) (w : World) : Calls Tryd.prog 25 #[.complex .f32 p.1 p.2] w fun e w' => e = .returned (.bool (finO (absK .f32 p.1) && finO (absK .f32 p.2))) ∧ Drew w w' := by
  have H1 := fun W => Lib.hid (isFinite_any p.1 W)
  have H2 := fun W => Lib.hid (isFinite_any p.2 W)
  obtain ⟨a, b⟩ := p
  dsimp only at H1 H2 ⊢
  generalize finO (absK .f32 a) = x at *
  generalize finO (absK .f32 b) = y at *
  cases x
  · go_enter Tryd.func25, Tryd.ntmps25
    go_wp2_with fail
    refine (H1 _).out.mono ?_
    rintro e w1 ⟨rfl, hd⟩
    go_wp2_with fail
    go_ret
    exact ⟨rfl, hd⟩
  · go_enter Tryd.func25, Tryd.ntmps25
    go_wp2_with fail
    refine (H1 _).out.mono ?_
    rintro e w1 ⟨rfl, hd⟩
    go_wp2_with fail
    refine (H2 _).out.mono ?_
    rintro e w2 ⟨rfl, hd2⟩
    go_wp2_with fail
    go_ret
    exact ⟨by simp, hd.trans hd2⟩
end Go.Proofs.YtnjipckpkcandaaDoor
