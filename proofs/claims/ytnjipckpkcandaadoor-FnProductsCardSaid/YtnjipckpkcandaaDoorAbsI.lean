/- The program's absolute. -/
import Derived.Test.YtnjipckpkcandaaDoorAbs
import Derived.Laws.BitsAllLaws
namespace Go.Proofs.YtnjipckpkcandaaDoor
open Go.RowKit

theorem clear64 (b : Nat) (h : b < 18446744073709551616) : (bits .andNot .u64 (b : Int) 9223372036854775808).toNat = b % 9223372036854775808 := by
  rw [u64_andNot (b : Int) 9223372036854775808 (by omega) (by omega) (by omega) (by omega)]
  show ((b &&& 9223372036854775807 : Nat) : Int).toNat = _
  rw [Int.toNat_natCast]
  exact Nat.and_two_pow_sub_one_eq_mod b 63
theorem encode64_lt (d : Ieee.Datum) : FloatKind.f64.encode d < 18446744073709551616 := by
  have := encode_wf FloatKind.f64 d
  simp [Lit.wf] at this
  exact this
theorem run_fsome0 {P : Program} (op : BinOp) (t : TypeId) (x y r : Nat) (h : floatBits op .f32 x y = some r) (w : World) : (binOp op t (.float .f32 x) (.float .f32 y)).run P w = .ok (.float .f32 r) w := run_float_arith w op t .f32 x y r h
/-- the way of a number to float64, without its sign, and back -/
theorem abs_chain {b : Nat} (h : nanK .f32 b = false) : ∃ D, floatToFloatBits .f32 b .f64 = some D ∧ D < 18446744073709551616 ∧ floatToFloatBits .f64 (D % 9223372036854775808) .f32 = some (b % 2147483648) := by
  have h' : (Ieee.single.read b).isNaN = false := h
  have hsw : Ieee.double.signWeight = 9223372036854775808 := rfl
  have hwm : ∀ (s : Bool) (r : Nat), r < 9223372036854775808 → Ieee.double.word s r % 9223372036854775808 = r := by
    intro s r hr
    unfold Ieee.Format.word
    rw [hsw]
    cases s
    · simpa using Nat.mod_eq_of_lt hr
    · rw [if_pos rfl, Nat.add_mod_left, Nat.mod_eq_of_lt hr]
  have hd : FloatKind.f32.decode b = Ieee.single.read b := rfl
  have back : ∀ r s2 m2 p2, Ieee.double.read r = .number s2 m2 p2 → (Ieee.single.read (Ieee.single.nearest s2 m2 p2)).isInfinity = false → floatToFloatBits .f64 r .f32 = some (Ieee.single.nearest s2 m2 p2) := by
    intro r s2 m2 p2 hr hi
    unfold floatToFloatBits
    rw [if_neg (by decide)]
    have hd2 : FloatKind.f64.decode r = .number s2 m2 p2 := hr
    rw [hd2]
    have hi2 : (FloatKind.f32.decode (FloatKind.f32.encode (.number s2 m2 p2))).isInfinity = false := hi
    simp only [hi2]
    rfl
  cases hr : Ieee.single.read b with
  | nan s f => rw [hr] at h'; simp [Ieee.Datum.isNaN] at h'
  | infinity s =>
    refine ⟨Ieee.double.word s 9218868437227405312, ?_, ?_, ?_⟩
    · unfold floatToFloatBits
      rw [if_neg (by decide), hd, hr]
      rfl
    · exact encode64_lt (.infinity s)
    · rw [hwm _ _ (by decide)]
      have hb : b % 2147483648 = 2139095040 := by
        have e1 : (Ieee.single).signWeight = 2147483648 := by rfl
        have e2 : (Ieee.single).binade = 8388608 := by rfl
        have e3 : (Ieee.single).infRung = 2139095040 := by rfl
        unfold Ieee.Format.read at hr
        rw [e1, e2, e3] at hr
        dsimp only at hr
        split at hr
        · cases hr
        · split at hr
          · cases hr
          · split at hr
            · assumption
            · cases hr
      rw [hb]
      decide
  | number s m p =>
    obtain ⟨h1, h2, h3⟩ := single_bd hr
    have hn := near64 (s := s) h1 h2 h3
    refine ⟨Ieee.double.nearest s m p, ?_, encode64_lt (.number s m p), ?_⟩
    · unfold floatToFloatBits
      rw [if_neg (by decide), hd, hr]
      have hn2 : (FloatKind.f64.decode (FloatKind.f64.encode (.number s m p))).isInfinity = false := hn
      simp only [hn2]
      rfl
    · by_cases h0 : m = 0
      · subst h0
        have hz : Ieee.double.nearest s 0 p = Ieee.double.word s 0 := by unfold Ieee.Format.nearest; rw [if_pos rfl]
        have hb : b % 2147483648 = 0 := by
          rcases sread hr with ⟨_, _, h6⟩ | ⟨_, _, _, h6, _⟩
          · exact h6
          · omega
        rw [hz, hwm _ _ (by decide), hb]
        decide
      · obtain ⟨r, e1, e2, e3⟩ := dnear hr h0
        rw [e1, hwm _ _ e2]
        have hsn := snear (d := 52 - m.log2) hr h0
        rw [← hsn]
        refine back _ _ _ _ e3 ?_
        rw [hsn]
        have hbb : (Ieee.single.read (b % 2147483648)).isInfinity = false := by
          have e1 : (Ieee.single).signWeight = 2147483648 := by rfl
          have e2 : (Ieee.single).binade = 8388608 := by rfl
          have e3 : (Ieee.single).infRung = 2139095040 := by rfl
          have hlt : b % 2147483648 < 2139095040 := by
            rcases sread hr with ⟨h5, _, h6⟩ | ⟨e, h4, h5, h7, h8, _, h6⟩
            · omega
            · omega
          unfold Ieee.Format.read
          rw [e1, e2, e3, Nat.mod_mod]
          dsimp only
          split
          · rfl
          · first | (rw [if_pos hlt]; rfl) | rfl
        exact hbb
theorem nan64_clear {X : Nat} (h : nanK .f64 X = true) : nanK .f64 (X % 9223372036854775808) = true := by
  have h' : (Ieee.double.read X).isNaN = true := h
  show (Ieee.double.read _).isNaN = true
  have e1 : (Ieee.double).signWeight = 9223372036854775808 := by rfl
  unfold Ieee.Format.read at h' ⊢
  rw [e1] at h' ⊢
  rw [Nat.mod_mod]
  dsimp only at h' ⊢
  split at h'
  · cases h'
  · rename_i g1
    rw [if_neg g1]
    split at h'
    · cases h'
    · rename_i g2
      rw [if_neg g2]
      split at h'
      · cases h'
      · rename_i g3
        rw [if_neg g3]
        rfl
theorem run_cv_nan2 {P : Program} (w : World) (s d : TypeId) (b : Nat) (hs : (P.underlying s).isSome = true) (hd : P.underlying d = some (.float .f32)) (h : nanK .f64 b = true) :
    (convert s d (.float .f64 b)).run P w = .ok (.float .f32 ((Question.nanConv .f32 b).cut (w.tape w.drawn (.nanConv .f32 b)))) w.drew := by
  have h' : (FloatKind.f64.decode b).isNaN = true := h
  obtain ⟨u, hs'⟩ := Option.isSome_iff_exists.1 hs
  cases he : FloatKind.f64.decode b with
  | nan x f => cases u <;> simp [convert, run_underlying hs', run_underlying hd, Conv.floatToFloat, he, Question.forced]
  | infinity s => rw [he] at h'; simp [Ieee.Datum.isNaN] at h'
  | number s m p => rw [he] at h'; simp [Ieee.Datum.isNaN] at h'
theorem cut_nanc32 (x t : Nat) : nanK .f32 ((Question.nanConv .f32 x).cut t) = true := by
  have h : (Question.nanConv .f32 x).cut t = (Question.nanBits .f32 x x).cut t := rfl
  rw [h]
  exact cut_nan .f32 x x t
theorem cut_lt64 (x t : Nat) : (Question.nanConv .f64 x).cut t < 18446744073709551616 := by
  have h : (Question.nanConv .f64 x).cut t = (Question.nanBits .f64 x x).cut t := rfl
  rw [h]
  exact cut_lt .f64 x x t
/-- is a number's magnitude greater than a number -/
def gtAbs (g : Option Nat) (near : Nat) : Bool := match g with | some b => FloatKind.f32.format.order (b % 2147483648) near == some .gt | none => false
theorem order_nanb {a b : Nat} (h : nanK .f32 a = true) : FloatKind.f32.format.order a b = none := order_nan (absK_nan h)
end Go.Proofs.YtnjipckpkcandaaDoor
