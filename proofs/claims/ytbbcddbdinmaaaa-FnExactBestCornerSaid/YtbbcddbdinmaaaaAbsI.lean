/- The program's absolute. -/
import Derived.Test.YtbbcddbdinmaaaaAbs
import Derived.Laws.BitsAllLaws
namespace Go.Proofs.Ytbbcddbdinmaaaa
open Go.RowKit

theorem clear64 (b : Nat) (h : b < 18446744073709551616) : (bits .andNot .u64 (b : Int) 9223372036854775808).toNat = b % 9223372036854775808 := by
  rw [u64_andNot (b : Int) 9223372036854775808 (by omega) (by omega) (by omega) (by omega)]
  show ((b &&& 9223372036854775807 : Nat) : Int).toNat = _
  rw [Int.toNat_natCast]
  exact Nat.and_two_pow_sub_one_eq_mod b 63
theorem encode64_lt (d : Ieee.Datum) : FloatKind.f64.encode d < 18446744073709551616 := by
  have := encode_wf FloatKind.f64 d
  simp [Lit.wf] at this
  exact this
theorem run_fsome0 {P : Program} (op : BinOp) (t : TypeId) (x y r : Nat) (h : floatBits op .f32 x y = some r) (w : World) : (binOp op t (.float .f32 x) (.float .f32 y)).run P w = .ok (.float .f32 r) w := run_float_arith w op t .f32 x y r h
theorem run_f64bits (b : Nat) (w : World) : (callFunc 105 #[.float .f64 b]).run Try.prog w = .ok (.value (.int .u64 b)) w := by
  rw [run_callFunc_extern Try.func105 (e := Extern.MathFloatBits.float64bits) (by kernel_rfl) (by kernel_rfl) (by kernel_rfl) (by kernel_rfl)]
  rfl
theorem run_f64frombits (n : Int) (w : World) : (callFunc 104 #[.int .u64 n]).run Try.prog w = .ok (.value (.float .f64 n.toNat)) w := by
  rw [run_callFunc_extern Try.func104 (e := Extern.MathFloatBits.float64frombits) (by kernel_rfl) (by kernel_rfl) (by kernel_rfl) (by kernel_rfl)]
  rfl
theorem mathAbs_any (b : Nat) (w : World) (h : b < 18446744073709551616) :
    Calls Try.prog 97 #[.float .f64 b] w fun e w' => e = .returned (.float .f64 (b % 9223372036854775808)) ∧ w = w' := by
  have h1 := fun (b : Nat) (w : World) => run_f64bits b w
  have h2 := fun (b : Int) (w : World) => run_f64frombits b w
  have HC := Lib.hid (clear64 b h)
  go_enter Try.func97, Try.ntmps97
  go_wp2_with fail
  go_ret
  exact ⟨by show Ending.returned (.float .f64 _) = _; rw [HC.out], rfl⟩
/-- the way of a number to float64, without its sign, and back -/
theorem abs_chain {b : Nat} (h : nanK .f32 b = false) : ∃ D, floatToFloatBits .f32 b .f64 = some D ∧ D < 18446744073709551616 ∧ floatToFloatBits .f64 (D % 9223372036854775808) .f32 = some (b % 2147483648) := by
  have h' : (Ieee.single.read b).isNaN = false := h
  have hsw : Ieee.double.signWeight = 9223372036854775808 := rfl
  have hwm : ∀ (s : Bool) (r : Nat), r < 9223372036854775808 → Ieee.double.word s r % 9223372036854775808 = r := by
    intro s r hr
    unfold Ieee.Format.word
    rw [hsw]
    cases s
    · simpa using Nat.mod_eq_of_lt hr
    · rw [if_pos rfl, Nat.add_mod_left, Nat.mod_eq_of_lt hr]
  have hd : FloatKind.f32.decode b = Ieee.single.read b := rfl
  have back : ∀ r s2 m2 p2, Ieee.double.read r = .number s2 m2 p2 → (Ieee.single.read (Ieee.single.nearest s2 m2 p2)).isInfinity = false → floatToFloatBits .f64 r .f32 = some (Ieee.single.nearest s2 m2 p2) := by
    intro r s2 m2 p2 hr hi
    unfold floatToFloatBits
    rw [if_neg (by decide)]
    have hd2 : FloatKind.f64.decode r = .number s2 m2 p2 := hr
    rw [hd2]
    have hi2 : (FloatKind.f32.decode (FloatKind.f32.encode (.number s2 m2 p2))).isInfinity = false := hi
    simp only [hi2]
    rfl
  cases hr : Ieee.single.read b with
  | nan s f => rw [hr] at h'; simp [Ieee.Datum.isNaN] at h'
  | infinity s =>
    refine ⟨Ieee.double.word s 9218868437227405312, ?_, ?_, ?_⟩
    · unfold floatToFloatBits
      rw [if_neg (by decide), hd, hr]
      rfl
    · exact encode64_lt (.infinity s)
    · rw [hwm _ _ (by decide)]
      have hb : b % 2147483648 = 2139095040 := by
        have e1 : (Ieee.single).signWeight = 2147483648 := by rfl
        have e2 : (Ieee.single).binade = 8388608 := by rfl
        have e3 : (Ieee.single).infRung = 2139095040 := by rfl
        unfold Ieee.Format.read at hr
        rw [e1, e2, e3] at hr
        dsimp only at hr
        split at hr
        · cases hr
        · split at hr
          · cases hr
          · split at hr
            · assumption
            · cases hr
      rw [hb]
      decide
  | number s m p =>
    obtain ⟨h1, h2, h3⟩ := single_bd hr
    have hn := near64 (s := s) h1 h2 h3
    refine ⟨Ieee.double.nearest s m p, ?_, encode64_lt (.number s m p), ?_⟩
    · unfold floatToFloatBits
      rw [if_neg (by decide), hd, hr]
      have hn2 : (FloatKind.f64.decode (FloatKind.f64.encode (.number s m p))).isInfinity = false := hn
      simp only [hn2]
      rfl
    · by_cases h0 : m = 0
      · subst h0
        have hz : Ieee.double.nearest s 0 p = Ieee.double.word s 0 := by unfold Ieee.Format.nearest; rw [if_pos rfl]
        have hb : b % 2147483648 = 0 := by
          rcases sread hr with ⟨_, _, h6⟩ | ⟨_, _, _, h6, _⟩
          · exact h6
          · omega
        rw [hz, hwm _ _ (by decide), hb]
        decide
      · obtain ⟨r, e1, e2, e3⟩ := dnear hr h0
        rw [e1, hwm _ _ e2]
        have hsn := snear (d := 52 - m.log2) hr h0
        rw [← hsn]
        refine back _ _ _ _ e3 ?_
        rw [hsn]
        have hbb : (Ieee.single.read (b % 2147483648)).isInfinity = false := by
          have e1 : (Ieee.single).signWeight = 2147483648 := by rfl
          have e2 : (Ieee.single).binade = 8388608 := by rfl
          have e3 : (Ieee.single).infRung = 2139095040 := by rfl
          have hlt : b % 2147483648 < 2139095040 := by
            rcases sread hr with ⟨h5, _, h6⟩ | ⟨e, h4, h5, h7, h8, _, h6⟩
            · omega
            · omega
          unfold Ieee.Format.read
          rw [e1, e2, e3, Nat.mod_mod]
          dsimp only
          split
          · rfl
          · first | (rw [if_pos hlt]; rfl) | rfl
        exact hbb
theorem nan64_clear {X : Nat} (h : nanK .f64 X = true) : nanK .f64 (X % 9223372036854775808) = true := by
  have h' : (Ieee.double.read X).isNaN = true := h
  show (Ieee.double.read _).isNaN = true
  have e1 : (Ieee.double).signWeight = 9223372036854775808 := by rfl
  unfold Ieee.Format.read at h' ⊢
  rw [e1] at h' ⊢
  rw [Nat.mod_mod]
  dsimp only at h' ⊢
  split at h'
  · cases h'
  · rename_i g1
    rw [if_neg g1]
    split at h'
    · cases h'
    · rename_i g2
      rw [if_neg g2]
      split at h'
      · cases h'
      · rename_i g3
        rw [if_neg g3]
        rfl
theorem run_cv_nan2 {P : Program} (w : World) (s d : TypeId) (b : Nat) (hs : (P.underlying s).isSome = true) (hd : P.underlying d = some (.float .f32)) (h : nanK .f64 b = true) :
    (convert s d (.float .f64 b)).run P w = .ok (.float .f32 ((Question.nanConv .f32 b).cut (w.tape w.drawn (.nanConv .f32 b)))) w.drew := by
  have h' : (FloatKind.f64.decode b).isNaN = true := h
  obtain ⟨u, hs'⟩ := Option.isSome_iff_exists.1 hs
  cases he : FloatKind.f64.decode b with
  | nan x f => cases u <;> simp [convert, run_underlying hs', run_underlying hd, Conv.floatToFloat, he, Question.forced]
  | infinity s => rw [he] at h'; simp [Ieee.Datum.isNaN] at h'
  | number s m p => rw [he] at h'; simp [Ieee.Datum.isNaN] at h'
theorem cut_nanc32 (x t : Nat) : nanK .f32 ((Question.nanConv .f32 x).cut t) = true := by
  have h : (Question.nanConv .f32 x).cut t = (Question.nanBits .f32 x x).cut t := rfl
  rw [h]
  exact cut_nan .f32 x x t
theorem cut_lt64 (x t : Nat) : (Question.nanConv .f64 x).cut t < 18446744073709551616 := by
  have h : (Question.nanConv .f64 x).cut t = (Question.nanBits .f64 x x).cut t := rfl
  rw [h]
  exact cut_lt .f64 x x t
/-- is a number's magnitude greater than a number -/
def gtAbs (g : Option Nat) (near : Nat) : Bool := match g with | some b => FloatKind.f32.format.order (b % 2147483648) near == some .gt | none => false
theorem order_nanb {a b : Nat} (h : nanK .f32 a = true) : FloatKind.f32.format.order a b = none := order_nan (absK_nan h)
theorem absolute_any (b : Nat) (w : World) :
    Calls Try.prog 77 #[.float .f32 b] w fun e w' => ∃ r, e = .returned (.float .f32 r) ∧ (∀ near, (FloatKind.f32.format.order r near == some .gt) = gtAbs (absK .f32 b) near) ∧ Drew w w' := by
  cases hb : nanK .f32 b
  · obtain ⟨D, h1, h2, h3⟩ := abs_chain hb
    have hcv := fun (w : World) => run_convert_float_float (P := Try.prog) w 34 53 .f32 .f64 b D (by kernel_rfl) Try.underlying53 h1
    have hcv2 := fun (w : World) => run_convert_float_float (P := Try.prog) w 53 34 .f64 .f32 (D % 9223372036854775808) (b % 2147483648) (by kernel_rfl) Try.underlying34 h3
    have HG := Lib.hid (show ∀ near, (FloatKind.f32.format.order (b % 2147483648) near == some .gt) = gtAbs (absK .f32 b) near by intro near; rw [absK_of hb]; rfl)
    clear h1 h3
    go_enter Try.func77, Try.ntmps77
    go_wp2_with fail
    refine (mathAbs_any D _ h2).mono ?_
    rintro e w1 ⟨rfl, rfl⟩
    go_wp2_with fail
    go_ret
    exact ⟨_, rfl, HG.out, Drew.refl _⟩
  · have hcv := fun (w : World) => run_cv_nan (P := Try.prog) w 34 53 b (by kernel_rfl) Try.underlying53 hb
    have hcv2 := fun (t : Nat) (w : World) => run_cv_nan2 (P := Try.prog) w 53 34 ((Question.nanConv .f64 b).cut t % 9223372036854775808) (by kernel_rfl) Try.underlying34 (nan64_clear (cut_nanc b t))
    have HG := Lib.hid (fun x t => show ∀ near, (FloatKind.f32.format.order ((Question.nanConv .f32 x).cut t) near == some .gt) = gtAbs (absK .f32 b) near by intro near; rw [absK_nan hb, order_nanb (cut_nanc32 x t)]; rfl)
    go_enter Try.func77, Try.ntmps77
    go_wp2_with fail
    refine (mathAbs_any _ _ (cut_lt64 _ _)).mono ?_
    rintro e w1 ⟨rfl, rfl⟩
    go_wp2_with fail
    go_ret
    exact ⟨_, rfl, HG.out _ _, ⟨2, rfl⟩⟩
theorem read_mod (b : Nat) (h : (b / 2147483648 % 2 == 1) = false) : Ieee.single.read b = Ieee.single.read (b % 2147483648) := by
  have e1 : (Ieee.single).signWeight = 2147483648 := by rfl
  unfold Ieee.Format.read
  rw [e1, Nat.mod_mod, h, show b % 2147483648 / 2147483648 = 0 from Nat.div_eq_of_lt (Nat.mod_lt _ (by decide))]
  rfl
theorem read_sign {b : Nat} {d : Ieee.Datum} (h : Ieee.single.read b = d) : d.neg = (b / 2147483648 % 2 == 1) := by
  have e1 : (Ieee.single).signWeight = 2147483648 := by rfl
  rw [← h]
  unfold Ieee.Format.read
  rw [e1]
  dsimp only
  split
  · rfl
  · split
    · rfl
    · split <;> rfl
theorem read0 : Ieee.single.read 0 = .number false 0 (-149) := by rfl
theorem size_gt {b : Nat} (hn : nanK .f32 b = false) : (FloatKind.f32.format.order b 0 == some .lt || FloatKind.f32.format.order b 0 == some .eq) = true ∧ floatBits .sub .f32 0 b = some (b % 2147483648) ∨
    (FloatKind.f32.format.order b 0 == some .lt || FloatKind.f32.format.order b 0 == some .eq) = false ∧ Ieee.single.read b = Ieee.single.read (b % 2147483648) := by
  have h' : (Ieee.single.read b).isNaN = false := hn
  have ho : FloatKind.f32.format.order b 0 = (Ieee.single.read b).order (.number false 0 (-149)) := rfl
  have hs : floatBits .sub .f32 0 b = ((Ieee.Datum.number false 0 (-149)).sum (Ieee.single.read b).opposite).map Ieee.single.write := rfl
  rw [ho, hs]
  cases hr : Ieee.single.read b with
  | nan s f => rw [hr] at h'; simp [Ieee.Datum.isNaN] at h'
  | infinity s =>
    have hsg := read_sign hr
    cases s with
    | true =>
      refine .inl ⟨rfl, ?_⟩
      have hb : b % 2147483648 = 2139095040 := by
        have e1 : (Ieee.single).signWeight = 2147483648 := by rfl
        have e2 : (Ieee.single).binade = 8388608 := by rfl
        have e3 : (Ieee.single).infRung = 2139095040 := by rfl
        unfold Ieee.Format.read at hr
        rw [e1, e2, e3] at hr
        dsimp only at hr
        split at hr
        · cases hr
        · split at hr
          · cases hr
          · split at hr
            · assumption
            · cases hr
      rw [hb]
      rfl
    | false =>
      refine .inr ⟨rfl, ?_⟩
      rw [← hr]
      exact read_mod b hsg.symm
  | number s m p =>
    have hsg := read_sign hr
    obtain ⟨h1, h2, h3⟩ := single_bd hr
    have hbase : min (-149 : Int) p = -149 := by omega
    have hbase2 : min p (-149 : Int) = -149 := by omega
    by_cases h0 : m = 0
    · subst h0
      have hb : b % 2147483648 = 0 := by
        rcases sread hr with ⟨_, _, h6⟩ | ⟨_, _, _, h6, _⟩
        · exact h6
        · omega
      refine .inl ⟨?_, ?_⟩
      · unfold Ieee.Datum.order Ieee.signed
        simp
      · rw [hb]
        unfold Ieee.Datum.opposite Ieee.Datum.sum Ieee.signed
        simp
        cases s <;> simp [Ieee.Format.write, Ieee.Format.nearest, Ieee.Format.word]
    · obtain ⟨k, hk⟩ : ∃ k : Nat, p - -149 = k := ⟨(p - -149).toNat, by omega⟩
      have hpk : p = (k : Int) - 149 := by omega
      have hpos : 0 < m <<< k := by rw [Nat.shiftLeft_eq]; exact Nat.mul_pos (Nat.pos_of_ne_zero h0) (Nat.two_pow_pos k)
      have hsn := snear (d := k) hr h0
      have hpk2 : p - (k : Int) = -149 := by omega
      rw [hpk2] at hsn
      have hz : Ieee.signed false 0 ((-149 : Int) - -149).toNat = 0 := by unfold Ieee.signed; simp
      cases s with
      | true =>
        have hm : Ieee.signed true m (p - -149).toNat = -((m <<< k : Nat) : Int) := by unfold Ieee.signed; rw [hk]; simp
        have hm2 : Ieee.signed false m (p - -149).toNat = ((m <<< k : Nat) : Int) := by unfold Ieee.signed; rw [hk]; simp
        have ho2 : (Ieee.Datum.number true m p).order (.number false 0 (-149)) = some .lt := by
          show some (compare (Ieee.signed true m (p - min p (-149)).toNat) (Ieee.signed false 0 (-149 - min p (-149)).toNat)) = _
          rw [hbase2, hm, hz]
          congr 1
          show compareOfLessAndEq _ _ = _
          unfold compareOfLessAndEq
          rw [if_pos (by omega)]
        have hs2 : (Ieee.Datum.number false 0 (-149)).sum (Ieee.Datum.number true m p).opposite = some (.number false (m <<< k) (-149)) := by
          show some (Ieee.Datum.number (if Ieee.signed false 0 (-149 - min (-149) p).toNat + Ieee.signed false m (p - min (-149) p).toNat = 0 then false && false else decide (Ieee.signed false 0 (-149 - min (-149) p).toNat + Ieee.signed false m (p - min (-149) p).toNat < 0)) (Ieee.signed false 0 (-149 - min (-149) p).toNat + Ieee.signed false m (p - min (-149) p).toNat).natAbs (min (-149) p)) = _
          rw [hbase, hm2, hz]
          have hne : ¬ ((0 : Int) + ((m <<< k : Nat) : Int) = 0) := by omega
          have hge : ¬ ((0 : Int) + ((m <<< k : Nat) : Int) < 0) := by omega
          rw [if_neg hne, decide_eq_false hge, show ((0 : Int) + ((m <<< k : Nat) : Int)).natAbs = m <<< k by omega]
        refine .inl ⟨by rw [ho2]; rfl, ?_⟩
        rw [hs2]
        exact congrArg some hsn
      | false =>
        have hm : Ieee.signed false m (p - -149).toNat = ((m <<< k : Nat) : Int) := by unfold Ieee.signed; rw [hk]; simp
        have ho2 : (Ieee.Datum.number false m p).order (.number false 0 (-149)) = some .gt := by
          show some (compare (Ieee.signed false m (p - min p (-149)).toNat) (Ieee.signed false 0 (-149 - min p (-149)).toNat)) = _
          rw [hbase2, hm, hz]
          congr 1
          show compareOfLessAndEq _ _ = _
          unfold compareOfLessAndEq
          rw [if_neg (by omega), if_neg (by omega)]
        refine .inr ⟨by rw [ho2]; rfl, ?_⟩
        rw [← hr]
        exact read_mod b hsg.symm
theorem l02Size_any (b : Nat) (w : World) :
    Calls Try.prog 72 #[.float .f32 b] w fun e w' => ∃ r, e = .returned (.float .f32 r) ∧ (∀ near, (FloatKind.f32.format.order r near == some .gt) = gtAbs (absK .f32 b) near) ∧ Drew w w' := by
  cases hb : nanK .f32 b
  · have HA := Lib.hid (absK_of hb)
    rcases size_gt hb with ⟨h1, h2⟩ | ⟨h1, h2⟩
    · have hrs := fun W => run_fsome0 (P := Try.prog) .sub 34 0 b (b % 2147483648) h2 W
      clear h2
      go_enter Try.func72, Try.ntmps72
      go_wp2_with fail
      go_ret
      exact ⟨_, rfl, fun near => by rw [HA.out]; rfl, Drew.refl _⟩
    · have HO := Lib.hid (fun near => show (FloatKind.f32.format.order b near == some .gt) = gtAbs (absK .f32 b) near by
        rw [HA.out]
        show _ = (Ieee.Datum.order (Ieee.single.read (b % 2147483648)) (Ieee.single.read near) == some .gt)
        rw [← h2]
        rfl)
      clear h2
      go_enter Try.func72, Try.ntmps72
      go_wp2_with fail
      go_ret
      exact ⟨_, rfl, HO.out, Drew.refl _⟩
  · have h1 : (FloatKind.f32.format.order b 0 == some .lt || FloatKind.f32.format.order b 0 == some .eq) = false := by rw [order_nanb hb]; rfl
    have HO := Lib.hid (fun near => show (FloatKind.f32.format.order b near == some .gt) = gtAbs (absK .f32 b) near by rw [absK_nan hb, order_nanb hb]; rfl)
    go_enter Try.func72, Try.ntmps72
    go_wp2_with fail
    go_ret
    exact ⟨_, rfl, HO.out, Drew.refl _⟩
end Go.Proofs.Ytbbcddbdinmaaaa
