/- Steps of the walk for conversions of any float, and the contracts of NarrowComplex, QuotientOf, ScaleComplex, LongOf, RootNumber. -/
import Derived.Test.YtnjipckpkcandaaDoorWhoA
import Derived.Test.YtnjipckpkcandaaDoorCirK
namespace Go.Proofs.YtnjipckpkcandaaDoor
open Go.RowKit
/-- D is what b is widened to -/
def NW (D b : Nat) : Prop := (nanK .f32 b = true ∧ nanK .f64 D = true) ∨ floatToFloatBits .f64 D .f32 = some b
theorem wp_widA {P : Program} {ops : Array Oper} {rest : List Oper} {o : Oper} {a : Act} {Q : Exit → Act → World → Prop} (w : World) (hgd : o.guard = none) (s d : TypeId) (x : Operand) (ho : o.op = .convert s d x)
    (hs : (P.underlying s).isSome = true) (hd : P.underlying d = some (.float .f64)) (b : Nat) (hb : b < 4294967296) (hx : a.eval x = .float .f32 b)
    (h : ∀ (D : Nat) (w' : World), NW D b → Drew w w' → wpList P ops Q rest (a.put o.dst (.float .f64 D)) w') : wpList P ops Q (o :: rest) a w := by
  have key : ∃ D w', (convert s d (.float .f32 b)).run P w = .ok (.float .f64 D) w' ∧ NW D b ∧ Drew w w' := by
    cases hn : nanK .f32 b
    · obtain ⟨D, h1, h2⟩ := Who.rtrip hb hn
      exact ⟨D, w, run_convert_float_float w s d .f32 .f64 b D hs hd h1, Or.inr h2, Drew.refl _⟩
    · exact ⟨_, _, run_cv_nan w s d b hs hd hn, Or.inl ⟨hn, cut_nanc _ _⟩, ⟨1, rfl⟩⟩
  obtain ⟨D, w', e, hN, hD⟩ := key
  refine wpList_plain hgd fun _ hK => ?_
  unfold Oper.wp execOp
  simp only [ho, Sem.run_bind, hx, e, Result.andThen_ok, Sem.run_pure]
  exact hK _ _ (h _ _ hN hD)
theorem wp_narA {P : Program} {ops : Array Oper} {rest : List Oper} {o : Oper} {a : Act} {Q : Exit → Act → World → Prop} (w : World) (hgd : o.guard = none) (s d : TypeId) (x : Operand) (ho : o.op = .convert s d x)
    (hs : (P.underlying s).isSome = true) (hd : P.underlying d = some (.float .f32)) (D b : Nat) (hN : NW D b) (hx : a.eval x = .float .f64 D)
    (h : ∀ (r : Nat) (w' : World), bitsB r = bitsB b → Drew w w' → wpList P ops Q rest (a.put o.dst (.float .f32 r)) w') : wpList P ops Q (o :: rest) a w := by
  have key : ∃ r w', (convert s d (.float .f64 D)).run P w = .ok (.float .f32 r) w' ∧ bitsB r = bitsB b ∧ Drew w w' := by
    rcases hN with ⟨h1, h2⟩ | h1
    · refine ⟨_, _, run_cv_nan2 w s d D hs hd h2, ?_, ⟨1, rfl⟩⟩
      unfold bitsB
      rw [if_pos h1, if_pos (cut_nanc32 _ _)]
    · exact ⟨b, w, run_convert_float_float w s d .f64 .f32 D b hs hd h1, rfl, Drew.refl _⟩
  obtain ⟨r, w', e, hB, hD⟩ := key
  refine wpList_plain hgd fun _ hK => ?_
  unfold Oper.wp execOp
  simp only [ho, Sem.run_bind, hx, e, Result.andThen_ok, Sem.run_pure]
  exact hK _ _ (h _ _ hB hD)
theorem narrowedA_any (D E b c : Nat) (h1 : NW D b) (h2 : NW E c) (w : World) : Calls Tryd.prog 30 #[.float .f64 D, .float .f64 E] w fun e w' => ∃ r s, e = .returned (.complex .f32 r s) ∧ bitsB r = bitsB b ∧ bitsB s = bitsB c ∧ Drew w w' := by
  go_enter Tryd.func30, Tryd.ntmps30
  go_upto_region 1 with (fail)
  go_wp2_with (first | (refine wp_narA _ rfl _ _ _ rfl (by kernel_rfl) Tryd.underlying28 D b h1 rfl ?_; intro r w1 hr hd) | (refine wp_narA _ rfl _ _ _ rfl (by kernel_rfl) Tryd.underlying28 E c h2 rfl ?_; intro s w2 hs hd2))
  go_ret
  exact ⟨_, _, rfl, hr, hs, hd.trans hd2⟩
theorem narrowC_any (D E b c : Nat) (h1 : NW D b) (h2 : NW E c) (w : World) : Calls Tryd.prog 24 #[.complex .f64 D E] w fun e w' => ∃ r s, e = .returned (.complex .f32 r s) ∧ bitsB r = bitsB b ∧ bitsB s = bitsB c ∧ Drew w w' := by
  have H := Lib.hid (narrowedA_any D E b c h1 h2 w)
  go_enter Tryd.func24, Tryd.ntmps24
  go_wp2_with fail
  refine H.out.mono ?_
  rintro e w1 ⟨r, s, rfl, h3, h4, hd⟩
  go_wp2_with fail
  go_ret
  exact ⟨_, _, rfl, h3, h4, hd⟩
theorem quo_any (p q r : Nat × Nat) (h : Who.quoO p q = some r) (w : World) : Calls Tryd.prog 12 #[.complex .f32 p.1 p.2, .complex .f32 q.1 q.2] w fun e w' => e = .returned (.complex .f32 r.1 r.2) ∧ w = w' := by
  unfold Who.quoO at h
  obtain ⟨x, hx, h⟩ := Option.bind_eq_some_iff.1 h
  obtain ⟨k, hk, h⟩ := Option.bind_eq_some_iff.1 h
  obtain ⟨a, ha, h⟩ := Option.bind_eq_some_iff.1 h
  obtain ⟨b, hb, h⟩ := Option.bind_eq_some_iff.1 h
  have HC := Lib.hid (conj_any q w)
  have HP := Lib.hid (product_any p (q.1, Op.negFloat .f32 q.2) x hx w)
  have HW := Lib.hid (powerF_any q k hk w)
  have HN := Lib.hid (narrowed_any a b r h w)
  have r1 := fun W => run_f64 (P := Tryd.prog) 46 (show floatBits .quo .f64 x.1 k = some a from ha) W
  have r2 := fun W => run_f64 (P := Tryd.prog) 46 (show floatBits .quo .f64 x.2 k = some b from hb) W
  clear hx hk ha hb h
  obtain ⟨p1, p2⟩ := p
  obtain ⟨q1, q2⟩ := q
  obtain ⟨x1, x2⟩ := x
  go_enter Tryd.func12, Tryd.ntmps12
  go_wp2_with fail
  refine HC.out.mono ?_
  rintro e w1 ⟨rfl, rfl⟩
  go_wp2_with fail
  refine HP.out.mono ?_
  rintro e w1 ⟨rfl, rfl⟩
  go_wp2_with fail
  refine HW.out.mono ?_
  rintro e w1 ⟨rfl, rfl⟩
  go_wp2_with fail
  refine HN.out.mono ?_
  rintro e w1 ⟨rfl, rfl⟩
  go_wp2_with fail
  go_ret
  exact ⟨rfl, rfl⟩
theorem scale_any (p : Nat × Nat) (k a b : Nat) (ha : floatBits .mul .f32 p.1 k = some a) (hb : floatBits .mul .f32 p.2 k = some b) (w : World) : Calls Tryd.prog 13 #[.complex .f32 p.1 p.2, .float .f32 k] w fun e w' => e = .returned (.complex .f32 a b) ∧ w = w' := by
  have r1 := fun W => run_fsome0 (P := Tryd.prog) .mul 28 _ _ _ ha W
  have r2 := fun W => run_fsome0 (P := Tryd.prog) .mul 28 _ _ _ hb W
  clear ha hb
  obtain ⟨p1, p2⟩ := p
  go_enter Tryd.func13, Tryd.ntmps13
  go_wp2_with fail
  go_ret
  exact ⟨rfl, rfl⟩
theorem long_any (p : Nat × Nat) (k r z : Nat) (hk : Cir.powF Cir.gen p = some k) (hr : Ieee.double.sqrt k = some r) (hz : floatToFloatBits .f64 r .f32 = some z) (w : World) : Calls Tryd.prog 10 #[.complex .f32 p.1 p.2] w fun e w' => e = .returned (.float .f32 z) ∧ w = w' := by
  have HW := Lib.hid (powerF_any p k hk w)
  have HS := Lib.hid (sqrt_any k r hr w)
  have r1 := fun W => run_narC (show Cir.gen.nar r = some z from hz) W
  clear hk hr hz
  obtain ⟨p1, p2⟩ := p
  go_enter Tryd.func10, Tryd.ntmps10
  go_wp2_with fail
  refine HW.out.mono ?_
  rintro e w1 ⟨rfl, rfl⟩
  go_wp2_with fail
  refine HS.out.mono ?_
  rintro e w1 ⟨rfl, rfl⟩
  go_wp2_with fail
  go_ret
  exact ⟨rfl, rfl⟩
theorem root_any (x k r z : Nat) (hk : floatToFloatBits .f32 x .f64 = some k) (hr : Ieee.double.sqrt k = some r) (hz : floatToFloatBits .f64 r .f32 = some z) (w : World) : Calls Tryd.prog 11 #[.float .f32 x] w fun e w' => e = .returned (.float .f32 z) ∧ w = w' := by
  have r0 := fun W => run_widC (show Cir.gen.wid x = some k from hk) W
  have HS := Lib.hid (sqrt_any k r hr w)
  have r1 := fun W => run_narC (show Cir.gen.nar r = some z from hz) W
  clear hk hr hz
  go_enter Tryd.func11, Tryd.ntmps11
  go_wp2_with fail
  go_enter Tryd.func34, Tryd.ntmps34
  go_wp2_with fail
  refine HS.out.mono ?_
  rintro e w1 ⟨rfl, rfl⟩
  go_wp2_with fail
  go_enter Tryd.func57, Tryd.ntmps57
  go_wp2_with fail
  go_ret
  go_wp2_with fail
end Go.Proofs.YtnjipckpkcandaaDoor
