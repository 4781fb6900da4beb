/- Circles: products, powers, gaps. -/
import Derived.Test.YtnjipckpkcandaaDoorCirJ
namespace Go.Proofs.YtnjipckpkcandaaDoor
open Go.RowKit

theorem product_any (p q r : Nat × Nat) (h : Cir.prodO Cir.gen p q = some r) (w : World) : Calls Tryd.prog 29 #[.complex .f32 p.1 p.2, .complex .f32 q.1 q.2] w fun e w' => e = .returned (.tuple #[.float .f64 r.1, .float .f64 r.2]) ∧ w = w' := by
  unfold Cir.prodO at h
  obtain ⟨a, ha, h⟩ := Option.bind_eq_some_iff.1 h
  obtain ⟨b, hb, h⟩ := Option.bind_eq_some_iff.1 h
  obtain ⟨c, hc, h⟩ := Option.bind_eq_some_iff.1 h
  obtain ⟨d, hd, h⟩ := Option.bind_eq_some_iff.1 h
  obtain ⟨x, hx, h⟩ := Option.bind_eq_some_iff.1 h
  obtain ⟨y, hy, h⟩ := Option.bind_eq_some_iff.1 h
  obtain ⟨u, hu, h⟩ := Option.bind_eq_some_iff.1 h
  obtain ⟨x2, hx2, h⟩ := Option.bind_eq_some_iff.1 h
  obtain ⟨y2, hy2, h⟩ := Option.bind_eq_some_iff.1 h
  obtain ⟨v, hv, h⟩ := Option.bind_eq_some_iff.1 h
  injection h with h
  subst h
  have HP := Lib.hid (wide_any p a b ha hb w)
  have HQ := Lib.hid (wide_any q c d hc hd w)
  have r1 := fun W => run_f64 (P := Tryd.prog) 46 (show floatBits .mul .f64 a c = some x from hx) W
  have r2 := fun W => run_f64 (P := Tryd.prog) 46 (show floatBits .mul .f64 b d = some y from hy) W
  have r3 := fun W => run_f64 (P := Tryd.prog) 46 (show floatBits .sub .f64 x y = some u from hu) W
  have r4 := fun W => run_f64 (P := Tryd.prog) 46 (show floatBits .mul .f64 a d = some x2 from hx2) W
  have r5 := fun W => run_f64 (P := Tryd.prog) 46 (show floatBits .mul .f64 b c = some y2 from hy2) W
  have r6 := fun W => run_f64 (P := Tryd.prog) 46 (show floatBits .add .f64 x2 y2 = some v from hv) W
  clear ha hb hc hd hx hy hu hx2 hy2 hv
  go_enter Tryd.func29, Tryd.ntmps29
  go_wp2_with fail
  refine HP.out.mono ?_
  rintro e w1 ⟨rfl, rfl⟩
  go_wp2_with fail
  refine HQ.out.mono ?_
  rintro e w1 ⟨rfl, rfl⟩
  go_wp2_with fail
  go_ret2
  exact ⟨rfl, rfl⟩
theorem mulC_any (p q r : Nat × Nat) (h : Cir.mulO Cir.gen p q = some r) (w : World) : Calls Tryd.prog 6 #[.complex .f32 p.1 p.2, .complex .f32 q.1 q.2] w fun e w' => e = .returned (.complex .f32 r.1 r.2) ∧ w = w' := by
  unfold Cir.mulO at h
  obtain ⟨x, hx, h⟩ := Option.bind_eq_some_iff.1 h
  have HP := Lib.hid (product_any p q x hx w)
  have HN := Lib.hid (narrowed_any x.1 x.2 r h w)
  clear hx h
  go_enter Tryd.func6, Tryd.ntmps6
  go_wp2_with fail
  refine HP.out.mono ?_
  rintro e w1 ⟨rfl, rfl⟩
  go_wp2_with fail
  refine HN.out.mono ?_
  rintro e w1 ⟨rfl, rfl⟩
  go_wp2_with fail
  go_ret
  exact ⟨rfl, rfl⟩
theorem powerF_any (p : Nat × Nat) (r : Nat) (h : Cir.powF Cir.gen p = some r) (w : World) : Calls Tryd.prog 31 #[.complex .f32 p.1 p.2] w fun e w' => e = .returned (.float .f64 r) ∧ w = w' := by
  unfold Cir.powF at h
  obtain ⟨a, ha, h⟩ := Option.bind_eq_some_iff.1 h
  obtain ⟨b, hb, h⟩ := Option.bind_eq_some_iff.1 h
  obtain ⟨x, hx, h⟩ := Option.bind_eq_some_iff.1 h
  obtain ⟨y, hy, h⟩ := Option.bind_eq_some_iff.1 h
  have HP := Lib.hid (wide_any p a b ha hb w)
  have r1 := fun W => run_f64 (P := Tryd.prog) 46 (show floatBits .mul .f64 a a = some x from hx) W
  have r2 := fun W => run_f64 (P := Tryd.prog) 46 (show floatBits .mul .f64 b b = some y from hy) W
  have r3 := fun W => run_f64 (P := Tryd.prog) 46 (show floatBits .add .f64 x y = some r from h) W
  clear ha hb hx hy h
  go_enter Tryd.func31, Tryd.ntmps31
  go_wp2_with fail
  refine HP.out.mono ?_
  rintro e w1 ⟨rfl, rfl⟩
  go_wp2_with fail
  go_ret
  exact ⟨rfl, rfl⟩
theorem power_any (p : Nat × Nat) (r : Nat) (h : Cir.powO Cir.gen p = some r) (w : World) : Calls Tryd.prog 7 #[.complex .f32 p.1 p.2] w fun e w' => e = .returned (.float .f32 r) ∧ w = w' := by
  unfold Cir.powO at h
  obtain ⟨a, ha, h⟩ := Option.bind_eq_some_iff.1 h
  have HP := Lib.hid (powerF_any p a ha w)
  have r1 := fun W => run_narC h W
  clear ha h
  go_enter Tryd.func7, Tryd.ntmps7
  go_wp2_with fail
  refine HP.out.mono ?_
  rintro e w1 ⟨rfl, rfl⟩
  go_wp2_with fail
  go_ret
  exact ⟨rfl, rfl⟩
end Go.Proofs.YtnjipckpkcandaaDoor
