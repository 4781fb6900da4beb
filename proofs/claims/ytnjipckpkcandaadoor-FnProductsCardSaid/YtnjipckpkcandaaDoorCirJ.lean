/- Circles: phasors, products, powers. -/
import Derived.Test.YtnjipckpkcandaaDoorCirI
import Derived.Laws.Cover3
namespace Go.Proofs.YtnjipckpkcandaaDoor
open Go.RowKit

theorem run_narC {a r : Nat} (h : Cir.gen.nar a = some r) (w : World) : (convert 46 28 (.float .f64 a)).run Tryd.prog w = .ok (.float .f32 r) w := run_convert_float_float w 46 28 .f64 .f32 a r (by kernel_rfl) Tryd.underlying28 h
theorem run_widC {a r : Nat} (h : Cir.gen.wid a = some r) (w : World) : (convert 28 46 (.float .f32 a)).run Tryd.prog w = .ok (.float .f64 r) w := run_convert_float_float w 28 46 .f32 .f64 a r (by kernel_rfl) Tryd.underlying46 h
theorem clearC (b : Nat) (h : b < 18446744073709551616) : (bits .andNot .u64 (b : Int) 9223372036854775808).toNat = b % 9223372036854775808 := by
  rw [u64_andNot (b : Int) 9223372036854775808 (by omega) (by omega) (by omega) (by omega)]
  show ((b &&& 9223372036854775807 : Nat) : Int).toNat = _
  rw [Int.toNat_natCast]
  exact Nat.and_two_pow_sub_one_eq_mod b 63
theorem narrowed_any (a b : Nat) (p : Nat × Nat) (h : Cir.narP Cir.gen a b = some p) (w : World) : Calls Tryd.prog 30 #[.float .f64 a, .float .f64 b] w fun e w' => e = .returned (.complex .f32 p.1 p.2) ∧ w = w' := by
  unfold Cir.narP at h
  obtain ⟨x, hx, h⟩ := Option.bind_eq_some_iff.1 h
  obtain ⟨y, hy, h⟩ := Option.bind_eq_some_iff.1 h
  injection h with h
  subst h
  have r1 := fun W => run_narC hx W
  have r2 := fun W => run_narC hy W
  clear hx hy
  go_enter Tryd.func30, Tryd.ntmps30
  go_wp2_with fail
  go_ret
  exact ⟨rfl, rfl⟩
theorem wide_any (p : Nat × Nat) (a b : Nat) (hx : Cir.gen.wid p.1 = some a) (hy : Cir.gen.wid p.2 = some b) (w : World) : Calls Tryd.prog 54 #[.complex .f32 p.1 p.2] w fun e w' => e = .returned (.tuple #[.float .f64 a, .float .f64 b]) ∧ w = w' := by
  obtain ⟨x, y⟩ := p
  have r1 := fun W => run_widC hx W
  have r2 := fun W => run_widC hy W
  clear hx hy
  go_enter Tryd.func54, Tryd.ntmps54
  go_wp2_with fail
  go_ret2
  exact ⟨rfl, rfl⟩
theorem rest_no {t f : Nat} (h : Cir.restO Cir.gen t = some f) : nanK .f64 f = false := by
  unfold Cir.restO at h
  rw [Fst.force_eq, Fst.force_eq] at h
  obtain ⟨g, hg, h2⟩ := Option.bind_eq_some_iff.1 h
  split at h2
  · exact floatBits_no (op := .add) (k := .f64) h2
  · injection h2 with h2
    subst h2
    exact floatBits_no (op := .sub) (k := .f64) hg
end Go.Proofs.YtnjipckpkcandaaDoor
