/- LeastCover of the reference: the walks. -/
import Derived.Test.YtnliekbckdbaaaaCover
namespace Go.Proofs.Ytnliekbckdbaaaa
open Go.RowKit

theorem l04Ones_any (x : Nat) (w : World) (hx : x < 4611686018427387904) :
    Calls Try.prog 41 #[.int .i64 x] w fun e w' => e = .returned (.int .i64 (ones x : Nat)) ∧ w = w' := by
  go_enter Try.func41, Try.ntmps41
  go_wp2
  go_loop [0, 3] (fun v c => ∃ (y s : Nat), v = .int .i64 y ∧ c = .int .i64 s ∧ y < 4611686018427387904 ∧ s + ones y ≤ 64 ∧ Hid (s + ones y = ones x)) (fun v _ => (intOf v).toNat)
  case atStart => exact ⟨x, 0, rfl, rfl, hx, by have := ones_le x; omega, Lib.hid (by omega)⟩
  case round =>
    obtain ⟨y, s, rfl, rfl, hy, hs, hall⟩ := hrel
    by_cases h0 : 0 < y
    · have hh := ones_half y (by omega)
      have HH := Lib.hid hh
      have e1 : ((y : Int) / 2) = ((y / 2 : Nat) : Int) := by omega
      have e2 : ((y : Int) % 2) = ((y % 2 : Nat) : Int) := by omega
      have b1 : (y : Int) % 2 ≤ 1 := by omega
      have b2 : 0 ≤ (y : Int) % 2 := by omega
      have E1 := Lib.hid e1
      have E2 := Lib.hid e2
      clear e1 e2 hh
      go_wp2
      go_round
      case rel => exact ⟨y / 2, s + y % 2, by rw [E1.out], by rw [E2.out]; go_num, by omega, by have := HH.out; omega, Lib.hid (by have := HH.out; have := hall.out; omega)⟩
      case measure => rw [E1.out]; simp [intOf]; omega
    · have e : y = 0 := by omega
      subst e
      go_wp2
      go_ret
      exact ⟨ret_int (by have := hall.out; rw [ones_zero] at this; omega), rfl⟩


end Go.Proofs.Ytnliekbckdbaaaa
