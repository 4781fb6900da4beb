/- Tenths of single products, piece 5, by the kernel. -/
import Derived.Test.YtnjipckpkcandaaCirV
namespace Go.Proofs.Ytnjipckpkcandaa
open Ieee
namespace Cir
theorem ten_13 : allB (tenC fst) 10 13312 = true := by decide +kernel
theorem ten_14 : allB (tenC fst) 10 14336 = true := by decide +kernel
theorem ten_15 : allB (tenC fst) 10 15360 = true := by decide +kernel
theorem ten_16 : allB (tenC fst) 10 16384 = true := by decide +kernel
theorem tenV5 {n : Nat} (h1 : 13312 ≤ n) (h2 : n < 17408) : tenC fst n = true := by
  by_cases e : n < 14336
  · exact allB_at 10 13312 n ten_13 (by omega) (by omega)
  by_cases e : n < 15360
  · exact allB_at 10 14336 n ten_14 (by omega) (by omega)
  by_cases e : n < 16384
  · exact allB_at 10 15360 n ten_15 (by omega) (by omega)
  exact allB_at 10 16384 n ten_16 (by omega) (by omega)
end Cir
end Go.Proofs.Ytnjipckpkcandaa
