/- Tenths of single products, piece 6, by the kernel. -/
import Derived.Test.YtnjipckpkcandaaCirV
namespace Go.Proofs.Ytnjipckpkcandaa
open Ieee
namespace Cir
theorem ten_17 : allB (tenC fst) 10 17408 = true := by decide +kernel
theorem ten_18 : allB (tenC fst) 10 18432 = true := by decide +kernel
theorem ten_19 : allB (tenC fst) 10 19456 = true := by decide +kernel
theorem ten_20 : allB (tenC fst) 10 20480 = true := by decide +kernel
theorem ten_21 : allB (tenC fst) 10 21504 = true := by decide +kernel
theorem tenV6 {n : Nat} (h1 : 17408 ≤ n) (h2 : n < 22528) : tenC fst n = true := by
  by_cases e : n < 18432
  · exact allB_at 10 17408 n ten_17 (by omega) (by omega)
  by_cases e : n < 19456
  · exact allB_at 10 18432 n ten_18 (by omega) (by omega)
  by_cases e : n < 20480
  · exact allB_at 10 19456 n ten_19 (by omega) (by omega)
  by_cases e : n < 21504
  · exact allB_at 10 20480 n ten_20 (by omega) (by omega)
  exact allB_at 10 21504 n ten_21 (by omega) (by omega)
end Cir
end Go.Proofs.Ytnjipckpkcandaa
