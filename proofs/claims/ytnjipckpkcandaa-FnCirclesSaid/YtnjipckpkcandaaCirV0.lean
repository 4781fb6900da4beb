/- Tenths of single products, piece 0, by the kernel. -/
import Derived.Test.YtnjipckpkcandaaCirV
namespace Go.Proofs.Ytnjipckpkcandaa
open Ieee
namespace Cir
theorem ten_0 : allB (tenC fst) 10 0 = true := by decide +kernel
theorem ten_1 : allB (tenC fst) 10 1024 = true := by decide +kernel
theorem tenV0 {n : Nat} (h1 : 0 ≤ n) (h2 : n < 2048) : tenC fst n = true := by
  by_cases e : n < 1024
  · exact allB_at 10 0 n ten_0 (by omega) (by omega)
  exact allB_at 10 1024 n ten_1 (by omega) (by omega)
end Cir
end Go.Proofs.Ytnjipckpkcandaa
