/- Tenths of single products, piece 1, by the kernel. -/
import Derived.Test.YtnjipckpkcandaaCirV
namespace Go.Proofs.Ytnjipckpkcandaa
open Ieee
namespace Cir
theorem ten_2 : allB (tenC fst) 10 2048 = true := by decide +kernel
theorem ten_3 : allB (tenC fst) 10 3072 = true := by decide +kernel
theorem tenV1 {n : Nat} (h1 : 2048 ≤ n) (h2 : n < 4096) : tenC fst n = true := by
  by_cases e : n < 3072
  · exact allB_at 10 2048 n ten_2 (by omega) (by omega)
  exact allB_at 10 3072 n ten_3 (by omega) (by omega)
end Cir
end Go.Proofs.Ytnjipckpkcandaa
