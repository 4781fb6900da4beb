/- Tenths of single products, piece 3, by the kernel. -/
import Derived.Test.YtnjipckpkcandaaCirV
namespace Go.Proofs.Ytnjipckpkcandaa
open Ieee
namespace Cir
theorem ten_7 : allB (tenC fst) 10 7168 = true := by decide +kernel
theorem ten_8 : allB (tenC fst) 10 8192 = true := by decide +kernel
theorem ten_9 : allB (tenC fst) 10 9216 = true := by decide +kernel
theorem tenV3 {n : Nat} (h1 : 7168 ≤ n) (h2 : n < 10240) : tenC fst n = true := by
  by_cases e : n < 8192
  · exact allB_at 10 7168 n ten_7 (by omega) (by omega)
  by_cases e : n < 9216
  · exact allB_at 10 8192 n ten_8 (by omega) (by omega)
  exact allB_at 10 9216 n ten_9 (by omega) (by omega)
end Cir
end Go.Proofs.Ytnjipckpkcandaa
