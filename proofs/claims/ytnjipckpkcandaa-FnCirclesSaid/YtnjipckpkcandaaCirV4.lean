/- Tenths of single products, piece 4, by the kernel. -/
import Derived.Test.YtnjipckpkcandaaCirV
namespace Go.Proofs.Ytnjipckpkcandaa
open Ieee
namespace Cir
theorem ten_10 : allB (tenC fst) 10 10240 = true := by decide +kernel
theorem ten_11 : allB (tenC fst) 10 11264 = true := by decide +kernel
theorem ten_12 : allB (tenC fst) 10 12288 = true := by decide +kernel
theorem tenV4 {n : Nat} (h1 : 10240 ≤ n) (h2 : n < 13312) : tenC fst n = true := by
  by_cases e : n < 11264
  · exact allB_at 10 10240 n ten_10 (by omega) (by omega)
  by_cases e : n < 12288
  · exact allB_at 10 11264 n ten_11 (by omega) (by omega)
  exact allB_at 10 12288 n ten_12 (by omega) (by omega)
end Cir
end Go.Proofs.Ytnjipckpkcandaa
