/- Tenths of single products, piece 2, by the kernel. -/
import Derived.Test.YtnjipckpkcandaaCirV
namespace Go.Proofs.Ytnjipckpkcandaa
open Ieee
namespace Cir
theorem ten_4 : allB (tenC fst) 10 4096 = true := by decide +kernel
theorem ten_5 : allB (tenC fst) 10 5120 = true := by decide +kernel
theorem ten_6 : allB (tenC fst) 10 6144 = true := by decide +kernel
theorem tenV2 {n : Nat} (h1 : 4096 ≤ n) (h2 : n < 7168) : tenC fst n = true := by
  by_cases e : n < 5120
  · exact allB_at 10 4096 n ten_4 (by omega) (by omega)
  by_cases e : n < 6144
  · exact allB_at 10 5120 n ten_5 (by omega) (by omega)
  exact allB_at 10 6144 n ten_6 (by omega) (by omega)
end Cir
end Go.Proofs.Ytnjipckpkcandaa
