/- Tenths of single products, piece 7, by the kernel. -/
import Derived.Test.YtnjipckpkcandaaCirV
namespace Go.Proofs.Ytnjipckpkcandaa
open Ieee
namespace Cir
theorem ten_22 : allB (tenC fst) 10 22528 = true := by decide +kernel
theorem ten_23 : allB (tenC fst) 10 23552 = true := by decide +kernel
theorem ten_24 : allB (tenC fst) 10 24576 = true := by decide +kernel
theorem ten_25 : allB (tenC fst) 10 25600 = true := by decide +kernel
theorem ten_26 : allB (tenC fst) 10 26624 = true := by decide +kernel
theorem ten_27 : allB (tenC fst) 10 27648 = true := by decide +kernel
theorem tenV7 {n : Nat} (h1 : 22528 ≤ n) (h2 : n < 28672) : tenC fst n = true := by
  by_cases e : n < 23552
  · exact allB_at 10 22528 n ten_22 (by omega) (by omega)
  by_cases e : n < 24576
  · exact allB_at 10 23552 n ten_23 (by omega) (by omega)
  by_cases e : n < 25600
  · exact allB_at 10 24576 n ten_24 (by omega) (by omega)
  by_cases e : n < 26624
  · exact allB_at 10 25600 n ten_25 (by omega) (by omega)
  by_cases e : n < 27648
  · exact allB_at 10 26624 n ten_26 (by omega) (by omega)
  exact allB_at 10 27648 n ten_27 (by omega) (by omega)
end Cir
end Go.Proofs.Ytnjipckpkcandaa
