/- Tenths of single products, piece 8, by the kernel. -/
import Derived.Test.YtnjipckpkcandaaCirV
namespace Go.Proofs.Ytnjipckpkcandaa
open Ieee
namespace Cir
theorem ten_28 : allB (tenC fst) 10 28672 = true := by decide +kernel
theorem ten_29 : allB (tenC fst) 10 29696 = true := by decide +kernel
theorem ten_30 : allB (tenC fst) 10 30720 = true := by decide +kernel
theorem ten_31 : allB (tenC fst) 10 31744 = true := by decide +kernel
theorem ten_32 : allB (tenC fst) 10 32768 = true := by decide +kernel
theorem ten_33 : allB (tenC fst) 10 33792 = true := by decide +kernel
theorem ten_34 : allB (tenC fst) 10 34816 = true := by decide +kernel
theorem ten_35 : allB (tenC fst) 10 35840 = true := by decide +kernel
theorem ten_36 : allB (tenC fst) 10 36864 = true := by decide +kernel
theorem ten_37 : allB (tenC fst) 10 37888 = true := by decide +kernel
theorem ten_38 : allB (tenC fst) 10 38912 = true := by decide +kernel
theorem ten_39 : allB (tenC fst) 10 39936 = true := by decide +kernel
theorem tenV8 {n : Nat} (h1 : 28672 ≤ n) (h2 : n < 40960) : tenC fst n = true := by
  by_cases e : n < 29696
  · exact allB_at 10 28672 n ten_28 (by omega) (by omega)
  by_cases e : n < 30720
  · exact allB_at 10 29696 n ten_29 (by omega) (by omega)
  by_cases e : n < 31744
  · exact allB_at 10 30720 n ten_30 (by omega) (by omega)
  by_cases e : n < 32768
  · exact allB_at 10 31744 n ten_31 (by omega) (by omega)
  by_cases e : n < 33792
  · exact allB_at 10 32768 n ten_32 (by omega) (by omega)
  by_cases e : n < 34816
  · exact allB_at 10 33792 n ten_33 (by omega) (by omega)
  by_cases e : n < 35840
  · exact allB_at 10 34816 n ten_34 (by omega) (by omega)
  by_cases e : n < 36864
  · exact allB_at 10 35840 n ten_35 (by omega) (by omega)
  by_cases e : n < 37888
  · exact allB_at 10 36864 n ten_36 (by omega) (by omega)
  by_cases e : n < 38912
  · exact allB_at 10 37888 n ten_37 (by omega) (by omega)
  by_cases e : n < 39936
  · exact allB_at 10 38912 n ten_38 (by omega) (by omega)
  exact allB_at 10 39936 n ten_39 (by omega) (by omega)
end Cir
end Go.Proofs.Ytnjipckpkcandaa
