/- Marks on nets; words for the walks of the laws on nets. -/
import Derived.Test.YtfoelpmglmaamaaNetLaw
import Derived.Test.YtfoelpmglmaamaaMore
namespace Go.Proofs.Ytfoelpmglmaamaa
open Go.RowKit

theorem sepC {T T' base size size' n c m d : Nat} {w w' : World} {A B : Option Addr} {vs us : List Value} (h1 : OwnC T base size w A n c vs) (h2 : OwnC T' w.heap.size size' w' B m d us) : Sep A B := by
  intro a b ha hb
  have := (OwnC.lt h1 ha).2
  have := (OwnC.lt h2 hb).1
  omega
theorem below_blkC {B T base size n c : Nat} {w w' a : World} {ad : Option Addr} {vs : List Value} (hb : Below B a w) (hB : B ≤ w.heap.size) (hu : Upd (blk ad) w w') (ho : OwnC T base size w ad n c vs) (hbase : B ≤ base) : Below B a w' :=
  hb.trans (hu.toBelow hB fun k hk ⟨x, h1, h2⟩ => by have := (OwnC.lt ho h1).1; omega)

end Go.Proofs.Ytfoelpmglmaamaa
