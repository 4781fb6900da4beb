/- Left over arcs of the reference. -/
import Derived.Test.YtfoelpmglmaamaaLinks
namespace Go.Proofs.Ytfoelpmglmaamaa
open Go.RowKit

end Go.Proofs.Ytfoelpmglmaamaa
