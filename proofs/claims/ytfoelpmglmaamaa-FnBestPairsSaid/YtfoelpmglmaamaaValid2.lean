/- ValidNet of the program: the walk. -/
import Derived.Test.YtfoelpmglmaamaaValid
namespace Go.Proofs.Ytfoelpmglmaamaa
open Go.RowKit

end Go.Proofs.Ytfoelpmglmaamaa
