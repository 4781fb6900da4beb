/- Contracts of the laws' helpers on nets. -/
import Derived.Test.YtfoelpmglmaamaaNetMem
import Derived.Deep.RegionWith
namespace Go.Proofs.Ytfoelpmglmaamaa
open Go.RowKit

end Go.Proofs.Ytfoelpmglmaamaa
