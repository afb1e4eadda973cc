import Derived.Test.YtclffhejoneiaaaDoorRTreeD
namespace Go.Proofs.YtclffhejoneiaaaDoorR
open Go.RowKit

end Go.Proofs.YtclffhejoneiaaaDoorR
