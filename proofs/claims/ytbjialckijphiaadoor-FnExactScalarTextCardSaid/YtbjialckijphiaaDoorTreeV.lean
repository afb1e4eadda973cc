import Derived.Test.YtbjialckijphiaaDoorTreeD
namespace Go.Proofs.YtbjialckijphiaaDoor
open Go.RowKit

end Go.Proofs.YtbjialckijphiaaDoor
