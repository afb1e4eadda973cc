/- The laws' walks of TreeSize, TreeDepth, LeavesOf. -/
import Derived.Test.YtomhbbchflblpaaGreatDoorTreeL
import Derived.Deep.RegionWith
import Derived.Test.YtomhbbchflblpaaGreatDoorTreeD
import Derived.Test.YtomhbbchflblpaaGreatDoorTreeS
namespace Go.Proofs.YtomhbbchflblpaaGreatDoor
open Go.RowKit

end Go.Proofs.YtomhbbchflblpaaGreatDoor
