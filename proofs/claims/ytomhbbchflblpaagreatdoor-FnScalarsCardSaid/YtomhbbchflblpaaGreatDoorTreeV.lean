import Derived.Test.YtomhbbchflblpaaGreatDoorTreeD
namespace Go.Proofs.YtomhbbchflblpaaGreatDoor
open Go.RowKit

end Go.Proofs.YtomhbbchflblpaaGreatDoor
