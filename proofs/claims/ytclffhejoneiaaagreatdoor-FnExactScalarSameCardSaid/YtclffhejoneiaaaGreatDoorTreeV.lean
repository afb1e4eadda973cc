import Derived.Test.YtclffhejoneiaaaGreatDoorTreeD
namespace Go.Proofs.YtclffhejoneiaaaGreatDoor
open Go.RowKit

end Go.Proofs.YtclffhejoneiaaaGreatDoor
