/- heldTreeS, heldTree find the marks. -/
import Derived.Test.YtomhbbchflblpaaGreatDoorMarkC
namespace Go.Proofs.YtomhbbchflblpaaGreatDoor
open Go.RowKit

end Go.Proofs.YtomhbbchflblpaaGreatDoor
