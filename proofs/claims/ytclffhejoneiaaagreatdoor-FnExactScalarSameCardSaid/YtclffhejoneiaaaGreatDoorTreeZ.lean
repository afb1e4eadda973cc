/- szStringS, szTreeS, szTree. -/
import Derived.Test.YtclffhejoneiaaaGreatDoorTreeA
import Derived.Test.YtclffhejoneiaaaGreatDoorStrS
namespace Go.Proofs.YtclffhejoneiaaaGreatDoor
open Go.RowKit

end Go.Proofs.YtclffhejoneiaaaGreatDoor
