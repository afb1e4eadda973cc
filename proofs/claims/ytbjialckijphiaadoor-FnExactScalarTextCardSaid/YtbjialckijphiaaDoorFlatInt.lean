/- markIntS, heldIntS, eqIntS. -/
import Derived.Test.YtbjialckijphiaaDoorFlat
import Derived.StillTailTactics
namespace Go.Proofs.YtbjialckijphiaaDoor
open Go.RowKit

def markInt (k i m : Nat) : Value := if m = 0 then .int .i64 ((k + 1 * i + 0 : Nat) : Int) else undef
def partInt (k j : Nat) (f : Nat → Nat → Value) (i m : Nat) : Value := if i < j then markInt k i m else f i m
theorem markInt_0 (k i : Nat) : markInt k i 0 = .int .i64 ((k + 1 * i + 0 : Nat) : Int) := rfl

end Go.Proofs.YtbjialckijphiaaDoor
