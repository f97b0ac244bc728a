/- The order of positions, and the least of some turns: plain. -/
import Derived.Test.YtcdfeaodfmfdnaaGreatDoorBoardPlain
import Derived.Lib.Bytealg
import Derived.Lib.Small
namespace Go.Proofs.YtcdfeaodfmfdnaaGreatDoor
open Go.Lib

/-- the first that is not 0 -/
def or3 (x y z : Int) : Int := if x = 0 then (if y = 0 then z else y) else x
end Go.Proofs.YtcdfeaodfmfdnaaGreatDoor
