/- The walk of the law on IsValidAtom. No condition. -/
import Derived.Test.YtnpiljkchjdpfaaGreatDoorAtom
namespace Go.Proofs.YtnpiljkchjdpfaaGreatDoor
open Go.RowKit

end Go.Proofs.YtnpiljkchjdpfaaGreatDoor
