/- The walk of the law on IsValidAtom. No condition. -/
import Derived.Test.YtnpiljkchjdpfaaDoorAtom
namespace Go.Proofs.YtnpiljkchjdpfaaDoor
open Go.RowKit

end Go.Proofs.YtnpiljkchjdpfaaDoor
