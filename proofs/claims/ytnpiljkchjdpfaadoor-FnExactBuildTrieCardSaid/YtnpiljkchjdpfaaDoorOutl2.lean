/- Contracts on outlines: begins with, compare. Condition: lists no longer than maxLen. -/
import Derived.Test.YtnpiljkchjdpfaaDoorOutl
import Derived.Test.YtnpiljkchjdpfaaDoorPOutl
import Derived.Test.YtnpiljkchjdpfaaDoorBits
import Derived.Deep.Draws
namespace Go.Proofs.YtnpiljkchjdpfaaDoor
open Go.RowKit Go.Shelf

end Go.Proofs.YtnpiljkchjdpfaaDoor
