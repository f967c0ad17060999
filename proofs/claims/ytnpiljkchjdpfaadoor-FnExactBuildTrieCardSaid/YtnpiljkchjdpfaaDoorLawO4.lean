/- Contracts of FormatOutline, and the law. Condition: lists no longer than maxLen. -/
import Derived.Test.YtnpiljkchjdpfaaDoorNotat
import Derived.Test.YtnpiljkchjdpfaaDoorIntS
namespace Go.Proofs.YtnpiljkchjdpfaaDoor
open Go.RowKit

def fmtO (l : List Int) : List UInt8 := if outB l then notL l else []

end Go.Proofs.YtnpiljkchjdpfaaDoor
