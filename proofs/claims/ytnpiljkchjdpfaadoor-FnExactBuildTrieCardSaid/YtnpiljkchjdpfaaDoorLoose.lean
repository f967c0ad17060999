/- Contracts of the relaxed notation's parser. Condition: the text has a string's length. -/
import Derived.Test.YtnpiljkchjdpfaaDoorKeys
import Derived.Test.YtnpiljkchjdpfaaDoorPlain
import Derived.Deep.QuietTactic
import Derived.BigQuiet
namespace Go.Proofs.YtnpiljkchjdpfaaDoor
open Go.RowKit

end Go.Proofs.YtnpiljkchjdpfaaDoor
