/- Contracts of the relaxed notation's parser. Condition: the text has a string's length. -/
import Derived.Test.YtkgphkpckcfihaaDoorKeys
import Derived.Test.YtkgphkpckcfihaaDoorPlain
import Derived.Deep.QuietTactic
import Derived.BigQuiet
namespace Go.Proofs.YtkgphkpckcfihaaDoor
open Go.RowKit

end Go.Proofs.YtkgphkpckcfihaaDoor
