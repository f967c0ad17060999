/- Contracts of the relaxed notation's parser. Condition: the text has a string's length. -/
import Derived.Test.YthnecaeljpaggaaKeys
import Derived.Test.YthnecaeljpaggaaPlain
import Derived.Deep.QuietTactic
import Derived.BigQuiet
namespace Go.Proofs.Ythnecaeljpaggaa
open Go.RowKit

end Go.Proofs.Ythnecaeljpaggaa
