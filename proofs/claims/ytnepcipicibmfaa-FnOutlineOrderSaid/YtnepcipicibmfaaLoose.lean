/- Contracts of the relaxed notation's parser. Condition: the text has a string's length. -/
import Derived.Test.YtnepcipicibmfaaKeys
import Derived.Test.YtnepcipicibmfaaPlain
import Derived.Deep.QuietTactic
import Derived.BigQuiet
namespace Go.Proofs.Ytnepcipicibmfaa
open Go.RowKit

end Go.Proofs.Ytnepcipicibmfaa
