/- Contract of the reference's 'spoilt': a text with a byte more, less, or another one. Condition: the texts are short. -/
import Derived.Test.YthnecaeljpaggaaCur
namespace Go.Proofs.Ythnecaeljpaggaa
open Go.RowKit

end Go.Proofs.Ythnecaeljpaggaa
