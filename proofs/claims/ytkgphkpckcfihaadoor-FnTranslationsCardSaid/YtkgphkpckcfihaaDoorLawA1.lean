/- The walk of the law on IsValidAtom. No condition. -/
import Derived.Test.YtkgphkpckcfihaaDoorAtom
namespace Go.Proofs.YtkgphkpckcfihaaDoor
open Go.RowKit

end Go.Proofs.YtkgphkpckcfihaaDoor
