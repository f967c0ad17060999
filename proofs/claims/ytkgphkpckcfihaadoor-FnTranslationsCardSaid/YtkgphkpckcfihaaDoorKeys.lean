/- Contracts of the functions that list a stroke's keys. Condition: the stroke is not negative. -/
import Derived.Test.YtkgphkpckcfihaaDoorMem
import Derived.Test.YtkgphkpckcfihaaDoorPStroke
import Derived.Test.YtkgphkpckcfihaaDoorStroke
namespace Go.Proofs.YtkgphkpckcfihaaDoor
open Go.RowKit

/-- What KeysOf lists. -/
def keysR (s : Int) : List Int := if goodB s then keysL s else []
theorem keysR_len (s : Int) : (keysR s).length ≤ 23 := by
  unfold keysR
  split
  · exact keysL_len s
  · simp

end Go.Proofs.YtkgphkpckcfihaaDoor
