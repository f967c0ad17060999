/- Contracts of FormatStroke. No condition. -/
import Derived.Test.YtkgphkpckcfihaaDoorLoose
namespace Go.Proofs.YtkgphkpckcfihaaDoor
open Go.RowKit

theorem ret_sb {o : ByteArray} {x y : Bool} (g : y = x) : Ending.returned (.tuple #[.string o, .bool x]) = .returned (.tuple #[.string o, .bool y]) := by rw [g]
/-- The notation, or nothing. -/
def fmtR (s : Int) : List UInt8 := if goodB s then fmtL s else []
theorem fmtR_len (s : Int) : (fmtR s).length ≤ 46 := by
  unfold fmtR
  split
  · exact fmtL_len s
  · simp

end Go.Proofs.YtkgphkpckcfihaaDoor
