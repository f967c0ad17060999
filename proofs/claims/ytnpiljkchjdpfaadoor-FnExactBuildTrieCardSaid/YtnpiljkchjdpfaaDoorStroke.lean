/- Contracts of the small functions on strokes and keys. No condition. -/
import Derived.Test.YtnpiljkchjdpfaaDoorRows
import Derived.Test.YtnpiljkchjdpfaaDoorBits
import Derived.WalkKit
import Derived.WalkLawsBesides
import Derived.WalkSpells
import Derived.Outline
import Derived.Lib.Hide
namespace Go.Proofs.YtnpiljkchjdpfaaDoor
open Go.RowKit

/-- Within bounds. -/
def inB (n lo hi : Int) : Bool := decide (lo ≤ n ∧ n ≤ hi)
theorem inB_true {n lo hi : Int} (a : lo ≤ n) (b : n ≤ hi) : inB n lo hi = true := by simp [inB, a, b]
theorem inB_lo {n lo hi : Int} (a : n < lo) : inB n lo hi = false := by simp [inB]; omega
theorem inB_hi {n lo hi : Int} (a : hi < n) : inB n lo hi = false := by simp [inB]; omega
def goodB (s : Int) : Bool := inB s 1 8388607
def keyB (k : Int) : Bool := inB k 0 22
def hasB (s k : Int) : Bool := goodB s && keyB k && bitB s k
theorem in_bd {n lo hi : Int} (g : inB n lo hi = true) : lo ≤ n ∧ n ≤ hi := by simpa [inB] using g
theorem good_bd {s : Int} (g : goodB s = true) : 1 ≤ s ∧ s ≤ 8388607 := by simpa [goodB, inB] using g
theorem key_bd {s : Int} (g : keyB s = true) : 0 ≤ s ∧ s ≤ 22 := by simpa [keyB, inB] using g

theorem implIn_any (n lo hi : Int) (w : World) : Calls Tryd.prog 60 #[.int .i64 n, .int .i64 lo, .int .i64 hi] w fun e w' => e = .returned (.bool (inB n lo hi)) ∧ w = w' := by
  by_cases a : lo ≤ n
  · by_cases b : n ≤ hi
    all_goals
      go_enter Tryd.func60, Tryd.ntmps60
      go_wp2
      go_ret
      exact ⟨by simp [inB, a, b], rfl⟩
  · go_enter Tryd.func60, Tryd.ntmps60
    go_wp2
    go_ret
    exact ⟨ret_bool (inB_lo (by omega)).symm, rfl⟩

theorem l1In_any (n lo hi : Int) (w : World) : Calls Tryd.prog 77 #[.int .i64 n, .int .i64 lo, .int .i64 hi] w fun e w' => e = .returned (.bool (inB n lo hi)) ∧ w = w' := by
  by_cases a : lo ≤ n
  · by_cases b : n ≤ hi
    all_goals
      go_enter Tryd.func77, Tryd.ntmps77
      go_wp2
      go_ret
      exact ⟨by simp [inB, a, b], rfl⟩
  · go_enter Tryd.func77, Tryd.ntmps77
    go_wp2
    go_ret
    exact ⟨ret_bool (inB_lo (by omega)).symm, rfl⟩

theorem l1In_key (n : Int) (w : World) : Calls Tryd.prog 77 #[.int .i64 n, .int .i64 0, .int .i64 22] w fun e w' => e = .returned (.bool (keyB n)) ∧ w = w' := l1In_any n 0 22 w

theorem l2Good_any (s : Int) (w : World) : Calls Tryd.prog 78 #[.int .i64 s] w fun e w' => e = .returned (.bool (goodB s)) ∧ w = w' := by
  go_enter Tryd.func78, Tryd.ntmps78
  go_wp2_with (go_at_call 77; refine (l1In_any _ _ _ _).mono ?_; rintro e w' ⟨rfl, rfl⟩)
  go_ret
  exact ⟨rfl, rfl⟩

theorem implIsValidStroke_any (s : Int) (w : World) : Calls Tryd.prog 62 #[.int .i64 s] w fun e w' => e = .returned (.bool (goodB s)) ∧ w = w' := by
  go_enter Tryd.func62, Tryd.ntmps62
  go_wp2_with (go_at_call 60; refine (implIn_any _ _ _ _).mono ?_; rintro e w' ⟨rfl, rfl⟩)
  go_ret
  exact ⟨rfl, rfl⟩

end Go.Proofs.YtnpiljkchjdpfaaDoor
