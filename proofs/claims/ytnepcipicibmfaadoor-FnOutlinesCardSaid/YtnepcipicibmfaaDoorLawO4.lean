/- Contracts of FormatOutline, and the law. Condition: lists no longer than maxLen. -/
import Derived.Test.YtnepcipicibmfaaDoorNotat
import Derived.Test.YtnepcipicibmfaaDoorIntS
namespace Go.Proofs.YtnepcipicibmfaaDoor
open Go.RowKit

def fmtO (l : List Int) : List UInt8 := if outB l then notL l else []

set_option maxHeartbeats 400000 in
theorem implFormatOut_any (A : Option Addr) (n c : Nat) (l : List Int) (w : World) (hn : l.length = n) (hm : n ≤ maxLen) (B : Nat) (hB : B ≤ w.heap.size) (hr : Row w B A (ints l)) :
    Calls Tryd.prog 17 #[.slice A n c] w fun e w' => e = .returned (.tuple #[.string (bs (fmtO l)), .bool (outB l)]) ∧ Below w.heap.size w w' := by
  have v1 := implValidOut_any A n c l w hn hm B hr
  rcases Bool.eq_false_or_eq_true (outB l) with g | g
  · have hl := outB_len g
    have e : fmtO l = notL l := by rw [fmtO, if_pos g]
    rw [e, g]
    rw [g] at v1
    go_enter Tryd.func17, Tryd.ntmps17
    go_wp2_with fail
    refine v1.mono ?_
    rintro e w1 ⟨rfl, b1⟩
    go_wp2_with fail
    refine (notation_any A n c l w1 hn (by omega) (by omega) B (Nat.le_trans hB b1.size) (hr.below_le b1 hB)).mono ?_
    rintro e w2 ⟨rfl, hb2⟩
    go_wp2
    go_ret2
    exact ⟨rfl, b1.trans (hb2.mono b1.size)⟩
  · have e : fmtO l = [] := by rw [fmtO, g]; rfl
    rw [e, g]
    rw [g] at v1
    go_enter Tryd.func17, Tryd.ntmps17
    go_wp2_with fail
    refine v1.mono ?_
    rintro e w1 ⟨rfl, b1⟩
    go_wp2
    go_ret2
    exact ⟨rfl, b1⟩

end Go.Proofs.YtnepcipicibmfaaDoor
