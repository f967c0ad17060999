/- The walk of the law on NewStroke. No condition. -/
import Derived.Test.YtddmejmcdjkllaaNewS
namespace Go.Proofs.Ytddmejmcdjkllaa
open Go.RowKit

set_option maxHeartbeats 800000 in
theorem lawNewStroke (A : Option Addr) (n c : Nat) (xs : List Int) (w : World) (hn : xs.length = n) (hm : n ≤ maxLen) (hr : Row w w.heap.size A (ints xs)) :
    Calls Try.prog 3 #[.slice A n c] w fun e w' => e = .returned (.bool true) ∧ Below w.heap.size w w' := by
  unfold maxLen at hm
  by_cases hle : n ≤ 1048576
  · go_enter Try.func3, Try.ntmps3
    go_wp2_with fail
    refine (toIntS_any A n c xs w hn hle hr).mono ?_
    rintro e w1 ⟨rfl, ho1, hb1⟩
    go_wp2_with fail
    refine (specNew_any _ n n xs w1 w1.heap.size hn hle (Row.of_own ho1)).mono ?_
    rintro e w2 ⟨rfl, rfl⟩
    go_wp2_with fail
    refine (toIntS_any A n c xs w1 hn hle ((hr.below hb1).mono hb1.size)).mono ?_
    rintro e w2 ⟨rfl, ho2, hb2⟩
    go_wp2_with fail
    refine (implNew_any _ n n xs w2 w2.heap.size hn hle (Row.of_own ho2)).mono ?_
    rintro e w3 ⟨rfl, rfl⟩
    have b2 : Below w.heap.size w w2 := hb1.trans (hb2.mono hb1.size)
    go_wp2_with fail
    refine (toIntS_any A n c xs w2 hn hle ((hr.below b2).mono b2.size)).mono ?_
    rintro e w3 ⟨rfl, ho3, hb3⟩
    go_wp2_with fail
    refine (eqIntS_same _ _ n n n xs w3 hn hle w3.heap.size (((Row.of_own ho2).below hb3).mono hb3.size) (Row.of_own ho3)).mono ?_
    rintro e w4 ⟨rfl, hb4⟩
    go_wp2
    go_ret
    exact ⟨rfl, (b2.trans (hb3.mono b2.size)).trans (hb4.mono (Nat.le_trans b2.size hb3.size))⟩
  · go_enter Try.func3, Try.ntmps3
    go_wp2
    go_ret
    exact ⟨rfl, Below.refl _ _⟩
end Go.Proofs.Ytddmejmcdjkllaa
