/- The walks of the laws on a stroke's keys. No condition. -/
import Derived.Test.YtddmejmcdjkllaaKeys
import Derived.Test.YtddmejmcdjkllaaIntS
namespace Go.Proofs.Ytddmejmcdjkllaa
open Go.RowKit

set_option maxHeartbeats 800000 in
theorem lawKeysOf (s : Int) (w : World) : Calls Try.prog 6 #[.int .i64 s] w fun e w' => e = .returned (.bool true) ∧ Below w.heap.size w w' := by
  have hl := keysR_len s
  go_enter Try.func6, Try.ntmps6
  go_wp2_with fail
  refine (specKeysOf_any s w).mono ?_
  rintro e w1 ⟨A0, c0, rfl, ho0, hb1⟩
  have r0 := Row.of_own ho0
  go_wp2_with fail
  refine (implKeysOfBig_any s w1).mono ?_
  rintro e w2 ⟨A1, c1, rfl, ho1, hb2⟩
  have r02 := r0.below hb2
  go_wp2_with fail
  refine (eqIntS_same A1 A0 _ c1 c0 (keysR s) w2 rfl (by omega) w2.heap.size (Row.of_own ho1) (r02.mono hb2.size)).mono ?_
  rintro e w3 ⟨rfl, hb3⟩
  have ho3 := own_below ho1 hb3 (Nat.le_refl _)
  have r03 := r02.below_le hb3 hb2.size
  have s3 : w1.heap.size ≤ w3.heap.size := Nat.le_trans hb2.size hb3.size
  go_wp2_with fail
  refine (markIntS_any A1 _ c1 (keysR s) 1 w1.heap.size _ rfl (by omega) (by omega) (by omega) ho3).mono ?_
  rintro e w4 ⟨rfl, ho4, hg4⟩
  have r04 := r03.marked ho3 hg4 (Nat.le_refl _) s3
  have s4 : w1.heap.size ≤ w4.heap.size := Nat.le_trans s3 hg4.size
  go_wp2_with fail
  refine (heldIntS_any A1 _ c1 1 w4.heap.size w4 (by omega) (by omega) (by omega) (Row.of_own ho4)).mono ?_
  rintro e w5 ⟨rfl, rfl⟩
  go_wp2_with fail
  refine (implKeysOfBig_any s w4).mono ?_
  rintro e w6 ⟨A6, c6, rfl, ho6, hb6⟩
  go_wp2_with fail
  refine (eqIntS_same A6 A0 _ c6 c0 (keysR s) w6 rfl (by omega) w6.heap.size (Row.of_own ho6) ((r04.below_le hb6 s4).mono (Nat.le_trans s4 hb6.size))).mono ?_
  rintro e w7 ⟨rfl, hb7⟩
  go_wp2_with fail
  refine (heldIntS_any A1 _ c1 1 w4.heap.size w7 (by omega) (by omega) (by omega) (((Row.of_own ho4).below hb6).below_le hb7 hb6.size)).mono ?_
  rintro e w8 ⟨rfl, rfl⟩
  go_wp2
  go_ret
  refine ⟨rfl, ?_⟩
  have b3 : Below w.heap.size w w3 := (hb1.trans (hb2.mono hb1.size)).trans (hb3.mono (Nat.le_trans hb1.size hb2.size))
  have b4 : Below w.heap.size w w4 := below_marked b3 ho3 hg4 hb1.size b3.size
  exact (b4.trans (hb6.mono b4.size)).trans (hb7.mono (Nat.le_trans b4.size hb6.size))
end Go.Proofs.Ytddmejmcdjkllaa
