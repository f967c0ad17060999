/- Contracts of the functions that list a stroke's keys. Condition: the stroke is not negative. -/
import Derived.Test.YtnpiljkchjdpfaaDoorMem
import Derived.Test.YtnpiljkchjdpfaaDoorPStroke
import Derived.Test.YtnpiljkchjdpfaaDoorStroke
namespace Go.Proofs.YtnpiljkchjdpfaaDoor
open Go.RowKit

theorem intT : ElemT Tryd.prog 22 3 (.int .i64 0) 1 8 := ⟨Tryd.underlying22, by kernel_rfl, rfl, by decide⟩

theorem implKeysOf_any (s : Int) (w : World) (h0 : 0 ≤ s) (h1 : s ≤ 8388607) :
    Calls Tryd.prog 85 #[.int .i64 s] w fun e w' => ∃ A c, e = .returned (.slice A (keysL s).length c) ∧ w'.ownsRow w.heap.size 3 1 (.slice A (keysL s).length c) (keysL s).length (ints (keysL s)) ∧ Below w.heap.size w w' := by
  go_enter Tryd.func85, Tryd.ntmps85
  go_wp2
  go_loopw [3, 6] (fun v i wr => ∃ k : Nat, k ≤ 23 ∧ i = .int .i64 k ∧ wr.ownsRow w.heap.size 3 1 v (keysTo s k).length (ints (keysTo s k)) ∧ Below w.heap.size w wr) (fun _ i _ => 23 - (intOf i).toNat)
  case atStart => exact ⟨0, by omega, rfl, World.ownsRow_made _ _ _ (Nat.le_refl _) (by unfold maxLen; omega) (by simp), (Below.refl _ _).alloc (Nat.le_refl _) _⟩
  case round =>
    obtain ⟨k, hk, rfl, hown, hbel⟩ := hrel
    have hlen := keysTo_len s k
    have hsize := hbel.size
    by_cases hlt : k < 23
    · have hb := bit_test (s := s) k h0 (by omega)
      have hsucc := Lib.hid (keysTo_succ s k)
      rcases Bool.eq_false_or_eq_true (bitB s k) with hbit | hbit
      · rw [hbit] at hb
        go_wp2_with (at_builtin; refine wpList_app1 (.int .i64 k) intT hbel hown rfl (Nat.le_refl _) hsize (by omega) (by decide) rfl (.tmp 14) (.tmp 16) rfl rfl rfl ?_; intro v1 w1 hown1 hbel1 _ _)
        go_roundw
        case rel => exact ⟨k + 1, by omega, by go_num, by rw [hsucc.out, hbit]; simpa [ints] using hown1, hbel1⟩
        case measure => simp [intOf]; omega
      · rw [hbit] at hb
        go_wp2
        go_roundw
        case rel => exact ⟨k + 1, by omega, by go_num, by rw [hsucc.out, hbit]; simpa [ints] using hown, hbel⟩
        case measure => simp [intOf]; omega
    · obtain rfl : k = 23 := by omega
      obtain ⟨A, c, rfl, _⟩ := own_slice hown
      go_wp2
      go_ret
      exact ⟨A, c, rfl, hown, hbel⟩
theorem l2Keys_any (s : Int) (w : World) (h0 : 0 ≤ s) (h1 : s ≤ 8388607) :
    Calls Tryd.prog 96 #[.int .i64 s] w fun e w' => ∃ A c, e = .returned (.slice A (keysL s).length c) ∧ w'.ownsRow w.heap.size 3 1 (.slice A (keysL s).length c) (keysL s).length (ints (keysL s)) ∧ Below w.heap.size w w' := by
  go_enter Tryd.func96, Tryd.ntmps96
  go_wp2
  go_loopw [3, 4] (fun v i wr => ∃ k : Nat, k ≤ 23 ∧ i = .int .i64 k ∧ wr.ownsRow w.heap.size 3 1 v (keysTo s k).length (ints (keysTo s k)) ∧ Below w.heap.size w wr) (fun _ i _ => 23 - (intOf i).toNat)
  case atStart => exact ⟨0, by omega, rfl, World.ownsRow_made _ _ _ (Nat.le_refl _) (by unfold maxLen; omega) (by simp), (Below.refl _ _).alloc (Nat.le_refl _) _⟩
  case round =>
    obtain ⟨k, hk, rfl, hown, hbel⟩ := hrel
    have hlen := keysTo_len s k
    have hsize := hbel.size
    by_cases hlt : k < 23
    · have hb := bit_test (s := s) k h0 (by omega)
      have hsucc := Lib.hid (keysTo_succ s k)
      rcases Bool.eq_false_or_eq_true (bitB s k) with hbit | hbit
      · rw [hbit] at hb
        go_wp2_with (at_builtin; refine wpList_app1 (.int .i64 k) intT hbel hown rfl (Nat.le_refl _) hsize (by omega) (by decide) rfl (.tmp 16) (.tmp 18) rfl rfl rfl ?_; intro v1 w1 hown1 hbel1 _ _)
        go_roundw
        case rel => exact ⟨k + 1, by omega, by go_num, by rw [hsucc.out, hbit]; simpa [ints] using hown1, hbel1⟩
        case measure => simp [intOf]; omega
      · rw [hbit] at hb
        go_wp2
        go_roundw
        case rel => exact ⟨k + 1, by omega, by go_num, by rw [hsucc.out, hbit]; simpa [ints] using hown, hbel⟩
        case measure => simp [intOf]; omega
    · obtain rfl : k = 23 := by omega
      obtain ⟨A, c, rfl, _⟩ := own_slice hown
      go_wp2
      go_ret
      exact ⟨A, c, rfl, hown, hbel⟩
/-- What KeysOf lists. -/
def keysR (s : Int) : List Int := if goodB s then keysL s else []
theorem keysR_len (s : Int) : (keysR s).length ≤ 23 := by
  unfold keysR
  split
  · exact keysL_len s
  · simp

end Go.Proofs.YtnpiljkchjdpfaaDoor
