/- The contract of the laws' helper vAtoms. Condition: at most 2^20 atoms. -/
import Derived.Test.YtkgphkpckcfihaaDoorPAtoms
import Derived.Test.YtkgphkpckcfihaaDoorAtomS
namespace Go.Proofs.YtkgphkpckcfihaaDoor
open Go.RowKit

set_option maxHeartbeats 400000 in
theorem vAtoms_same (A A' : Option Addr) (n c c' : Nat) (l : List At) (w : World) (hn : l.length = n) (hle : n ≤ 1048576) (B : Nat) (hr : Row w B A (atoms l)) (hr' : Row w B A' (atoms l)) :
    Calls Tryd.prog 27 #[.slice A n c, .slice A' n c'] w fun e w' => e = .returned (.bool true) ∧ ∃ k, w' = w.drewN k := by
  go_enter Tryd.func27, Tryd.ntmps27
  go_wp2
  go_loopw [5] (fun i wr => ∃ k : Nat, k ≤ n ∧ i = .int .i64 k ∧ ∃ m, wr = w.drewN m) (fun i _ => n - (intOf i).toNat)
  case atStart => exact ⟨0, by omega, rfl, 0, rfl⟩
  case round =>
    obtain ⟨k, hk, rfl, m, rfl⟩ := hrel
    by_cases hlt : k < n
    · obtain ⟨b, off, rfl, hb, hc1, hc2⟩ := hr.atm (j := k) (by omega)
      obtain ⟨b', off', rfl, hb', hd1, hd2⟩ := hr'.atm (j := k) (by omega)
      have h1 : (0 : Int) ≤ (k : Int) := by omega
      have h2 : (k : Int) < (n : Int) := by omega
      have hsm := seq_same (att l k).t
      go_wp2
      go_quiet (fail)
      go_wp2
      go_roundw
      case rel => exact ⟨k + 1, by omega, by go_num, _, rfl⟩
      case measure => simp [intOf]; omega
    · obtain rfl : k = n := by omega
      go_wp2
      go_ret
      exact ⟨rfl, m, rfl⟩
theorem vAtoms_below (A A' : Option Addr) (n c c' : Nat) (l : List At) (w : World) (hn : l.length = n) (hle : n ≤ 1048576) (B : Nat) (hr : Row w B A (atoms l)) (hr' : Row w B A' (atoms l)) :
    Calls Tryd.prog 27 #[.slice A n c, .slice A' n c'] w fun e w' => e = .returned (.bool true) ∧ Below w.heap.size w w' :=
  (vAtoms_same A A' n c c' l w hn hle B hr hr').mono fun _ _ ⟨he, k, hk⟩ => ⟨he, by rw [hk]; exact below_drewN (Below.refl _ _) k⟩
end Go.Proofs.YtkgphkpckcfihaaDoor
