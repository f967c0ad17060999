/- Contracts on outlines: begins with, compare. Condition: lists no longer than maxLen. -/
import Derived.Test.YtnepcipicibmfaaDoorOutl
import Derived.Test.YtnepcipicibmfaaDoorPOutl
import Derived.Test.YtnepcipicibmfaaDoorBits
import Derived.Deep.Draws
namespace Go.Proofs.YtnepcipicibmfaaDoor
open Go.RowKit Go.Shelf

set_option maxHeartbeats 400000 in
theorem slicesEq_any (A A' : Option Addr) (n m c c' : Nat) (xs ys : List Int) (w : World) (hx : xs.length = n) (hy : ys.length = m) (hn : n ≤ maxLen) (hm : m ≤ maxLen) (B : Nat) (hr : Row w B A (ints xs)) (hr' : Row w B A' (ints ys)) :
    Calls Tryd.prog 47 #[.slice A n c, .slice A' m c'] w fun e w' => e = .returned (.bool (xs == ys)) ∧ ∃ k, w' = w.drewN k := by
  unfold maxLen at hn hm
  by_cases hnm : n = m
  · subst hnm
    go_enter Tryd.func47, Tryd.ntmps47
    go_wp2
    go_loopw [13, 5] (fun i _ wr => ∃ k : Nat, k ≤ n ∧ i = .int .i64 k ∧ xs.take k = ys.take k ∧ ∃ m, wr = w.drewN m) (fun i _ _ => n - (intOf i).toNat)
    case atStart => exact ⟨0, by omega, rfl, rfl, 0, rfl⟩
    case round =>
      obtain ⟨k, hk, rfl, ht, m, rfl⟩ := hrel
      by_cases hlt : k < n
      · obtain ⟨b, off, rfl, hb, hc⟩ := hr.int (k := k) (by omega)
        obtain ⟨b', off', rfl, hb', hc'⟩ := hr'.int (k := k) (by omega)
        have h1 : (0 : Int) ≤ (k : Int) := by omega
        have h2 : (k : Int) < (n : Int) := by omega
        by_cases he : elt xs k = elt ys k
        · have H := Lib.hid (takes_succ (by omega) (by omega) ht he)
          rw [← he] at hc'
          clear ht he
          go_wp2
          go_quiet (fail)
          go_wp2
          go_roundw
          case rel => exact ⟨k + 1, by omega, by go_num, H.out, _, rfl⟩
          case measure => simp [intOf]; omega
        · have H := Lib.hid (ne_of_elt k he)
          have he' : (elt xs k == elt ys k) = false := by simpa using he
          clear ht he
          go_wp2
          go_quiet (fail)
          go_wp2
          go_ret
          exact ⟨ret_bool H.out.symm, _, World.drewN_drewN ..⟩
      · obtain rfl : k = n := by omega
        have H := Lib.hid (eq_of_takes hx hy ht)
        clear ht
        go_wp2
        go_ret
        exact ⟨ret_bool H.out.symm, m, rfl⟩
  · have H := Lib.hid (ne_of_len (xs := xs) (ys := ys) (by omega))
    have hd : ((n : Int) == (m : Int)) = false := by simp; omega
    go_enter Tryd.func47, Tryd.ntmps47
    go_wp2
    go_ret
    exact ⟨ret_bool H.out.symm, 0, rfl⟩
end Go.Proofs.YtnepcipicibmfaaDoor
