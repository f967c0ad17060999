/- The contract of the laws' helper vInts. No condition. -/
import Derived.Test.YtnepcipicibmfaaDoorPOutl
import Derived.Test.YtnepcipicibmfaaDoorIntS
import Derived.Test.YtnepcipicibmfaaDoorBits
namespace Go.Proofs.YtnepcipicibmfaaDoor
open Go.RowKit

set_option maxHeartbeats 400000 in
theorem vInts_any (A A' : Option Addr) (n m c c' : Nat) (xs ys : List Int) (w : World) (hx : xs.length = n) (hy : ys.length = m) (hn : n ≤ maxLen) (hm : m ≤ maxLen) (B : Nat) (hr : Row w B A (ints xs)) (hr' : Row w B A' (ints ys)) :
    Calls Tryd.prog 12 #[.slice A n c, .slice A' m c'] w fun e w' => e = .returned (.bool (xs == ys)) ∧ ∃ k, w' = w.drewN k := by
  unfold maxLen at hn hm
  by_cases hnm : n = m
  · subst hnm
    go_enter Tryd.func12, Tryd.ntmps12
    go_wp2
    go_loopw [5] (fun i wr => ∃ k : Nat, k ≤ n ∧ i = .int .i64 k ∧ xs.take k = ys.take k ∧ ∃ m, wr = w.drewN m) (fun i _ => n - (intOf i).toNat)
    case atStart => exact ⟨0, by omega, rfl, rfl, 0, rfl⟩
    case round =>
      obtain ⟨k, hk, rfl, ht, m, rfl⟩ := hrel
      by_cases hlt : k < n
      · obtain ⟨b, off, rfl, hb, hc⟩ := hr.int (k := k) (by omega)
        obtain ⟨b', off', rfl, hb', hc'⟩ := hr'.int (k := k) (by omega)
        have h1 : (0 : Int) ≤ (k : Int) := by omega
        have h2 : (k : Int) < (n : Int) := by omega
        by_cases he : elt xs k = elt ys k
        · have H := Lib.hid (takes_succ (by omega) (by omega) ht he)
          rw [← he] at hc'
          clear ht he
          go_wp2
          go_quiet (fail)
          go_wp2
          go_roundw
          case rel => exact ⟨k + 1, by omega, by go_num, H.out, _, rfl⟩
          case measure => simp [intOf]; omega
        · have H := Lib.hid (ne_of_elt k he)
          have he' : (elt xs k == elt ys k) = false := by simpa using he
          clear ht he
          go_wp2
          go_quiet (fail)
          go_wp2
          go_ret
          exact ⟨ret_bool H.out.symm, _, World.drewN_drewN ..⟩
      · obtain rfl : k = n := by omega
        have H := Lib.hid (eq_of_takes hx hy ht)
        clear ht
        go_wp2
        go_ret
        exact ⟨ret_bool H.out.symm, m, rfl⟩
  · have H := Lib.hid (ne_of_len (xs := xs) (ys := ys) (by omega))
    have hd : ((n : Int) == (m : Int)) = false := by simp; omega
    go_enter Tryd.func12, Tryd.ntmps12
    go_wp2
    go_ret
    exact ⟨ret_bool H.out.symm, 0, rfl⟩
theorem vInts_same (A A' : Option Addr) (c c' : Nat) (xs : List Int) (w : World) (hn : xs.length ≤ 1048576) (B : Nat) (hr : Row w B A (ints xs)) (hr' : Row w B A' (ints xs)) :
    Calls Tryd.prog 12 #[.slice A xs.length c, .slice A' xs.length c'] w fun e w' => e = .returned (.bool true) ∧ ∃ k, w' = w.drewN k :=
  (vInts_any A A' _ _ c c' xs xs w rfl rfl (by unfold maxLen; omega) (by unfold maxLen; omega) B hr hr').mono fun _ _ ⟨he, hk⟩ => ⟨by rw [he]; simp, hk⟩
theorem vInts_below (A A' : Option Addr) (n c c' : Nat) (xs : List Int) (w : World) (hx : xs.length = n) (hn : n ≤ 1048576) (B : Nat) (hr : Row w B A (ints xs)) (hr' : Row w B A' (ints xs)) :
    Calls Tryd.prog 12 #[.slice A n c, .slice A' n c'] w fun e w' => e = .returned (.bool true) ∧ Below w.heap.size w w' := by
  subst hx
  exact (vInts_same A A' c c' xs w hn B hr hr').mono fun _ _ ⟨he, k, hk⟩ => ⟨he, by rw [hk]; exact below_drewN (Below.refl _ _) k⟩
end Go.Proofs.YtnepcipicibmfaaDoor
