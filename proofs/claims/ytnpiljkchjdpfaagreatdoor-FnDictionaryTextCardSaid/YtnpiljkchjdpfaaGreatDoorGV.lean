/- The contract of the laws' helper vInts. No condition. | The contract of the laws' helper vDict. Condition: sizes of at most 2^20. -/
import Derived.Test.YtnpiljkchjdpfaaGreatDoorGO
import Derived.Test.YtnpiljkchjdpfaaGreatDoorIntS
import Derived.Test.YtnpiljkchjdpfaaGreatDoorBits
import Derived.Test.YtnpiljkchjdpfaaGreatDoorGA
import Derived.Test.YtnpiljkchjdpfaaGreatDoorStrS
import Derived.Deep.QuietTactic
namespace Go.Proofs.YtnpiljkchjdpfaaGreatDoor
open Go.RowKit

set_option maxHeartbeats 400000 in
theorem vInts_any (A A' : Option Addr) (n m c c' : Nat) (xs ys : List Int) (w : World) (hx : xs.length = n) (hy : ys.length = m) (hn : n ≤ maxLen) (hm : m ≤ maxLen) (B : Nat) (hr : Row w B A (ints xs)) (hr' : Row w B A' (ints ys)) :
    Calls Tryz.prog 32 #[.slice A n c, .slice A' m c'] w fun e w' => e = .returned (.bool (xs == ys)) ∧ ∃ k, w' = w.drewN k := by
  unfold maxLen at hn hm
  by_cases hnm : n = m
  · subst hnm
    go_enter Tryz.func32, Tryz.ntmps32
    go_wp2
    go_loopw [5] (fun i wr => ∃ k : Nat, k ≤ n ∧ i = .int .i64 k ∧ xs.take k = ys.take k ∧ ∃ m, wr = w.drewN m) (fun i _ => n - (intOf i).toNat)
    case atStart => exact ⟨0, by omega, rfl, rfl, 0, rfl⟩
    case round =>
      obtain ⟨k, hk, rfl, ht, m, rfl⟩ := hrel
      by_cases hlt : k < n
      · obtain ⟨b, off, rfl, hb, hc⟩ := hr.int (k := k) (by omega)
        obtain ⟨b', off', rfl, hb', hc'⟩ := hr'.int (k := k) (by omega)
        have h1 : (0 : Int) ≤ (k : Int) := by omega
        have h2 : (k : Int) < (n : Int) := by omega
        by_cases he : elt xs k = elt ys k
        · have H := Lib.hid (takes_succ (by omega) (by omega) ht he)
          rw [← he] at hc'
          clear ht he
          go_wp2
          go_quiet (fail)
          go_wp2
          go_roundw
          case rel => exact ⟨k + 1, by omega, by go_num, H.out, _, rfl⟩
          case measure => simp [intOf]; omega
        · have H := Lib.hid (ne_of_elt k he)
          have he' : (elt xs k == elt ys k) = false := by simpa using he
          clear ht he
          go_wp2
          go_quiet (fail)
          go_wp2
          go_ret
          exact ⟨ret_bool H.out.symm, _, World.drewN_drewN ..⟩
      · obtain rfl : k = n := by omega
        have H := Lib.hid (eq_of_takes hx hy ht)
        clear ht
        go_wp2
        go_ret
        exact ⟨ret_bool H.out.symm, m, rfl⟩
  · have H := Lib.hid (ne_of_len (xs := xs) (ys := ys) (by omega))
    have hd : ((n : Int) == (m : Int)) = false := by simp; omega
    go_enter Tryz.func32, Tryz.ntmps32
    go_wp2
    go_ret
    exact ⟨ret_bool H.out.symm, 0, rfl⟩
theorem vInts_same (A A' : Option Addr) (c c' : Nat) (xs : List Int) (w : World) (hn : xs.length ≤ 1048576) (B : Nat) (hr : Row w B A (ints xs)) (hr' : Row w B A' (ints xs)) :
    Calls Tryz.prog 32 #[.slice A xs.length c, .slice A' xs.length c'] w fun e w' => e = .returned (.bool true) ∧ ∃ k, w' = w.drewN k :=
  (vInts_any A A' _ _ c c' xs xs w rfl rfl (by unfold maxLen; omega) (by unfold maxLen; omega) B hr hr').mono fun _ _ ⟨he, hk⟩ => ⟨by rw [he]; simp, hk⟩
theorem vInts_below (A A' : Option Addr) (n c c' : Nat) (xs : List Int) (w : World) (hx : xs.length = n) (hn : n ≤ 1048576) (B : Nat) (hr : Row w B A (ints xs)) (hr' : Row w B A' (ints xs)) :
    Calls Tryz.prog 32 #[.slice A n c, .slice A' n c'] w fun e w' => e = .returned (.bool true) ∧ Below w.heap.size w w' := by
  subst hx
  exact (vInts_same A A' c c' xs w hn B hr hr').mono fun _ _ ⟨he, k, hk⟩ => ⟨he, by rw [hk]; exact below_drewN (Below.refl _ _) k⟩
end Go.Proofs.YtnpiljkchjdpfaaGreatDoor

namespace Go.Proofs.YtnpiljkchjdpfaaGreatDoor
open Go.RowKit

set_option maxHeartbeats 2000000 in
theorem vDict_same (A A' : Option Addr) (n c c' : Nat) (l l' : List En) (w : World) (hn : l.length = n) (hv : vals l = vals l') (hle : n ≤ 1048576) (hs : ∀ e ∈ l, e.o.length ≤ 1048576) (B : Nat) (hB : B ≤ w.heap.size) (hr : DRow w B A l) (hr' : DRow w B A' l') :
    Calls Tryz.prog 15 #[.agg #[.slice A n c], .agg #[.slice A' n c']] w fun e w' => e = .returned (.bool true) ∧ Below w.heap.size w w' := by
  obtain ⟨o1, o2, b2⟩ := two_new 24 24 w #[.slice A n c] #[.slice A' n c']
  have hv := Lib.hid hv
  go_enter Tryz.func15, Tryz.ntmps15
  go_wp2
  go_loopw [5] (fun i wr => ∃ k : Nat, k ≤ n ∧ i = .int .i64 k ∧ ownC 24 wr w.heap.size w.heap.size [.slice A n c] ∧ ownC 24 wr w.heap.size (w.heap.size + 1) [.slice A' n c'] ∧ Below w.heap.size w wr) (fun i _ => n - (intOf i).toNat)
  case atStart => exact ⟨0, by omega, rfl, o1, o2, b2⟩
  case round =>
    obtain ⟨k, hk, rfl, p1, p2, hbel⟩ := hrel
    have ca := p1.cell (j := 0) rfl
    have cb := p2.cell (j := 0) rfl
    by_cases hlt : k < n
    · obtain ⟨hk', e1, e2⟩ := vals_at hv.out k (by omega)
      obtain ⟨b, off, rfl, hb, hc1, hc2, hro⟩ := (hr.below_le hbel hB).at (j := k) (by omega)
      obtain ⟨b', off', rfl, hb', hd1, hd2, hro'⟩ := (hr'.below_le hbel hB).at (j := k) hk'
      have hin := hs _ (enAt_in l k (by omega))
      have hs := hbel.size
      rw [← e1] at hro' hd1
      rw [← e2] at hd2
      have hE := Lib.hid (fun (N : Nat) => vInts_same (enAt l k).A (enAt l' k).A (enAt l k).c (enAt l' k).c (enAt l k).o (wr.drewN N) hin B hro hro')
      clear hro hro' e1 e2 hk'
      generalize (enAt l k).A = P1 at hc1 hE
      generalize (enAt l' k).A = P2 at hd1 hE
      generalize (enAt l k).c = q1 at hc1 hE
      generalize (enAt l' k).c = q2 at hd1 hE
      generalize (enAt l k).o.length = ln at hc1 hd1 hE
      generalize (enAt l k).t = tx at hc2 hd2
      have h1 : (0 : Int) ≤ (k : Int) := by omega
      have h2 : (k : Int) < (n : Int) := by omega
      have hsm := seq_same tx
      clear hr hr'
      go_wp2
      go_quiet ((go_at_call 32; exact Calls.quiet_of (hE.out _)))
      go_wp2
      go_roundw
      case rel => exact ⟨k + 1, by omega, by go_num, p1.drewN _, p2.drewN _, below_drewN hbel _⟩
      case measure => simp [intOf]; omega
    · obtain rfl : k = n := by omega
      go_wp2
      go_ret
      exact ⟨rfl, hbel⟩
end Go.Proofs.YtnpiljkchjdpfaaGreatDoor
