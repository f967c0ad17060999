/- Contracts of the laws' helpers on slices of integers: toIntS, eqIntS, markIntS, heldIntS. Condition: at most 2^20 elements. -/
import Derived.Test.YtnpiljkchjdpfaaDoorMem
import Derived.Test.YtnpiljkchjdpfaaDoorRows
import Derived.Laws.MakeOwn
import Derived.Deep.QuietTactic
import Derived.BigQuiet
import Derived.WalkLawsBesides
import Derived.WalkSpells
import Derived.Outline
import Derived.Lib.Hide
namespace Go.Proofs.YtnpiljkchjdpfaaDoor
open Go.RowKit

theorem intsT : ElemT Tryd.prog 22 3 (.int .i64 0) 1 8 := ⟨Tryd.underlying22, by kernel_rfl, rfl, by decide⟩

theorem toIntS_any (A : Option Addr) (n c : Nat) (xs : List Int) (w : World) (hn : xs.length = n) (hle : n ≤ 1048576) (hr : Row w w.heap.size A (ints xs)) :
    Calls Tryd.prog 36 #[.slice A n c] w fun e w' => e = .returned (.slice (some ⟨w.heap.size, 0, none⟩) n n) ∧ w'.ownsRow w.heap.size 3 1 (.slice (some ⟨w.heap.size, 0, none⟩) n n) n (ints xs) ∧ Below w.heap.size w w' := by
  have hmk := fun W => run_make_len (P := Tryd.prog) intsT n (by omega) (by decide) W
  go_enter Tryd.func36, Tryd.ntmps36
  go_wp2
  go_loopw [4] (fun i wr => ∃ k : Nat, k ≤ n ∧ i = .int .i64 k ∧ wr.ownsRow w.heap.size 3 1 (.slice (some ⟨w.heap.size, 0, none⟩) n n) n (ints (xs.take k) ++ List.replicate (n - k) (.int .i64 0)) ∧ Below w.heap.size w wr) (fun i _ => n - (intOf i).toNat)
  case atStart => exact ⟨0, by omega, rfl, by simpa [ints] using own_made w 3 (.int .i64 0) n (by omega), (Below.refl _ _).alloc (Nat.le_refl _) _⟩
  case round =>
    obtain ⟨k, hk, rfl, hown, hbel⟩ := hrel
    by_cases hlt : k < n
    · obtain ⟨b, off, rfl, hb, hc⟩ := (hr.below hbel).int (k := k) (by omega)
      obtain ⟨hown1, hg⟩ := hown.stored k (.int .i64 (elt xs k))
      have hfr := hown.frozenAt k
      obtain ⟨u, hcg⟩ : ∃ u, wr.cell? ⟨w.heap.size, k, none⟩ = some u := ⟨_, (hown.cellAt k (by omega)).trans (List.getElem?_eq_getElem (by have := hown.1; omega))⟩
      go_wp2
      go_roundw
      case rel => exact ⟨k + 1, by omega, by go_num, by have e := ints_set_rep xs k (by omega) (.int .i64 0); rw [hn] at e; rw [← e]; exact hown1, hbel.setCell (Nat.le_refl _) _⟩
      case measure => simp [intOf]; omega
    · obtain rfl : k = n := by omega
      go_wp2
      go_ret
      exact ⟨rfl, by simpa [← hn] using hown, hbel⟩

set_option maxHeartbeats 400000 in
theorem eqIntS_quiet (A A' : Option Addr) (n c c' : Nat) (xs : List Int) (w : World) (hn : xs.length = n) (hle : n ≤ 1048576) (B : Nat) (hr : Row w B A (ints xs)) (hr' : Row w B A' (ints xs)) :
    Calls Tryd.prog 39 #[.slice A n c, .slice A' n c'] w fun e w' => e = .returned (.bool true) ∧ ∃ k, w' = w.drewN k := by
  go_enter Tryd.func39, Tryd.ntmps39
  go_wp2
  go_loopw [5] (fun i wr => ∃ k : Nat, k ≤ n ∧ i = .int .i64 k ∧ ∃ m, wr = w.drewN m) (fun i _ => n - (intOf i).toNat)
  case atStart => exact ⟨0, by omega, rfl, 0, rfl⟩
  case round =>
    obtain ⟨k, hk, rfl, m, rfl⟩ := hrel
    by_cases hlt : k < n
    · obtain ⟨b, off, rfl, hb, hc⟩ := hr.int (k := k) (by omega)
      obtain ⟨b', off', rfl, hb', hc'⟩ := hr'.int (k := k) (by omega)
      have h1 : (0 : Int) ≤ (k : Int) := by omega
      have h2 : (k : Int) < (n : Int) := by omega
      go_wp2
      go_quiet (fail)
      go_wp2
      go_roundw
      case rel => exact ⟨k + 1, by omega, by go_num, _, rfl⟩
      case measure => simp [intOf]; omega
    · obtain rfl : k = n := by omega
      go_wp2
      go_ret
      exact ⟨rfl, m, rfl⟩

theorem eqIntS_same (A A' : Option Addr) (n c c' : Nat) (xs : List Int) (w : World) (hn : xs.length = n) (hle : n ≤ 1048576) (B : Nat) (hr : Row w B A (ints xs)) (hr' : Row w B A' (ints xs)) :
    Calls Tryd.prog 39 #[.slice A n c, .slice A' n c'] w fun e w' => e = .returned (.bool true) ∧ Below w.heap.size w w' :=
  (eqIntS_quiet A A' n c c' xs w hn hle B hr hr').mono fun _ _ ⟨he, m, hw⟩ => ⟨he, by rw [hw]; exact below_drewN (Below.refl _ _) m⟩

/-- The marks k, k + 1, .. -/
def marks (k : Int) (n : Nat) : List Int := (List.range n).map fun (i : Nat) => k + (i : Int)
theorem marks_len (k : Int) (n : Nat) : (marks k n).length = n := by simp [marks]
theorem marks_at (k : Int) (n i : Nat) (h : i < n) : elt (marks k n) i = k + i := by simp [elt, marks, h]

theorem marks_set (xs : List Int) (k : Int) (j : Nat) (h : j < xs.length) : (ints (marks k j) ++ ints (xs.drop j)).set j (.int .i64 (k + j)) = ints (marks k (j + 1)) ++ ints (xs.drop (j + 1)) := by
  have h1 : (ints (marks k j)).length = j := by simp [ints, marks]
  rw [List.set_append_right _ _ (by omega), h1, Nat.sub_self, List.drop_eq_getElem_cons h]
  simp only [ints, List.map_cons, List.set_cons_zero, marks, List.range_succ, List.map_append, List.map_nil, List.append_assoc, List.cons_append, List.nil_append]

theorem markIntS_any (A : Option Addr) (n c : Nat) (xs : List Int) (k : Int) (base : Nat) (w : World) (hn : xs.length = n) (hle : n ≤ 1048576) (hk0 : 0 ≤ k) (hk1 : k ≤ 1099511627776)
    (hown : w.ownsRow base 3 1 (.slice A n c) n (ints xs)) :
    Calls Tryd.prog 49 #[.slice A n c, .int .i64 k] w fun e w' => e = .returned (.int .i64 (k + n)) ∧ w'.ownsRow base 3 1 (.slice A n c) n (ints (marks k n)) ∧ w.grownBy w' (Value.slice A n c).ownBlock := by
  go_enter Tryd.func49, Tryd.ntmps49
  go_wp2
  go_loopw [1, 5] (fun q i wr => ∃ j : Nat, j ≤ n ∧ i = .int .i64 j ∧ q = .int .i64 (k + j) ∧ wr.ownsRow base 3 1 (.slice A n c) n (ints (marks k j) ++ ints (xs.drop j)) ∧ w.grownBy wr (Value.slice A n c).ownBlock) (fun _ i _ => n - (intOf i).toNat)
  case atStart => exact ⟨0, by omega, rfl, by go_num, by simpa [marks, ints] using hown, World.grownBy.refl _ _⟩
  case round =>
    obtain ⟨j, hj, rfl, rfl, hown1, hg1⟩ := hrel
    by_cases hlt : j < n
    · obtain ⟨g, cap, hv, hbase, hgl⟩ := hown1.form (by omega)
      injection hv with hv1 hv2 hv3
      subst hv1 hv3
      obtain ⟨hown2, hg2⟩ := hown1.stored j (.int .i64 (k + j))
      have hfr := hown1.frozenAt j
      obtain ⟨u, hcg⟩ : ∃ u, wr.cell? ⟨g, j, none⟩ = some u := ⟨_, (hown1.cellAt j (by omega)).trans (List.getElem?_eq_getElem (by have := hown1.1; omega))⟩
      go_wp2
      go_roundw
      case rel => exact ⟨j + 1, by omega, by go_num, by go_num, by have e := marks_set xs k j (by omega); rw [← e]; exact hown2, hg1.trans hg2⟩
      case measure => simp [intOf]; omega
    · obtain rfl : j = n := by omega
      go_wp2
      go_ret
      exact ⟨rfl, by simpa [← hn, ints] using hown1, hg1⟩

theorem heldIntS_any (A : Option Addr) (n c : Nat) (k : Int) (B : Nat) (w : World) (hle : n ≤ 1048576) (hk0 : 0 ≤ k) (hk1 : k ≤ 1099511627776) (hr : Row w B A (ints (marks k n))) :
    Calls Tryd.prog 50 #[.slice A n c, .int .i64 k] w fun e w' => e = .returned (.int .i64 (k + n)) ∧ w = w' := by
  go_enter Tryd.func50, Tryd.ntmps50
  go_wp2
  go_loop [1, 5] (fun q i => ∃ j : Nat, j ≤ n ∧ i = .int .i64 j ∧ q = .int .i64 (k + j)) (fun _ i => n - (intOf i).toNat)
  case atStart => exact ⟨0, by omega, rfl, by go_num⟩
  case round =>
    obtain ⟨j, hj, rfl, rfl⟩ := hrel
    by_cases hlt : j < n
    · obtain ⟨b, off, rfl, hb, hc⟩ := hr.int (k := j) (by rw [marks_len]; omega)
      rw [marks_at k n j hlt] at hc
      go_wp2
      go_round
      case rel => exact ⟨j + 1, by omega, by go_num, by go_num⟩
      case measure => simp [intOf]; omega
    · obtain rfl : j = n := by omega
      go_wp2
      go_ret
      exact ⟨rfl, rfl⟩

end Go.Proofs.YtnpiljkchjdpfaaDoor
