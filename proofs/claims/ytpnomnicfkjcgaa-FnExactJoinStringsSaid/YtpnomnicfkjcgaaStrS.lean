/- Contracts of the laws' helpers on slices of strings: szStringS, toStringS, eqStringS, markStringS, heldStringS, markText. Condition: at most 2^20 elements. -/
import Derived.Test.YtpnomnicfkjcgaaStrs
import Derived.Test.YtpnomnicfkjcgaaPStr
import Derived.Test.YtpnomnicfkjcgaaRows
import Derived.Laws.MakeOwn
import Derived.Laws.BytesArg
import Derived.Deep.QuietTactic
import Derived.BigQuiet
import Derived.Deep.RegionHeld3
import Derived.WalkLawsBesides
import Derived.WalkSpells
import Derived.Outline
import Derived.Lib.Hide
namespace Go.Proofs.Ytpnomnicfkjcgaa
open Go.RowKit

theorem strsT : ElemT Try.prog 22 9 (.string ⟨#[]⟩) 1 16 := ⟨Try.underlying22, by kernel_rfl, rfl, by decide⟩
theorem seq_same (a : ByteArray) : (a.toList == a.toList) = true := by simp

set_option maxHeartbeats 400000 in
theorem szStrS_any (A : Option Addr) (n c : Nat) (ss : List ByteArray) (w : World) (hn : ss.length = n) (hm : n ≤ maxLen) (hs : ∀ s ∈ ss, s.size ≤ maxLen) (B : Nat) (hr : Row w B A (strs ss)) :
    Calls Try.prog 4 #[.slice A n c, .int .i64 1048576] w fun e w' => e = .returned (.int .i64 (if n + sizes ss ≤ 1048576 then 1048576 - (n : Int) - (sizes ss : Int) else -1)) ∧ w = w' := by
  unfold maxLen at hm
  by_cases h : n ≤ 1048576
  · have hd : decide (1048576 - (n : Int) < 0) = false := by simp; omega
    go_enter Try.func4, Try.ntmps4
    go_wp2
    go_loop [1, 5] (fun left i => ∃ k : Nat, k ≤ n ∧ i = .int .i64 k ∧ left = .int .i64 (1048576 - (n : Int) - (sizes (ss.take k) : Int)) ∧ n + sizes (ss.take k) ≤ 1048576) (fun _ i => n - (intOf i).toNat)
    case atStart => exact ⟨0, by omega, rfl, by simp [sizes], by simpa [sizes] using h⟩
    case round =>
      obtain ⟨k, hk, rfl, rfl, hb⟩ := hrel
      by_cases hlt : k < n
      · obtain ⟨b, off, rfl, hbb, hc⟩ := hr.str (k := k) (by omega)
        have hz := hs (elS ss k) (elS_in ss k (by omega))
        unfold maxLen at hz
        have ht := Lib.hid (sizes_take ss k (by omega))
        have he := Lib.hid (elS_at ss k (by omega))
        have hle := sizes_take_le ss (k + 1)
        by_cases hq : n + sizes (ss.take k) + (elS ss k).size ≤ 1048576
        · go_wp2
          go_round
          case rel => exact ⟨k + 1, by omega, by go_num, by rw [ht.out, ← he.out]; go_num, by rw [ht.out, ← he.out]; omega⟩
          case measure => simp [intOf]; omega
        · have hf := Lib.hid (show ¬ n + sizes ss ≤ 1048576 by rw [ht.out, ← he.out] at hle; omega)
          go_wp2
          go_ret
          exact ⟨ret_int (by first | rfl | rw [if_neg hf.out]), rfl⟩
      · obtain rfl : k = n := by omega
        have e : ss.take k = ss := List.take_of_length_le (by omega)
        rw [e] at hb ⊢
        have hf := Lib.hid hb
        go_wp2
        go_ret
        exact ⟨ret_int (by first | rfl | rw [if_pos hf.out]), rfl⟩
  · have hf := Lib.hid (show ¬ n + sizes ss ≤ 1048576 by omega)
    go_enter Try.func4, Try.ntmps4
    go_wp2
    go_ret
    exact ⟨ret_int (by first | rfl | rw [if_neg hf.out]), rfl⟩

theorem toStrS_any (A : Option Addr) (n c : Nat) (ss : List ByteArray) (w : World) (hn : ss.length = n) (hle : n ≤ 1048576) (hr : Row w w.heap.size A (strs ss)) :
    Calls Try.prog 6 #[.slice A n c] w fun e w' => e = .returned (.slice (some ⟨w.heap.size, 0, none⟩) n n) ∧ w'.ownsRow w.heap.size 9 1 (.slice (some ⟨w.heap.size, 0, none⟩) n n) n (strs ss) ∧ Below w.heap.size w w' := by
  have hmk := fun W => run_make_len (P := Try.prog) strsT n (by omega) (by decide) W
  go_enter Try.func6, Try.ntmps6
  go_wp2
  go_loopw [4] (fun i wr => ∃ k : Nat, k ≤ n ∧ i = .int .i64 k ∧ wr.ownsRow w.heap.size 9 1 (.slice (some ⟨w.heap.size, 0, none⟩) n n) n (strs (ss.take k) ++ strs (List.replicate (n - k) ⟨#[]⟩)) ∧ Below w.heap.size w wr) (fun i _ => n - (intOf i).toNat)
  case atStart => exact ⟨0, by omega, rfl, by simpa [strs] using own_made w 9 (.string ⟨#[]⟩) n (by omega), (Below.refl _ _).alloc (Nat.le_refl _) _⟩
  case round =>
    obtain ⟨k, hk, rfl, hown, hbel⟩ := hrel
    by_cases hlt : k < n
    · obtain ⟨b, off, rfl, hb, hc⟩ := (hr.below hbel).str (k := k) (by omega)
      obtain ⟨hown1, hg⟩ := hown.stored k (.string (elS ss k))
      have hp := strs_put (ss.take k) (List.replicate (n - (k + 1)) ⟨#[]⟩) ⟨#[]⟩ (elS ss k) k (by rw [List.length_take]; omega)
      rw [show n - k = (n - (k + 1)) + 1 by omega, List.replicate_succ, hp, ← take_str ss k (by omega)] at hown1
      have o1 := Lib.hid hown1
      clear hown1 hp hg
      have hfr := hown.frozenAt k
      obtain ⟨u, hcg⟩ : ∃ u, wr.cell? ⟨w.heap.size, k, none⟩ = some u := ⟨_, (hown.cellAt k (by omega)).trans (List.getElem?_eq_getElem (by have := hown.1; omega))⟩
      go_wp2
      go_roundw
      case rel => exact ⟨k + 1, by omega, by go_num, o1.out, hbel.setCell (Nat.le_refl _) _⟩
      case measure => simp [intOf]; omega
    · obtain rfl : k = n := by omega
      go_wp2
      go_ret
      exact ⟨rfl, by simpa [← hn, strs] using hown, hbel⟩

set_option maxHeartbeats 400000 in
theorem eqStrS_quiet (A A' : Option Addr) (n c c' : Nat) (ss : List ByteArray) (w : World) (hn : ss.length = n) (hle : n ≤ 1048576) (B : Nat) (hr : Row w B A (strs ss)) (hr' : Row w B A' (strs ss)) :
    Calls Try.prog 8 #[.slice A n c, .slice A' n c'] w fun e w' => e = .returned (.bool true) ∧ ∃ k, w' = w.drewN k := by
  go_enter Try.func8, Try.ntmps8
  go_wp2
  go_loopw [5] (fun i wr => ∃ k : Nat, k ≤ n ∧ i = .int .i64 k ∧ ∃ m, wr = w.drewN m) (fun i _ => n - (intOf i).toNat)
  case atStart => exact ⟨0, by omega, rfl, 0, rfl⟩
  case round =>
    obtain ⟨k, hk, rfl, m, rfl⟩ := hrel
    by_cases hlt : k < n
    · obtain ⟨b, off, rfl, hb, hc⟩ := hr.str (k := k) (by omega)
      obtain ⟨b', off', rfl, hb', hc'⟩ := hr'.str (k := k) (by omega)
      have h1 : (0 : Int) ≤ (k : Int) := by omega
      have h2 : (k : Int) < (n : Int) := by omega
      go_wp2
      go_quiet (fail)
      go_wp2
      go_roundw
      case rel => exact ⟨k + 1, by omega, by go_num, _, rfl⟩
      case measure => simp [intOf]; omega
    · obtain rfl : k = n := by omega
      go_wp2
      go_ret
      exact ⟨rfl, m, rfl⟩
theorem eqStrS_same (A A' : Option Addr) (n c c' : Nat) (ss : List ByteArray) (w : World) (hn : ss.length = n) (hle : n ≤ 1048576) (B : Nat) (hr : Row w B A (strs ss)) (hr' : Row w B A' (strs ss)) :
    Calls Try.prog 8 #[.slice A n c, .slice A' n c'] w fun e w' => e = .returned (.bool true) ∧ Below w.heap.size w w' :=
  (eqStrS_quiet A A' n c c' ss w hn hle B hr hr').mono fun _ _ ⟨he, m, hw⟩ => ⟨he, by rw [hw]; exact below_drewN (Below.refl _ _) m⟩

theorem grown_of_below {w w' : World} (h : Below w.heap.size w w') (row : Option Nat) : w.grownBy w' row := ⟨h.os, h.tape, h.output, h.size, fun j hj _ => h.block j hj⟩
theorem bs_append' (a b : ByteArray) : (a ++ b).data.toList = a.data.toList ++ b.data.toList := by simp
theorem one_num (z : Int) : (strOfNums [z]).data.toList = [UInt8.ofNat z.toNat] := by
  simp [strOfNums]
theorem below_mark {w w' : World} (h : Below w.heap.size w w') {b o : Nat} {x : Value} (hb : b < w.heap.size) (hc : w.cell? ⟨b, o, none⟩ = some x) : w'.cell? ⟨b, o, none⟩ = some x := (h.cell (p := ⟨b, o, none⟩) hb).trans hc

/-- The marks of strings. -/
def marksT (k : Int) (n : Nat) : List ByteArray := (List.range n).map fun (i : Nat) => mkT (k + (i : Int))
theorem marksT_len (k : Int) (n : Nat) : (marksT k n).length = n := by simp [marksT]
theorem marksT_at (k : Int) (n i : Nat) (h : i < n) : elS (marksT k n) i = mkT (k + i) := by simp [elS, marksT, h]
theorem marksT_succ (k : Int) (n : Nat) : marksT k (n + 1) = marksT k n ++ [mkT (k + (n : Int))] := by simp [marksT, List.range_succ]

end Go.Proofs.Ytpnomnicfkjcgaa
