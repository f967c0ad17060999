/- The walk of the law on IsValidAtom. No condition. -/
import Derived.Test.YtkgphkpckcfihaaAtom
namespace Go.Proofs.Ytkgphkpckcfihaa
open Go.RowKit

theorem toAtom_any (k : Int) (t : ByteArray) (w : World) : Calls Try.prog 9 #[.agg #[.int .i64 k, .string t]] w fun e w' => e = .returned (.agg #[.int .i64 k, .string t]) ∧ Below w.heap.size w w' := by
  go_enter Try.func9, Try.ntmps9
  go_wp2
  (try simp only [Exit.inBlock, Exit.then])
  refine bodyPost_ret (results_cell_row rfl _ _ (w.heap.size + 1) 26 #[.int .i64 k, .string t] (0, 0) _ rfl ?_ Try.underlying26 rfl (by kernel_rfl)) rfl ?_
  · show (((w.heap.push _).push _).push _)[w.heap.size + 1]? = _
    rw [Array.getElem?_push, if_neg (by simp), Array.getElem?_push, if_pos (by simp)]
  exact ⟨rfl, (((Below.refl _ _).alloc (Nat.le_refl _) _).alloc (by simp) _).alloc (by simp <;> omega) _⟩
theorem szAtom_any (k : Int) (t : ByteArray) (w : World) (hm : t.size ≤ maxLen) : Calls Try.prog 7 #[.agg #[.int .i64 k, .string t], .int .i64 1048576] w fun e w' => e = .returned (.int .i64 (if t.size ≤ 1048576 then 1048576 - (t.size : Int) else -1)) ∧ Below w.heap.size w w' := by
  unfold maxLen at hm
  by_cases h : t.size ≤ 1048576
  · rw [if_pos h]
    go_enter Try.func7, Try.ntmps7
    go_wp2
    go_ret
    exact ⟨rfl, (Below.refl _ _).alloc (Nat.le_refl _) _⟩
  · rw [if_neg h]
    go_enter Try.func7, Try.ntmps7
    go_wp2
    go_ret
    exact ⟨rfl, (Below.refl _ _).alloc (Nat.le_refl _) _⟩
theorem specIsValidAtom_any (k : Int) (t : ByteArray) (w : World) (hm : t.size ≤ maxLen) :
    Calls Try.prog 8 #[.agg #[.int .i64 k, .string t]] w fun e w' => e = .returned (.bool (goodA k t.data.toList)) ∧ Below w.heap.size w w' := by
  go_enter Try.func8, Try.ntmps8
  go_wp2_with fail
  refine (l5Good_any k t _ hm).mono ?_
  rintro e w1 ⟨rfl, hb1⟩
  go_wp2
  go_ret
  exact ⟨rfl, ((Below.refl w.heap.size w).alloc (Nat.le_refl _) _).trans (hb1.mono (by simp))⟩
theorem lawIsValidAtom (k : Int) (t : ByteArray) (w : World) (hm : t.size ≤ maxLen) : Calls Try.prog 3 #[.agg #[.int .i64 k, .string t]] w fun e w' => e = .returned (.bool true) ∧ Below w.heap.size w w' := by
  by_cases h : t.size ≤ 1048576
  · have hz := Lib.hid (fun W => szAtom_any k t W hm)
    rw [if_pos h] at hz
    have b0 := (Below.refl w.heap.size w).alloc (Nat.le_refl _) (.cells #[.int .i64 k, .string t] 23)
    have hcell : (w.alloc (.cells #[.int .i64 k, .string t] 23)).heap[w.heap.size]? = some (.cells #[.int .i64 k, .string t] 23 (0, 0)) := heap_alloc_new w _
    go_enter Try.func3, Try.ntmps3
    go_wp2_with fail
    refine (hz.out _).mono ?_
    rintro e w1 ⟨rfl, hb1⟩
    have c0 : w1.cell? ⟨w.heap.size, 0, none⟩ = some (.int .i64 k) := (hb1.cell (p := ⟨w.heap.size, 0, none⟩) (by simp)).trans (by rw [cell_of_row _ w.heap.size 0 _ _ (0, 0) hcell]; rfl)
    have c1 : w1.cell? ⟨w.heap.size, 1, none⟩ = some (.string t) := (hb1.cell (p := ⟨w.heap.size, 1, none⟩) (by simp)).trans (by rw [cell_of_row _ w.heap.size 1 _ _ (0, 0) hcell]; rfl)
    have b1 := b0.trans (hb1.mono (by simp))
    clear hcell
    have hlt : w.heap.size < w1.heap.size := World.block_lt_of_cell? w1 _ c0
    go_wp2_with fail
    refine (toAtom_any k t w1).mono ?_
    rintro e w2 ⟨rfl, hb2⟩
    have b2 := b1.trans (hb2.mono b1.size)
    go_wp2_with fail
    refine (specIsValidAtom_any k t w2 hm).mono ?_
    rintro e w3 ⟨rfl, hb3⟩
    have b3 := b2.trans (hb3.mono b2.size)
    have d0 := ((hb3.mono hb2.size).cell (p := ⟨w.heap.size, 0, none⟩) hlt).trans ((hb2.cell (p := ⟨w.heap.size, 0, none⟩) hlt).trans c0)
    have d1 := ((hb3.mono hb2.size).cell (p := ⟨w.heap.size, 1, none⟩) hlt).trans ((hb2.cell (p := ⟨w.heap.size, 1, none⟩) hlt).trans c1)
    go_wp2_with fail
    refine (toAtom_any k t w3).mono ?_
    rintro e w4 ⟨rfl, hb4⟩
    have b4 := b3.trans (hb4.mono b3.size)
    go_wp2_with fail
    refine (implIsValidAtom_any k t w4 hm).mono ?_
    rintro e w5 ⟨rfl, hb5⟩
    have b5 := b4.trans (hb5.mono b4.size)
    go_wp2
    go_ret
    exact ⟨rfl, b5⟩
  · have hz := Lib.hid (fun W => szAtom_any k t W hm)
    rw [if_neg h] at hz
    have b0 := (Below.refl w.heap.size w).alloc (Nat.le_refl _) (.cells #[.int .i64 k, .string t] 23)
    go_enter Try.func3, Try.ntmps3
    go_wp2_with fail
    refine (hz.out _).mono ?_
    rintro e w1 ⟨rfl, hb1⟩
    go_wp2
    go_ret
    exact ⟨rfl, b0.trans (hb1.mono (by simp))⟩
end Go.Proofs.Ytkgphkpckcfihaa
